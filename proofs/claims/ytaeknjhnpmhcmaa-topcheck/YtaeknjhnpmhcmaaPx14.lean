/-
  The executor: a region of an open order, every order walked by a plan; its ends meet.
-/
import Derived.Test.YtaeknjhnpmhcmaaWyV
import Derived.Lib.AtoiErrMem
import Derived.Lib.Atoi
import Derived.Below
import Derived.Test.YtaeknjhnpmhcmaaWxz
import Derived.Lib.AtoiAllCases
import Derived.Shelf.Strconv.AtoiAll
import Derived.Shelf.Strings.Prefix
import Derived.Shelf.Slices.Clone
import Derived.Shelf.Slices.CompactS
import Derived.Shelf.Slices.Turned
import Derived.Shelf.Small.Wraps
import Derived.Lib.RowBridge
import Derived.Test.YtaeknjhnpmhcmaaProg
section
namespace Go.Sx
open Go Go.Aw
inductive Pl where
  | d
  | z
  | f (i : Nat) (p : Pl)
  | s (i : Nat) (p : Pl)
  | o (i : Nat) (p q : Pl)
def Pl.ids : Pl → List Nat
  | .o i _ q => i :: q.ids
  | _ => []
def firstK (o : Oper) : Bool :=
  match o.op with
  | .move x | .nilCheck x | .fieldAddr _ x _ => opdOk x
  | _ => false
def plOk (ops : Array Oper) : Pl → Bool → Nat → Array Bool → Bool
  | .d, _, _, l => (Region.ready .any ops l).isEmpty
  | .z, top, _, _ => !top
  | .f i p, _, k, l =>
    match k with
    | 0 => false
    | k + 1 => (match ops[i]? with | some o => firstB ops l i o && firstK o | none => false) && plOk ops p true k (l.setIfInBounds i true)
  | .s i p, _, k, l =>
    match k with
    | 0 => false
    | k + 1 => !(Region.ready .any ops l).isEmpty && ((Region.ready .any ops l).all fun j => j == i) && plOk ops p true k (l.setIfInBounds i true)
  | .o i p q, top, k, l =>
    match k with
    | 0 => false
    | k + 1 => (!top || (!(Region.ready .any ops l).isEmpty && (Region.ready .any ops l).all fun j => (i :: q.ids).contains j)) && ops[i]?.isSome && plOk ops p true k (l.setIfInBounds i true) && plOk ops q false (k + 1) l
def sfirst (c : Cfg) (d : Option Nat) (op : Op) (fr : SFr) (k : SFr → Prop) : Prop :=
  match d, op with
  | some d, .move x => opK fr x fun v => k ((d, v) :: fr)
  | some d, .nilCheck x => opK fr x fun v =>
    match v with
    | .loc i off => k ((d, .loc i off) :: fr)
    | _ => False
  | some d, .fieldAddr s x f => opK fr x fun a =>
    match a with
    | .loc i off => tgK c.T s fun ti => stK ti f fun o _ => k ((d, .loc i (off + o)) :: fr)
    | _ => False
  | _, _ => False
def splan (c : Cfg) (sl : List Nat) (ops : List Oper) (K : SK) : Pl → SK
  | .d, fr, L, m => K fr L m
  | .z, _, _, _ => True
  | .f i p, fr, L, m =>
    match nth ops i with
    | some o => sfirst c o.dst o.op fr fun fr => splan c sl ops K p fr L m
    | none => False
  | .s i p, fr, L, m =>
    match nth ops i with
    | some o => sops c ops sl [o] fr L m fun fr L m => splan c sl ops K p fr L m
    | none => False
  | .o i p q, fr, L, m =>
    (match nth ops i with
    | some o => sops c ops sl [o] fr L m fun fr L m => splan c sl ops K p fr L m
    | none => False) ∧ splan c sl ops K q fr L m
end Go.Sx
namespace Go.Aw
open Go
section
variable {P : Program} {n : Nat} {fr : Fr} {m : AMem} {ops : Array Oper} {fuel : Nat} {listed : Array Bool} {K : Fr → AMem → Prop}
theorem AAny.stepA (hne : Region.ready .any ops listed ≠ []) (h : ∀ i ∈ Region.ready .any ops listed, ∃ o, ops[i]? = some o ∧ AOps P n ops [o] (AAny P n ops fuel (listed.setIfInBounds i true) K) fr m) : AAny P n ops (fuel + 1) listed K fr m := by
  intro F lim w ca Q st hq
  refine ⟨fun h0 => absurd h0 hne, fun i hi => ?_⟩
  obtain ⟨o, ho, key⟩ := h i hi
  unfold wpOp
  rw [ho]
  simp only
  let Q' : Exit → Act → World → Prop := fun e a w' => match e with
    | .normal => wpAny P .any ops Q fuel (listed.setIfInBounds i true) a w'
    | e => Q e a w'
  have hw := key F lim w ca Q' st (fun lim' w' fr' m' ca' hA st' pr => hA F lim' w' ca' Q st' fun lim'' w'' fr'' m'' ca'' hK st'' pr' => hq lim'' w'' fr'' m'' ca'' hK st'' (pr.trans pr'))
  have conv : ∀ {C : Act → World → Prop}, o.wp P ca w C Q' → o.wp P ca w C Q := by
    intro C hC
    unfold Oper.wp at hC ⊢
    generalize (execOp ca.eval o).run P w = res at hC ⊢
    cases res with
    | ok s w' =>
      cases s with
      | enter f args =>
        refine hC.mono fun e w'' hh => ?_
        cases e <;> exact hh
      | _ => exact hC
    | _ => exact hC
  unfold wpList at hw
  split
  · next hwt =>
    rw [if_pos hwt] at hw
    rcases hw with hw | ⟨h1, h2⟩
    · exact .inl (conv hw)
    · exact .inr ⟨h1, h2⟩
  · next hwt =>
    rw [if_neg hwt] at hw
    exact hw
theorem AAny.slots (h : AAny P n ops fuel listed K fr m) : AAny P n ops fuel listed (fun f m => (∀ t x, f.get t = some x → t < n) ∧ K f m) fr m := fun F lim w ca Q st hq =>
  h F lim w ca Q st fun lim' w' f m' ca' hk st' pr => hq lim' w' f m' ca' ⟨fun t x hx => by obtain ⟨_, _, _, s⟩ := st'; exact (s.slots t x hx).1, hk⟩ st' pr
theorem AAny.monoK {K' : Fr → AMem → Prop} (hK : ∀ f m, K f m → K' f m) (h : AAny P n ops fuel listed K fr m) : AAny P n ops fuel listed K' fr m := fun F lim w ca Q st hq =>
  h F lim w ca Q st fun lim' w' f m' ca' hk st' pr => hq lim' w' f m' ca' (hK _ _ hk) st' pr
end
end Go.Aw
namespace Go.Sx
open Go Go.Aw
section
variable {c : Cfg} {n : Nat} {ops : Array Oper} {K : Fr → AMem → Prop} {sl : List Nat} {KK : SK}
theorem sfirst_sound {b0 new : List Nat} (hT : tabOk c.P c.T = true) (hok : ∀ o ∈ ops.toList, okOper n o = true ∧ tmpsOk n o = true) {fuel i : Nat} {o : Oper} {listed : Array Bool} {fr : SFr} {mm : AMem} {k : SFr → Prop} (ho : ops[i]? = some o) (hb : firstB ops listed i o = true) (hf : firstK o = true)
    (h : sfirst c o.dst o.op fr k) (hk : ∀ fr', k fr' → AAny c.P n ops fuel (listed.setIfInBounds i true) K (denF (b0 ++ new) fr') mm) : AAny c.P n ops (fuel + 1) listed K (denF (b0 ++ new) fr) mm := by
  have hm := hok o (by rw [Array.mem_toList_iff]; exact Array.mem_of_getElem? ho)
  cases hd : o.dst with
  | none => rw [hd] at h; unfold sfirst at h; split at h <;> simp_all
  | some d =>
    have hdn := okOper_dst hm.1 hd
    rw [hd] at h
    cases hop : o.op with
    | move x =>
      simp only [hop, sfirst] at h
      obtain ⟨v, h1, e⟩ := opK_sound (b0 ++ new) h
      rw [firstK, hop] at hf
      have := hk _ h1
      simp only [denF] at this
      exact AAny.fMove ho hop hd hdn hf hb e.symm this
    | nilCheck x =>
      simp only [hop, sfirst] at h
      obtain ⟨v, h1, e⟩ := opK_sound (b0 ++ new) h
      rw [firstK, hop] at hf
      split at h1
      · have := hk _ h1
        simp only [denF] at this
        simp only [den] at e this
        exact AAny.fNil ho hop hd hdn hf hb e.symm this
      · exact h1.elim
    | fieldAddr s x f =>
      simp only [hop, sfirst] at h
      obtain ⟨v, h1, e⟩ := opK_sound (b0 ++ new) h
      rw [firstK, hop] at hf
      split at h1
      · rename_i ii off
        obtain ⟨ti, tf, h2⟩ := tg hT h1
        obtain ⟨fa, fd, hu, hfd, i1, i2, h3⟩ := stK_sound tf h2
        have := hk _ h3
        simp only [denF] at this
        simp only [den] at e this
        exact AAny.fField (side := isU c.P fd.type = true ∧ c.P.cellsOf fd.type ≠ 0) ho hop hd hdn hf hb e.symm (by simp only [qv, hu, hfd, ← e] <;> rfl) ⟨i1, i2⟩ this
      · exact h1.elim
    | _ => simp [hop, sfirst] at h
theorem splan_sound {b0 : List Nat} (hT : tabOk c.P c.T = true) (hb0 : c.bs = b0) (hok : ∀ o ∈ ops.toList, okOper n o = true ∧ tmpsOk n o = true ∧ stOk o = true)
    (hK : ∀ fr' L' m' nw, Good (b0 ++ nw) L' m' → KK fr' L' m' → K (denF (b0 ++ nw) fr') (memD (b0 ++ nw) L' m')) :
    ∀ (p : Pl) (top : Bool) (fuel : Nat) (listed : Array Bool) (fr : SFr) (L : List SObj) (m : AMem) (new : List Nat), plOk ops p top fuel listed = true → Good (b0 ++ new) L m → splan c sl ops.toList KK p fr L m →
      (top = true → AAny c.P n ops fuel listed K (denF (b0 ++ new) fr) (memD (b0 ++ new) L m)) ∧
      (∀ f, fuel = f + 1 → ∀ i ∈ p.ids, ∃ o, ops[i]? = some o ∧ AOps c.P n ops [o] (AAny c.P n ops f (listed.setIfInBounds i true) K) (denF (b0 ++ new) fr) (memD (b0 ++ new) L m))
  | .d, top, fuel, listed, fr, L, m, new, ho, g, h => by
    refine ⟨fun _ => AAny.done ?_ (hK _ _ _ _ g h), fun f _ i hi => by cases hi⟩
    simpa [plOk] using ho
  | .z, top, fuel, listed, fr, L, m, new, ho, g, h => by
    refine ⟨fun ht => ?_, fun f _ i hi => by cases hi⟩
    subst ht; simp [plOk] at ho
  | .f i p, top, fuel, listed, fr, L, m, new, ho, g, h => by
    refine ⟨fun _ => ?_, fun f _ i hi => by cases hi⟩
    cases fuel with
    | zero => simp [plOk] at ho
    | succ k =>
      simp only [plOk, Bool.and_eq_true] at ho
      simp only [splan, nth_eq, Array.getElem?_toList] at h
      cases hi : ops[i]? with
      | none => rw [hi] at h; exact h.elim
      | some o =>
        rw [hi] at h ho
        simp only [Bool.and_eq_true] at ho
        exact sfirst_sound hT (fun o ho => ⟨(hok o ho).1, (hok o ho).2.1⟩) hi ho.1.1 ho.1.2 h fun fr' hk => (splan_sound hT hb0 hok hK p true k _ fr' L m new ho.2 g hk).1 rfl
  | .s i p, top, fuel, listed, fr, L, m, new, ho, g, h => by
    refine ⟨fun _ => ?_, fun f _ i hi => by cases hi⟩
    cases fuel with
    | zero => simp [plOk] at ho
    | succ k =>
      simp only [plOk, Bool.and_eq_true, Bool.not_eq_true', List.all_eq_true, beq_iff_eq] at ho
      simp only [splan, nth_eq, Array.getElem?_toList] at h
      refine AAny.stepA (fun e => by rw [e] at ho; simp at ho) fun j hj => ?_
      obtain rfl := ho.1.2 j hj
      cases hi : ops[j]? with
      | none => rw [hi] at h; exact h.elim
      | some o =>
        rw [hi] at h
        refine ⟨o, rfl, sops_sound hT hb0 [o] (fun o' ho' => ?_) g h fun fr' L' m' nw g' hk => (splan_sound hT hb0 hok hK p true k _ fr' L' m' nw ho.2 g' hk).1 rfl⟩
        rw [List.mem_singleton.1 ho']
        exact hok o (by rw [Array.mem_toList_iff]; exact Array.mem_of_getElem? hi)
  | .o i p q, top, fuel, listed, fr, L, m, new, ho, g, h => by
    cases fuel with
    | zero => simp [plOk] at ho
    | succ k =>
      simp only [plOk, Bool.and_eq_true] at ho
      obtain ⟨⟨⟨h1, h2⟩, h3⟩, h4⟩ := ho
      have key : ∀ f, k + 1 = f + 1 → ∀ j ∈ (Pl.o i p q).ids, ∃ o, ops[j]? = some o ∧ AOps c.P n ops [o] (AAny c.P n ops f (listed.setIfInBounds j true) K) (denF (b0 ++ new) fr) (memD (b0 ++ new) L m) := by
        intro f hf j hj
        obtain rfl : k = f := by omega
        simp only [splan, nth_eq, Array.getElem?_toList] at h
        simp only [Pl.ids, List.mem_cons] at hj
        rcases hj with rfl | hj
        · cases hi : ops[j]? with
          | none => rw [hi] at h2; cases h2
          | some o =>
            rw [hi] at h
            refine ⟨o, rfl, sops_sound hT hb0 [o] (fun o' ho' => ?_) g h.1 fun fr' L' m' nw g' hk => (splan_sound hT hb0 hok hK p true k _ fr' L' m' nw h3 g' hk).1 rfl⟩
            rw [List.mem_singleton.1 ho']
            exact hok o (by rw [Array.mem_toList_iff]; exact Array.mem_of_getElem? hi)
        · exact (splan_sound hT hb0 hok hK q false (k + 1) listed fr L m new h4 g h.2).2 k rfl j hj
      refine ⟨fun ht => ?_, key⟩
      subst ht
      simp only [Bool.not_true, Bool.false_or, Bool.and_eq_true, Bool.not_eq_true', List.all_eq_true, List.contains_iff_mem] at h1
      exact AAny.stepA (fun e => by rw [e] at h1; simp at h1) fun j hj => key k rfl j (by simpa [Pl.ids] using h1.2 j hj)
theorem rgA {L : List SObj} {m : AMem} {fr : SFr} {id : Nat} {kn : SK} {A : Prop} {σ : Type} (hT : tabOk c.P c.T = true) (hm : c.P.follows .mixedOrders = true) (p : Pl) (md : List (Nat × Nat)) (ks : List Nat) (k : Nat) (S : σ → SS) (I : σ → Prop)
    (hp : (plOk ops p true ops.size (Array.replicate ops.size false) && ops.toList.all stOk) = true)
    (hB : ∀ x, I x → flK (S x).1 fun fr => flK (S x).2.1 fun L => kn fr L (S x).2.2)
    (hA : splan c (apSl ops.toList) ops.toList (fun fr L m => ∃ x, fits c md ks k fr L m (S x) ∧ I x) p fr L m) : SOr A (SRg c id ops true kn fr L m) := by
  simp only [Bool.and_eq_true, List.all_eq_true] at hp
  refine ⟨.inr ⟨fun new g n Q hk hQ => ?_⟩⟩
  have hk2 := okAll_range hk
  simp only [okAll, Bool.and_eq_true, List.all_eq_true] at hk
  refine AWP.weak (Q := fun e f m => ∃ f' m', Le f' f ∧ (∀ b o, m' b = some o → m b = some o) ∧ Q e f' m') (fun e f m h => h) ?_
  refine awp_any hm (List.range n) hk2 fun K hK => ?_
  have h1 := (splan_sound (K := fun fr mm => ∃ f' m', Le f' fr ∧ (∀ b o, m' b = some o → mm b = some o) ∧ Q .normal f' m') hT rfl (fun o ho => ⟨(hk.1 o ho).1, (hk.1 o ho).2, hp.2 o ho⟩) (fun fr' L' m' nw g' ⟨x, hf, hI⟩ => by
    obtain ⟨g2, hl, hs, hlen⟩ := fits_sound (b0 := c.bs) rfl g' hf
    have := hB x hI
    rw [flK_eq, flK_eq] at this
    exact ⟨_, _, hl, hs, hQ _ _ _ _ (List.prefix_append _ _) g2 this⟩) p true _ _ fr L m new hp.1 g hA).1 rfl
  refine AAny.monoK (fun f mm ⟨hs, f', m', hl, hm', hq⟩ => hK _ _ ⟨f', m', fun t x hx => ?_, hm', hq⟩) (AAny.slots h1)
  obtain ⟨y, hy, hxy⟩ := hl t x hx
  obtain ⟨z, hz, hyz⟩ := keep_le hs t y hy
  rcases hyz with rfl | hyz
  · exact ⟨_, hz, hxy⟩
  · refine ⟨_, hz, .inr fun w lim v os hr => ?_⟩
    have h2 := hyz w lim v os hr
    rcases hxy with rfl | hxy
    · exact h2
    · exact hxy w lim v [] h2
end
end Go.Sx
end
section
namespace Go.Sx
open Go Go.Aw
theorem ACalls.pl {P : Program} {f : FuncId} {a : List AV} {m : AMem} {K : AV → AMem → Prop} (h : ACalls P f a m fun x m' => K x.plain m') : ACalls P f a m K :=
  ⟨h.1, fun F lim w cargs h1 h2 h3 => (h.2 F lim w cargs h1 h2 h3).mono fun _ _ ⟨v, x, lim', m', _, he, hK, hr, hs, hp⟩ => ⟨v, x.plain, lim', m', [], he, hK, hr.plain, hs.drop, hp⟩⟩
example (l : List AV) (n : Int) : AV.plain (.tuple [.slice true l, .int .i64 n, .err 3 n]) = .tuple [.slice false l, .int .i64 n, .err 3 n] := rfl
end Go.Sx
end
section
namespace Go.Aw
open Go
inductive BadT : Value → Prop
  | u64 (n : Int) : BadT (.int .u64 n)
  | iface (t : TypeId) (p : Value) : BadT (.iface t p)
structure TabG where
  e : TypeId
  z : Nat × Nat
  cs : Array Value
section
variable {P : Program}
end
end Go.Aw
end
section
namespace Go.Aw
open Go Go.MapKept
section
variable {P : Program} {F : Nat → Prop} {lim : Nat → Nat} {w w' : World} {n : Nat} {fr : Fr} {m : AMem} {ca : Act} {fl : List Nat}
variable {ops : Array Oper} {stl : List Nat} {r : List Oper} {K : Fr → AMem → Prop} {d : Nat} {ty : TypeId} {pos : String} {af : Array Edge} {gd : Option (Nat × Bool)} {L : List (Nat × AObj)}
end
end Go.Aw
namespace Go.Sx
open Go Go.Aw
theorem mem_base {bs : List Nat} {L : List SObj} {m : AMem} (g : Good bs L m) {b : Nat} {o : AObj} (h : m b = some o) : memD bs L m b = some o :=
  wth_old h fun c hc => by rw [denM_fst g.len] at hc; exact g.fresh c hc
section
variable {P : Program} {T : Tab} {b0 : List Nat} {fr : SFr} {L : List SObj} {m : AMem} {K : SK}
end
section
variable {c : Cfg} {L : List SObj} {fr : SFr} {m : AMem}
end
end Go.Sx
end
section
namespace Go.Sx
open Go Go.Aw
def MapAt {κ ν : Type} (m : AMem) (kf : κ → AV) (vf : ν → AV) (o : Option Nat) (l : List (κ × ν)) : Prop :=
  match o with
  | none => l = []
  | some b => m b = some (.map (l.map (mapAV kf vf)))
theorem MapAt.up {κ ν : Type} {m mm : AMem} {kf : κ → AV} {vf : ν → AV} {o : Option Nat} {l : List (κ × ν)} (ht : ∀ b o, m b = some o → mm b = some o) (h : MapAt m kf vf o l) : MapAt mm kf vf o l := by
  cases o with
  | none => exact h
  | some b => exact ht _ _ h
section
variable {P : Program} {T : Tab} {b0 : List Nat} {fr : SFr} {L : List SObj} {m : AMem} {K : SK}
end
end Go.Sx
end
section
namespace Go.Sx
open Go Go.Aw
section
variable {P : Program} {b0 : List Nat} {fr : SFr} {L : List SObj} {m : AMem}
theorem callN {f : FuncId} {vs : List SV} {Q : SV → List SObj → AMem → Prop} {σ : Type} (I : σ → Prop) (o : σ → SObj) (y : σ → SV) (hs : (scF L.length fr && scM L.length L) = true)
    (h : ∀ bs (mm : AMem), bs.length = L.length → (∀ b o, m b = some o → mm b = some o) → ∀ (K : AV → AMem → Prop), (∀ x b, I x → mm b = none → K (den (bs ++ [b]) (y x)) (mm.upd b (some (denO (bs ++ [b]) (o x))))) → ACalls P f (denL bs vs) mm K)
    (hQ : ∀ x, I x → Q (y x) (L ++ [o x]) m) : SCall P b0 f vs fr L m Q := by
  simp only [Bool.and_eq_true] at hs
  refine ⟨σ, I, y, fun x => L ++ [o x], fun _ => m, fun new g K hK => h (b0 ++ new) _ g.len (fun _ _ hb => mem_base g hb) K fun x b hx hb => ?_, fun x => ?_, hQ⟩
  · obtain ⟨g', e⟩ := mem_new g (by rw [g.len]; exact hs.2) hb (o x)
    have := hK x hx [b] g'
    rw [e] at this
    exact this
  · rw [hs.1]; cases Nat.beq (L ++ [o x]).length L.length <;> rfl
theorem getD_snoc {bs : List Nat} {b n : Nat} (h : bs.length = n) : (bs ++ [b]).getD n 0 = b := by
  subst h
  rw [List.getD_eq_getElem?_getD, List.getElem?_append_right (Nat.le_refl _)]; simp
end
section
variable {bs : List Nat} {L L' : List SObj} {m : AMem} {fr : SFr}
end
end Go.Sx
end
section
namespace Go.Aw
open Go
def ACallsO (P : Program) (f : FuncId) (j : Nat) (args : List AV) (m : AMem) (K : AV → AMem → Prop) : Prop :=
  (∃ fn, P.funcs[f]? = some fn ∧ fn.body.isSome = true ∧ (fn.name == "runtime.NumGoroutine") = false) ∧
  ∀ F lim w (cargs : Array Value) fl, cargs.size = args.length → (∀ i, i < args.length → Rep w lim (cargs.getD i undef) (args.getD i .junk) (if i = j then fl else [])) → St F lim w 0 [] m noAct fl →
    Calls P f cargs w fun e w' => ∃ v x lim' m' os, e = .returned v ∧ K x m' ∧ Rep w' lim' v x os ∧ St F lim' w' 0 [] m' noAct os ∧ Pres F w lim w' lim'
section
variable {P : Program} {F : Nat → Prop} {lim : Nat → Nat} {w : World} {n : Nat} {fr : Fr} {m : AMem} {ca : Act} {fl : List Nat}
theorem acalls_enterO {f : FuncId} {fn : Func} {c : Code} {j : Nat} {args : List AV} {K : AV → AMem → Prop} (hf : P.funcs[f]? = some fn) (hb : fn.body = some c) (hname : (fn.name == "runtime.NumGoroutine") = false) (hargs : args.length ≤ fn.ntmps)
    (h : AWP P fn.ntmps c (RetPost P fn K) (Fr.init 0 args) m) : ACallsO P f j args m K := by
  refine ⟨⟨fn, hf, by rw [hb]; rfl, hname⟩, fun F lim w cargs fl hs hr st => calls_of_wp hf hb ?_⟩
  have st' : St F lim w fn.ntmps (Fr.init 0 args) m { tmps := cargs ++ Array.replicate (fn.ntmps - cargs.size) undef, defers := [] } [] := by
    obtain ⟨os, om, ow, k⟩ := st
    refine ⟨fun t => if t = j then fl else [], om, fun c => if ow c = .fly then .slot j else ow c, by simp; omega, rfl, fun t x hx => ?_, k.mem, fun t x hx => ?_, fun b o hb i => ⟨(k.ownM b o hb i).1, fun c hc => by simp [(k.ownM b o hb i).2 c hc]⟩, ⟨List.nodup_nil, fun c hc => by cases hc⟩, fun c hc => ?_, k.fresh⟩
    · obtain ⟨_, h1, h2⟩ := Fr.get_init args 0 t x hx
      simp only [Nat.sub_zero] at h1 h2
      refine ⟨by omega, ?_⟩
      have e : (cargs ++ Array.replicate (fn.ntmps - cargs.size) undef).getD t undef = cargs.getD t undef := by
        simp [Array.getD_eq_getD_getElem?, Array.getElem?_append, show t < cargs.size from by omega]
      rw [e, ← h2]
      exact hr t h1
    · by_cases ht : t = j
      · subst ht
        simp only [if_true]
        exact ⟨k.ownF.1, fun c hc => by simp [k.ownF.2 c hc]⟩
      · simp [if_neg ht]
    · by_cases h1 : ow c = .fly
      · exact k.free c (by rw [h1]; simp)
      · simp only [h1, if_false] at hc
        exact k.free c hc
  refine wp_mono (h F lim w _ st') fun e a w' ⟨lim', fr', m', q, s1, pr⟩ => ?_
  have hret : resK P fn fr' m' K → a.defers = [] ∧ ∃ v, (results fn a.tmps).run P w' = .ok v w' ∧ ∃ v' x lim' m' os, Ending.returned v = .returned v' ∧ K x m' ∧ Rep w' lim' v' x os ∧ St F lim' w' 0 [] m' noAct os ∧ Pres F w lim w' lim' := fun q => by
    obtain ⟨v, x, m'', os, h1, h2, h3, h4⟩ := resK_sound q s1
    exact ⟨s1.defers, v, h1, v, x, lim', m'', os, rfl, h2, h3, h4, pr⟩
  cases e with
  | ret => exact hret q
  | normal => exact hret q
  | _ => exact q.elim
theorem St.splitO (h : St F lim w n fr m ca fl) : ∃ F' : Nat → Prop, (∀ b, F b → F' b) ∧ St F' lim w 0 [] m noAct fl ∧
    ∀ lim' w' m' os, St F' lim' w' 0 [] m' noAct os → Pres F' w lim w' lim' → St F lim' w' n fr m' ca os := by
  obtain ⟨os, om, ow, h⟩ := h
  refine ⟨fun b => F b ∨ (ow b).isSlot = true, fun b hb => .inl hb, ⟨os, om, fun c => if (ow c).isSlot then .none else ow c, rfl, rfl, fun t x hx => by simp [Fr.get] at hx, fun b o hb => ?_, fun t x hx => by simp [Fr.get] at hx, fun b o hb i => ⟨(h.ownM b o hb i).1, fun c hc => by simp [(h.ownM b o hb i).2 c hc, Place.isSlot]⟩, ⟨h.ownF.1, fun c hc => by simp [h.ownF.2 c hc, Place.isSlot]⟩, fun c hc => ?_, fun b hb => ?_⟩, ?_⟩
  · refine ⟨(h.mem b o hb).1, (h.mem b o hb).2.1, fun hf => ?_⟩
    rcases hf with hf | hf
    · exact (h.mem b o hb).2.2 hf
    · have := (h.free b (by intro e; rw [e] at hf; simp [Place.isSlot] at hf)).2.1
      rw [hb] at this; cases this
  · by_cases hs : (ow c).isSlot = true
    · simp [hs] at hc
    · simp only [hs] at hc
      have := h.free c (by simpa using hc)
      exact ⟨fun hf => hf.elim this.1 hs, this.2⟩
  · have := h.fresh b hb
    refine ⟨this.1, fun hf => hf.elim this.2.1 (fun hs => ?_), this.2.2⟩
    have := (h.free b (by intro e; rw [e] at hs; simp [Place.isSlot] at hs)).2.2
    omega
  · intro lim' w' m' fl2 ⟨os2, om2, ow2, k⟩ pr
    have hsl : ∀ c, ow2 c ≠ .none → ¬ (ow c).isSlot = true := fun c hc hs => (k.free c hc).1 (.inr hs)
    refine ⟨os, om2, fun c => if (ow c).isSlot then ow c else ow2 c, h.size, h.defers, fun t x hx => ⟨(h.slots t x hx).1, (h.slots t x hx).2.stable pr.mono pr.cell (fun c hc => pr.res c (.inr ?_))⟩, fun b o hb => ?_, fun t x hx => ⟨(h.ownS t x hx).1, fun c hc => ?_⟩, fun b o hb i => ⟨(k.ownM b o hb i).1, fun c hc => ?_⟩, ⟨k.ownF.1, fun c hc => ?_⟩, fun c hc => ?_, fun b hb => ?_⟩
    · rw [(h.ownS t x hx).2 c hc]; rfl
    · exact ⟨(k.mem b o hb).1, (k.mem b o hb).2.1, fun hf => (k.mem b o hb).2.2 (.inl hf)⟩
    · have := (h.ownS t x hx).2 c hc
      simp [this, Place.isSlot]
    · have h1 := (k.ownM b o hb i).2 c hc
      have := hsl c (by rw [h1]; simp)
      simp [this, h1]
    · have h1 := k.ownF.2 c hc
      have := hsl c (by rw [h1]; simp)
      simp [this, h1]
    · by_cases hs : (ow c).isSlot = true
      · have h1 := h.free c (by intro e; rw [e] at hs; simp [Place.isSlot] at hs)
        refine ⟨h1.1, ?_, Nat.lt_of_lt_of_le h1.2.2 pr.size⟩
        cases hm : m' c with
        | none => rfl
        | some o => exact ((k.mem c o hm).2.2 (.inr hs)).elim
      · have h1 := k.free c (by simpa [hs] using hc)
        exact ⟨fun hf => h1.1 (.inl hf), h1.2⟩
    · have := k.fresh b hb
      exact ⟨this.1, fun hf => this.2.1 (.inl hf), this.2.2⟩
theorem call_wpO {f : FuncId} {j : Nat} {args : List AV} {K : AV → AMem → Prop} (hc : ACallsO P f j args m K) (st : St F lim w n fr m ca fl) {cargs : Array Value} (hs : cargs.size = args.length) (hr : ∀ i, i < args.length → Rep w lim (cargs.getD i undef) (args.getD i .junk) (if i = j then fl else []))
    {o : Oper} {next : Act → World → Prop} {Q : Exit → Act → World → Prop} (he : ∀ fn, P.funcs[f]? = some fn → fn.body.isSome = true → (fn.name == "runtime.NumGoroutine") = false → (execOp ca.eval o).run P w = .ok (.enter f cargs) w)
    (hn : ∀ v x lim' w' m' os, K x m' → Rep w' lim' v x os → St F lim' w' n fr m' ca os → Pres F w lim w' lim' → next (ca.put o.dst v) w') : o.wp P ca w next Q := by
  obtain ⟨⟨fn, h1, h2, h3⟩, hcall⟩ := hc
  obtain ⟨F', hF, s1, s2⟩ := st.splitO
  unfold Oper.wp
  rw [he fn h1 h2 h3, Oper.upon_enter]
  refine (hcall F' lim w cargs fl hs hr s1).mono fun e w' ⟨v, x, lim', m', os, he, hK, hR, hS, hP⟩ => ?_
  subst he
  exact hn v x lim' w' m' os hK hR (s2 lim' w' m' os hS hP) (hP.weaken hF)
end
end Go.Aw
namespace Go.Sx
open Go Go.Aw
section
variable {P : Program} {b0 : List Nat} {fr : SFr} {L : List SObj} {m : AMem}
theorem enterO {c : Cfg} {f : FuncId} {fn : Func} {cd : Code} {j : Nat} {vs : List SV} {K : AV → AMem → Prop} (e : Bool) (hT : tabOk c.P c.T = true) (hm : c.P.follows .mixedOrders = true) (hf : c.P.funcs[f]? = some fn) (hb : fn.body = some cd) {k : Nat} (hok : fnOk c.xs fn cd k = true) (hl : vs.length = k) (g : Good c.bs L m)
    (h : wpc c cd (sret c false fn.results.toList K) (fun _ _ _ _ => False) (sret c e fn.results.toList K) (initF 0 vs) L m) : ACallsO c.P f j (denL c.bs vs) (memD c.bs L m) K := by
  simp only [fnOk, Bool.and_eq_true, Bool.not_eq_true'] at hok
  obtain ⟨⟨⟨o1, o2⟩, o3⟩, o4⟩ := hok
  refine acalls_enterO hf hb o1 (by rw [denL_len, hl]; exact Nat.le_of_ble_eq_true o2) ?_
  have := wpc_sound (b0 := c.bs) (new := []) hT hm rfl cd (by rw [List.append_nil]; exact g) o3 h
  rw [List.append_nil, initF_den] at this
  refine awp_postErr c.E (resT fn.results.toList) (fun ex f mm hp => ?_) this
  obtain ⟨fr', L', m', nw, g', rfl, rfl, h'⟩ := hp
  cases ex with
  | normal => exact .inl (resKL_sound hT rfl g' (by simpa using Nat.le_of_ble_eq_true o4) h')
  | exit id => exact h'.elim
  | ret =>
    simp only [sret] at h'
    cases e with
    | false => exact .inl (resKL_sound hT rfl g' (by simpa using Nat.le_of_ble_eq_true o4) h')
    | true =>
      simp only at h'
      rw [flK_eq] at h'
      right
      rw [← errF_den]
      exact resKL_sound hT rfl g' (by simpa using Nat.le_of_ble_eq_true o4) h'
  | _ => exact h'.elim
theorem callO {f : FuncId} {args : Array Operand} {ts : Array TypeId} {s d : Nat} {rest : List Operand} {l : List AV} {us : List SV} {k : SK} (y : SV) (ha : args.toList = .tmp s :: rest) (hs : sgK fr s fun v => v = .own l) (hr : opLK fr rest fun vs => vs = us)
    (h : ∀ bs (mm : AMem) (K : AV → AMem → Prop), K (den bs y) mm → ACallsO P f 0 (.slice true l :: denL bs us) mm K)
    (hq : k ((d, y) :: (s, .av (.slice false l)) :: fr) L m) : SOp P b0 (some d) (.call ⟨.value (.func f), args, ts⟩) fr L m k := ⟨fun new g n ops ty pos af q KK hok hn hK => by
  have hslot := sgK_get (bs := b0 ++ new) hs (by simp)
  simp only [den] at hslot
  obtain ⟨vs, rfl, e1⟩ := opLK_sound (b0 ++ new) hr
  refine AOps.step rfl fun F lim w ca st next Q hn' => ?_
  have hopd := okOper_opd hok
  obtain ⟨os, st1, hrep⟩ := st.take hslot
  have hA : ∀ x ∈ rest, Rep w lim (ca.eval x) (evP (rawOf (denF (b0 ++ new) fr)) x) [] := fun x hx => by
    have hx2 : x ∈ args.toList := by rw [ha]; exact List.mem_cons_of_mem _ hx
    exact evP_rep st (hopd x (by simp [Op.operands, Call.operands]; first | exact .inr (by simpa using hx2) | simpa using hx2))
  have hsz : (args.map ca.eval).size = (AV.slice true l :: denL (b0 ++ new) vs).length := by
    have : args.size = rest.length + 1 := by rw [← Array.length_toList, ha]; rfl
    rw [e1]; simp [this]
  refine call_wpO (h (b0 ++ new) _ (fun x m' => AOps P n ops q KK (Aw.putO ((denF (b0 ++ new) fr).put s (AV.slice true l).plain) (some d) x) m') ?_) st1 hsz (fun i hi => ?_) (fun fn g1 g2 g3 => by simp [execOp, resolve, Deferred.ofValue, Act.eval, invoke, run_callFunc _ g1 g2 g3]) fun v x lim' w' m' os' hKx hR hS hP => ?_
  · have := hK _ _ _ _ (List.prefix_append b0 new) g hq
    simp only [denF, den] at this
    exact this
  · have hi' : i < args.size := by
      have h9 := hsz
      simp only [Array.size_map] at h9
      omega
    have e2 : (args.map ca.eval).getD i undef = ca.eval (args.toList.getD i (.tmp s)) := by
      simp [Array.getD, hi', List.getD_eq_getElem?_getD]
    rw [e2, ha]
    cases i with
    | zero => simpa [Act.eval] using hrep
    | succ i =>
      simp only [Nat.succ_ne_zero, if_false, List.getD_cons_succ]
      have hi2 : i < rest.length := by
        have : args.size = rest.length + 1 := by rw [← Array.length_toList, ha]; rfl
        omega
      have e3 : (denL (b0 ++ new) vs).getD i .junk = evP (rawOf (denF (b0 ++ new) fr)) rest[i] := by
        rw [e1]; simp [List.getD_eq_getElem?_getD, hi2]
      have e4 : rest.getD i (.tmp s) = rest[i] := by simp [List.getD_eq_getElem?_getD, hi2]
      rw [e3, e4]
      exact hA _ (List.getElem_mem _)
  · exact hn' lim' w' _ m' _ hKx (hS.putO (fun t ht => okOper_dst hok ht) hR) hP⟩
end
end Go.Sx
end
section
namespace Go.Sx
open Go Go.Aw
def ownC {β : Type} (f : β → AV) (zs : List (List β)) : List AV := zs.map fun l => .slice true (l.map f)
theorem own_set {β : Type} (f : β → AV) (zs : List (List β)) (k : Nat) (p : AV) (l : List β) : ((ownC f zs).set k p).set k (.slice true (l.map f)) = ownC f (zs.set k l) := by
  rw [List.set_set, ownC, ownC, List.map_set]
theorem ownC_len {β : Type} (f : β → AV) (zs : List (List β)) : (ownC f zs).length = zs.length := by simp [ownC]
theorem ownC_get {β : Type} (f : β → AV) (zs : List (List β)) {k : Int} (h : 0 ≤ k ∧ k < zs.length) : (ownC f zs).getD k.toNat .junk = .slice true ((gI zs k).map f) := by
  have hk : k.toNat < zs.length := by omega
  simp [ownC, gI, List.getD_eq_getElem?_getD, hk]
theorem flatK_pln {β : Type} (f : β → AV) (zs : List (List β)) : flatK (fun l : List β => AV.slice false (l.map f)) zs = zs.map fun l => AV.slice false (l.map f) := by
  unfold flatK
  induction zs with
  | nil => rfl
  | cons a r ih => rw [List.map_cons, List.flatMap_cons, ih]; rfl
section
variable {P : Program} {T : Tab} {b0 : List Nat} {fr : SFr} {L : List SObj} {m : AMem} {K : SK}
theorem ldo (hT : tabOk P T = true) {β : Type} (f : β → AV) (zs : List (List β)) {i d t : Nat} {kk : Int} {x : Operand} (hp : opK fr x fun p => p = .elt i kk 1 0) (hi : nth L i = some (.obj (.cells (ownC f zs)))) (ht : tgK T t fun ti => ti.k.isSt = false) (h0 : 0 ≤ kk ∧ kk < zs.length)
    (h : flK (L.set i (.obj (.cells ((ownC f zs).set kk.toNat (.slice false ((gI zs kk).map f)))))) fun L' => K ((d, .own ((gI zs kk).map f)) :: fr) L' m) : SOp P b0 (some d) (.load t x) fr L m K := ⟨fun new g n ops ty pos af l KK hok hn hK => by
  obtain ⟨ti, tf, hti⟩ := tg hT ht
  obtain ⟨v, rfl, e⟩ := opK_sound (b0 ++ new) hp
  rw [nth_eq] at hi
  have hm := mem_get g hi
  simp only [denO] at hm
  rw [flK_eq] at h
  have hg := ownC_get f zs h0
  refine AOps.val (stl := [d]) (ss := []) (side := isU P t = true ∧ aggT P t = false ∧ kk.toNat < (ownC f zs).length) (m' := (memD (b0 ++ new) L m).upd ((b0 ++ new).getD i 0) (some (.cells ((ownC f zs).set kk.toNat ((ownC f zs).getD kk.toNat .junk).plain)))) (x := (ownC f zs).getD kk.toNat .junk) hok hn ?_ ⟨tf.is, tf.ag.trans hti, by rw [ownC_len]; omega⟩ ?_
  · have e3 : evP (rawOf (denF (b0 ++ new) fr)) x = .ptr ⟨(b0 ++ new).getD i 0, kk.toNat, none⟩ := by
      rw [← e]; simp only [den]; rw [show 0 + kk.toNat * 1 + 0 = kk.toNat by omega]
    simp only [ares, has_one, if_true, e3, hm]
  · have := hK _ _ _ (b0 ++ new) (List.prefix_append _ _) (g.set i (.obj (.cells ((ownC f zs).set kk.toNat (.slice false ((gI zs kk).map f)))))) h
    rw [← mem_set g hi] at this
    simp only [denF, denO, den] at this
    simp only [Fr.strip, Fr.put, putO, hg, AV.plain]
    exact this⟩
theorem sto (hT : tabOk P T = true) (cl cl' : List AV) {i s t : Nat} {kk : Int} {a : Operand} {l : List AV} (hp : opK fr a fun p => p = .elt i kk 1 0) (hi : nth L i = some (.obj (.cells cl))) (hs : sgK fr s fun v => v = .own l) (ht : tgK T t fun ti => ti.n = 1) (h0 : 0 ≤ kk ∧ kk < cl.length) (he : cl.set kk.toNat (.slice true l) = cl')
    (h : flK (L.set i (.obj (.cells cl'))) fun L' => K ((s, .av (.slice false l)) :: fr) L' m) : SOp P b0 none (.store t a (.tmp s)) fr L m K := ⟨fun new g n ops ty pos af q KK hok hn hK => by
  obtain ⟨ti, tf, hti⟩ := tg hT ht
  obtain ⟨v, rfl, e⟩ := opK_sound (b0 ++ new) hp
  have hslot := sgK_get (bs := b0 ++ new) hs (by simp)
  simp only [den] at hslot
  rw [nth_eq] at hi
  have hm := mem_get g hi
  simp only [denO] at hm
  rw [flK_eq] at h
  have hraw : rawOf (denF (b0 ++ new) fr) s = .slice true l := by rw [rawOf, hslot]; rfl
  have hc : P.cellsOf t = 1 := by rw [tf.cells, hti]
  have hkl : kk.toNat < cl.length := by omega
  have hset : cl.take kk.toNat ++ (AV.slice true l).cells ++ cl.drop (kk.toNat + P.cellsOf t) = cl' := by
    rw [← he, hc, List.set_eq_take_append_cons_drop, if_pos hkl]; simp [AV.cells]
  refine AOps.eff (stl := []) (ss := slotOf (.tmp s)) (side := (evR (rawOf (denF (b0 ++ new) fr)) (.tmp s)).topOk = true ∧ ((evR (rawOf (denF (b0 ++ new) fr)) (.tmp s)).cells.all AV.one) = true ∧ (evR (rawOf (denF (b0 ++ new) fr)) (.tmp s)).cells.length = P.cellsOf t ∧ isU P t = true ∧ kk.toNat + P.cellsOf t ≤ cl.length)
    (m' := (memD (b0 ++ new) L m).upd ((b0 ++ new).getD i 0) (some (.cells (cl.take kk.toNat ++ (evR (rawOf (denF (b0 ++ new) fr)) (.tmp s)).cells ++ cl.drop (kk.toNat + P.cellsOf t))))) hok hn ?_ ⟨by simp only [evR, hraw]; rfl, by simp only [evR, hraw]; rfl, by simp only [evR, hraw, hc]; rfl, tf.is, by rw [hc]; omega⟩ ?_
  · have e3 : evP (rawOf (denF (b0 ++ new) fr)) a = .ptr ⟨(b0 ++ new).getD i 0, kk.toNat, none⟩ := by
      rw [← e]; simp only [den]; rw [show 0 + kk.toNat * 1 + 0 = kk.toNat by omega]
    simp only [ares, e3, hm]
  · have := hK _ _ _ (b0 ++ new) (List.prefix_append _ _) (g.set i (.obj (.cells cl'))) h
    rw [← mem_set g hi] at this
    simp only [denF, denO, den] at this
    simp only [evR, hraw, hset, slotOf, Fr.strip, Fr.put, AV.plain]
    exact this⟩
theorem mks (hT : tabOk P T = true) {α : Type} (f : α → AV) (z : α) (k : Int) {d t e : Nat} {x y : Operand} (ht : tgK T t fun ti => ti.k = .sl e) (he : tgK T e fun tj => tj.n = 1) (hx : opK fr x fun v => v = .av (.int .i64 k)) (hy : opK fr y fun v => v = .av (.int .i64 k)) (hz : zeroA P e = some (f z)) (hf : (f z).cells = [f z])
    (htop : (f z).topOk = true) (h0 : 0 ≤ k) (hb : k * P.bytesOf e ≤ 140737488355328) (hk : k ≤ 140737488355328) (hs : (scF L.length fr && scM L.length L) = true)
    (h : K ((d, .ms L.length k.toNat k.toNat) :: fr) (L ++ [.obj (.cells ((List.replicate k.toNat z).map f))]) m) : SOp P b0 (some d) (.makeSlice t x y) fr L m K := ⟨fun new g n ops ty pos af l KK hok hn hK => by
  obtain ⟨ti, tf, hti⟩ := tg hT ht
  obtain ⟨tj, tg', htj⟩ := tg hT he
  obtain ⟨v, rfl, e1⟩ := opK_sound (b0 ++ new) hx
  obtain ⟨u, rfl, e2⟩ := opK_sound (b0 ++ new) hy
  simp only [den, AV.plain] at e1 e2
  simp only [Bool.and_eq_true] at hs
  refine aopR_sound (stl := []) hok hn ?_
  refine ar_makeSlice (P := P) (ops := ops) (stl := []) (r := []) (K := AOps P n ops l KK) (L := denM (b0 ++ new) L) rfl f z k (tf.sl hti).1 e1.symm e2.symm hz hf htop tg'.is (by rw [tg'.cells, htj]) h0 hb hk fun b hbm => ?_
  obtain ⟨g', e3⟩ := mem_new g (by rw [g.len]; exact hs.2) hbm (.obj (.cells ((List.replicate k.toNat z).map f)))
  have := hK _ _ _ ((b0 ++ new) ++ [b]) (by rw [List.append_assoc]; exact List.prefix_append _ _) g' h
  rw [e3] at this
  have e4 : denF ((b0 ++ new) ++ [b]) fr = denF (b0 ++ new) fr := scF_den (by rw [g.len]; exact hs.1)
  simp only [denF, den, e4] at this
  rw [show ((b0 ++ new) ++ [b]).getD L.length 0 = b by rw [← g.len, List.getD_eq_getElem?_getD, List.getElem?_concat_length]; rfl] at this
  exact this⟩
theorem cvW {c : Cfg} {A : SK} {R : Prop} {β : Type} (f : β → AV) (zs : List (List β)) {i : Nat} (hi : nth L i = some (.obj (.cells (ownC f zs)))) (h : flK (L.set i (.obj (.cells (flatK (fun l : List β => AV.slice false (l.map f)) zs)))) fun L' => SOr (SCv c A fr L' m) False) : SOr (SCv c A fr L m) R := by
  rw [flK_eq] at h
  rw [nth_eq] at hi
  obtain ⟨h | h⟩ := h
  · refine ⟨.inl ⟨fun new g n cd Q hQ => ?_⟩⟩
    refine AWP.lessM ?_ (h.h new (g.set i _) n cd Q hQ)
    rw [← mem_set g hi]
    intro b o' hb
    simp only [AMem.upd] at hb
    by_cases e : b = (c.bs ++ new).getD i 0
    · rw [if_pos e] at hb
      obtain rfl := Option.some.inj hb
      refine ⟨_, by rw [e]; exact mem_get g hi, .inr ⟨_, _, rfl, rfl, ?_, fun j => ?_⟩⟩
      · rw [flatK_len (sz := 1) (fun _ => rfl), ownC_len, Nat.mul_one]
      · rcases Nat.lt_or_ge j zs.length with hj | hj
        · have e1 : (ownC f zs).getD j .junk = .slice true (zs[j].map f) := by simp [ownC, List.getD_eq_getElem?_getD, hj]
          have e2 : (flatK (fun l : List β => AV.slice false (l.map f)) zs).getD j .junk = .slice false (zs[j].map f) := by
            rw [flatK_pln]; simp [List.getD_eq_getElem?_getD, hj]
          rw [e1, e2]; exact .pl rfl
        · have e1 : (ownC f zs).getD j .junk = .junk := by simp [List.getD_eq_getElem?_getD, ownC_len, hj]
          have e2 : (flatK (fun l : List β => AV.slice false (l.map f)) zs).getD j .junk = .junk := by
            simp [List.getD_eq_getElem?_getD, flatK_len (sz := 1) (f := fun l : List β => AV.slice false (l.map f)) (fun _ => rfl), hj]
          rw [e1, e2]; exact .pl rfl
    · rw [if_neg e] at hb
      exact ⟨o', hb, .inl rfl⟩
  · exact h.elim
end
end Go.Sx
end
section
namespace Go.Sx
open Go Go.Aw
section
variable {P : Program} {T : Tab} {b0 : List Nat} {fr : SFr} {L : List SObj} {m : AMem} {K : SK}
theorem mke (hT : tabOk P T = true) (E : Nat) {d t : Nat} {e : Int} {x : Operand} {y : AV} (hx : opK fr x fun a => mkiK T t a fun u => u = .av y) (hy : y.plain.toErr E = .err E e)
    (h : K ((d, .av (.err E e)) :: fr) L m) : SOp P b0 (some d) (.makeInterface t x) fr L m K := ⟨fun new g n ops ty pos af l KK hok hn hK => by
  obtain ⟨v, h1, e1⟩ := opK_sound (b0 ++ new) hx
  obtain ⟨side, z, u, hq, hs, rfl, rfl⟩ := mkiK_sound (P := P) (L := L) (m := m) hT h1 e1
  refine AOps.qv hok hq hs ?_
  have := hK _ _ _ (b0 ++ new) (List.prefix_append _ _) g h
  refine AOps.less ?_ this
  intro q w hw
  simp only [denF, Fr.get, Fr.put, den] at hw ⊢
  by_cases c : d = q
  · rw [if_pos c] at hw ⊢
    obtain rfl := Option.some.inj hw
    refine ⟨_, rfl, .inr fun _ _ _ _ hr => ?_⟩
    have h2 := toErr_rep E hr
    rw [hy] at h2
    exact h2.plain
  · rw [if_neg c] at hw ⊢
    exact ⟨w, hw, .inl rfl⟩⟩
end
end Go.Sx
end
section
namespace Go.Sx
open Go Go.Aw
def swl {α : Type} : Nat → List α → List α
  | 0, a :: b :: r => b :: a :: r
  | i + 1, a :: r => a :: swl i r
  | _, l => l
def swN (i j : Nat) : Nat := bif Nat.beq j i then i + 1 else bif Nat.beq j (i + 1) then i else j
mutual
def swV (i : Nat) : SV → SV
  | .loc j o => .loc (swN i j) o
  | .ms j n c => .ms (swN i j) n c
  | .mp j => .mp (swN i j)
  | .elt j k w q => .elt (swN i j) k w q
  | .sl j a n c => .sl (swN i j) a n c
  | .agg l => .agg (swL i l)
  | .tup l => .tup (swL i l)
  | .fn f a c => .fn f (swL i a) (swL i c)
  | .av x => .av x
  | .own l => .own l
  | .b x => .b x
  | .off => .off
def swL (i : Nat) : List SV → List SV
  | [] => []
  | v :: r => swV i v :: swL i r
end
def swF (i : Nat) : SFr → SFr
  | [] => []
  | (t, v) :: r => (t, swV i v) :: swF i r
def swO (i : Nat) : SObj → SObj
  | .cells l => .cells (swL i l)
  | .obj o => .obj o
def swM (i : Nat) : List SObj → List SObj
  | [] => []
  | o :: r => swO i o :: swM i r
theorem swl_len {α : Type} : ∀ (i : Nat) (l : List α), (swl i l).length = l.length
  | 0, [] => rfl
  | 0, [_] => rfl
  | 0, _ :: _ :: _ => rfl
  | i + 1, [] => rfl
  | i + 1, a :: r => by simp [swl, swl_len i r]
theorem swl_perm {α : Type} : ∀ (i : Nat) (l : List α), (swl i l).Perm l
  | 0, [] => .refl _
  | 0, [_] => .refl _
  | 0, a :: b :: r => .swap a b r
  | i + 1, [] => .refl _
  | i + 1, a :: r => (swl_perm i r).cons a
theorem swl_getD : ∀ (i : Nat) (l : List Nat) (j : Nat), i + 1 < l.length → (swl i l).getD (swN i j) 0 = l.getD j 0
  | 0, [], _, h => by simp at h
  | 0, [_], _, h => by simp at h
  | 0, a :: b :: r, 0, _ => rfl
  | 0, a :: b :: r, 1, _ => rfl
  | 0, a :: b :: r, j + 2, _ => rfl
  | i + 1, [], _, h => by simp at h
  | i + 1, a :: r, 0, _ => by simp [swl, swN, Nat.beq]
  | i + 1, a :: r, j + 1, h => by
    have h2 := swl_getD i r j (by simp at h; omega)
    have e : swN (i + 1) (j + 1) = swN i j + 1 := by
      unfold swN
      have e1 : Nat.beq (j + 1) (i + 1) = Nat.beq j i := rfl
      have e2 : Nat.beq (j + 1) (i + 1 + 1) = Nat.beq j (i + 1) := rfl
      rw [e1, e2]
      cases Nat.beq j i <;> cases Nat.beq j (i + 1) <;> rfl
    rw [e]; simpa [swl] using h2
theorem swl_take {α : Type} : ∀ (k i : Nat) (l : List α), k ≤ i → (swl i l).take k = l.take k
  | 0, _, _, _ => by simp
  | k + 1, 0, _, h => by omega
  | k + 1, i + 1, [], _ => rfl
  | k + 1, i + 1, a :: r, h => by simp [swl, swl_take k i r (by omega)]
theorem swl_zip {α β : Type} : ∀ (i : Nat) (l : List α) (k : List β), l.length = k.length → (swl i l).zip (swl i k) = swl i (l.zip k)
  | 0, [], [], _ => rfl
  | 0, [_], [_], _ => rfl
  | 0, _ :: _ :: _, _ :: _ :: _, _ => rfl
  | i + 1, [], [], _ => rfl
  | i + 1, a :: r, b :: s, h => by simp [swl, swl_zip i r s (by simpa using h)]
  | 0, [], _ :: _, h => by simp at h
  | 0, _ :: _, [], h => by simp at h
  | 0, [_], _ :: _ :: _, h => by simp at h
  | 0, _ :: _ :: _, [_], h => by simp at h
  | i + 1, [], _ :: _, h => by simp at h
  | i + 1, _ :: _, [], h => by simp at h
mutual
theorem swV_den {bs : List Nat} {i : Nat} (h : i + 1 < bs.length) : ∀ v : SV, den (swl i bs) (swV i v) = den bs v
  | .loc j o => by simp only [swV, den, swl_getD i bs j h]
  | .ms j n c => by simp only [swV, den, swl_getD i bs j h]
  | .mp j => by simp only [swV, den, swl_getD i bs j h]
  | .elt j k w q => by simp only [swV, den, swl_getD i bs j h]
  | .sl j a n c => by simp only [swV, den, swl_getD i bs j h]
  | .agg l => by simp only [swV, den, swL_den h l]
  | .tup l => by simp only [swV, den, swL_den h l]
  | .fn f a c => by simp only [swV, den, swL_den h a, swL_den h c]
  | .av x => by simp only [swV, den]
  | .own l => by simp only [swV, den]
  | .b x => by simp only [swV, den]
  | .off => by simp only [swV, den]
theorem swL_den {bs : List Nat} {i : Nat} (h : i + 1 < bs.length) : ∀ l : List SV, denL (swl i bs) (swL i l) = denL bs l
  | [] => by simp only [swL, denL]
  | v :: r => by simp only [swL, denL, swV_den h v, swL_den h r]
end
theorem swF_den {bs : List Nat} {i : Nat} (h : i + 1 < bs.length) : ∀ fr : SFr, denF (swl i bs) (swF i fr) = denF bs fr
  | [] => rfl
  | (t, v) :: r => by simp only [swF, denF, swV_den h v, swF_den h r]
theorem swM_den {bs : List Nat} {i : Nat} (h : i + 1 < bs.length) : ∀ L : List SObj, (swM i L).map (denO (swl i bs)) = L.map (denO bs)
  | [] => rfl
  | .cells l :: r => by simp only [swM, swO, List.map_cons, denO, swL_den h l, swM_den h r]
  | .obj o :: r => by simp only [swM, swO, List.map_cons, denO, swM_den h r]
theorem swM_len (i : Nat) : ∀ L : List SObj, (swM i L).length = L.length
  | [] => rfl
  | _ :: r => by simp only [swM, List.length_cons, swM_len i r]
theorem swl_map {α β : Type} (f : α → β) : ∀ (i : Nat) (l : List α), (swl i l).map f = swl i (l.map f)
  | 0, [] => rfl
  | 0, [_] => rfl
  | 0, _ :: _ :: _ => rfl
  | i + 1, [] => rfl
  | i + 1, a :: r => by simp [swl, swl_map f i r]
section
variable {fr : SFr} {L : List SObj} {m : AMem}
theorem cvP {c : Cfg} {A : SK} {R : Prop} (i : Nat) (fr' : SFr) (L' : List SObj) (hi : (Nat.ble (i + 2) L.length && Nat.ble c.bs.length i) = true) (hf : swF i fr = fr') (hL : swl i (swM i L) = L')
    (h : SOr (SCv c A fr' L' m) False) : SOr (SCv c A fr L m) R := by
  simp only [Bool.and_eq_true] at hi
  have h1 := Nat.le_of_ble_eq_true hi.1
  have h2 := Nat.le_of_ble_eq_true hi.2
  obtain ⟨h | h⟩ := h
  · refine ⟨.inl ⟨fun new g n cd Q hQ => ?_⟩⟩
    have hBl := g.len
    generalize hB : c.bs ++ new = B at g hBl
    have hlt : i + 1 < B.length := by omega
    have hpre : (swl i B).take c.bs.length = c.bs := by
      rw [swl_take _ _ _ h2, ← hB, List.take_left]
    have hsp : swl i B = c.bs ++ (swl i B).drop c.bs.length := by
      have := List.take_append_drop c.bs.length (swl i B)
      rw [hpre] at this; exact this.symm
    have g' : Good (swl i B) L' m := by
      refine ⟨(swl_perm i B).nodup_iff.2 g.nd, ?_, fun b hb => g.fresh b ((swl_perm i B).mem_iff.1 hb)⟩
      rw [← hL, swl_len, swl_len, swM_len]; exact hBl
    have hm : memD (swl i B) L' m = memD B L m := by
      have e : denM (swl i B) L' = swl i (denM B L) := by
        rw [← hL, denM, swl_map, swM_den hlt, swl_zip _ _ _ (by simp [hBl])]; rfl
      rw [memD, memD, e]
      refine wth_perm ?_ (swl_perm i _)
      rw [((swl_perm i (denM B L)).map Prod.fst).nodup_iff]; exact g.nodup
    have := h.h ((swl i B).drop c.bs.length) (by rw [← hsp]; exact g') n cd Q hQ
    rw [← hsp, hm, ← hf, swF_den hlt] at this
    exact this
  · exact h.elim
end
end Go.Sx
end
section
namespace Go.Sx
open Go Go.Aw
theorem good_one {new : List Nat} {o : SObj} {m : AMem} (g : Good new [o] m) : ∃ b, new = [b] ∧ m b = none := by
  have hl := g.len
  match new, hl with
  | [b], _ => exact ⟨b, rfl, g.fresh b (by simp)⟩
section
variable {P : Program} {b0 : List Nat} {fr : SFr} {L : List SObj} {m : AMem}
theorem cvN {c : Cfg} {A : SK} {R : Prop} (E : Nat) {a j : Nat} {cl : List SV} (ha : nth L a = some (.cells cl)) (hj : nth cl j = some (.av .nilIface))
    (h : SOr (SCv c A fr (L.set a (.cells (cl.set j (.av (.err E 0))))) m) False) : SOr (SCv c A fr L m) R := by
  rw [nth_eq] at ha hj
  obtain ⟨h | h⟩ := h
  · refine ⟨.inl ⟨fun new g n cd Q hQ => ?_⟩⟩
    refine AWP.lessM ?_ (h.h new (g.set a _) n cd Q hQ)
    rw [← mem_set g ha]
    intro b o' hb
    simp only [AMem.upd] at hb
    by_cases e : b = (c.bs ++ new).getD a 0
    · rw [if_pos e] at hb
      obtain rfl := Option.some.inj hb
      refine ⟨_, by rw [e]; exact mem_get g ha, .inr ⟨_, _, rfl, rfl, ?_, fun k => ?_⟩⟩
      · rw [denL_len, denL_len, List.length_set]
      · rw [denL_setC]
        by_cases hk : k = j
        · subst hk
          have h1 := (denL_getD (bs := c.bs ++ new) (n := k) (l := cl) (v := .av .nilIface) (by rw [nth_eq]; exact hj)).1
          have hlt : k < (denL (c.bs ++ new) cl).length := by
            rw [denL_len]
            rcases Nat.lt_or_ge k cl.length with h | h
            · exact h
            · rw [List.getElem?_eq_none h] at hj; cases hj
          rw [h1]
          have h2 : ((denL (c.bs ++ new) cl).set k (den (c.bs ++ new) (.av (.err E 0)))).getD k .junk = .err E 0 := by
            simp [List.getD_eq_getElem?_getD, hlt, den, AV.plain]
          rw [h2]
          refine .inr fun _ _ _ _ hr => ?_
          have h3 := toErr_rep E hr
          simp only [den, AV.plain, AV.toErr] at h3
          exact h3.plain
        · have : ((denL (c.bs ++ new) cl).set j (den (c.bs ++ new) (.av (.err E 0)))).getD k .junk = (denL (c.bs ++ new) cl).getD k .junk := by
            rw [List.getD_eq_getElem?_getD, List.getD_eq_getElem?_getD, List.getElem?_set_ne (Ne.symm hk)]
          rw [this]; exact .inl rfl
    · rw [if_neg e] at hb
      exact ⟨o', hb, .inl rfl⟩
  · exact h.elim
theorem callPE {f : FuncId} {vs : List SV} {Q : SV → List SObj → AMem → Prop} (E : Nat) (o : SObj) (X : AObj) (ho : ∀ bs, denO bs o = X) (hs : (scF L.length fr && scM L.length L) = true)
    (h : ∀ bs (mm : AMem), bs.length = L.length → (∀ b o, m b = some o → mm b = some o) → ∀ (K : AV → AMem → Prop), (∀ b, mm b = none → K (.tuple [.ptr ⟨b, 0, none⟩, .err E 0]) (mm.upd b (some X))) → ACalls P f (denL bs vs) mm K)
    (hQ : Q (.tup [.loc L.length 0, .av (.err E 0)]) (L ++ [o]) m) : SCall P b0 f vs fr L m Q :=
  callN (σ := Unit) (fun _ => True) (fun _ => o) (fun _ => .tup [.loc L.length 0, .av (.err E 0)]) hs (fun bs mm hl hb K hK => h bs mm hl hb K fun b hbm => by
    have := hK () b trivial hbm
    simp only [den, denL, getD_snoc hl, ho, AV.plain] at this
    exact this) fun _ _ => hQ
end
end Go.Sx
end
section
namespace Go.Proofs
open Go Go.Aw
theorem Try.mixed : Try.prog.follows .mixedOrders = true := by kernel_rfl
end Go.Proofs
end
section
namespace Go.Proofs
open Go Go.Aw Go.Sx
def tb : Tab := [(3, ⟨.int .i64, 1, 8, [.i .i64]⟩),
  (46, ⟨.st [(0, 3), (1, 3), (2, 9), (3, 43), (4, 44)], 5, 80, [.i .i64, .i .i64, .s, .l, .l]⟩),
  (9, ⟨.str, 1, 16, [.s]⟩),
  (56, ⟨.st [(0, 3), (1, 46), (6, 9), (7, 9), (8, 53), (9, 54)], 10, 168, [.i .i64, .i .i64, .i .i64, .s, .l, .l, .s, .s, .l, .l]⟩),
  (34, ⟨.st [(0, 9), (1, 30), (2, 31), (3, 32)], 4, 88, [.s, .l, .l, .l]⟩),
  (23, ⟨.sl 36, 1, 24, [.l]⟩),
  (44, ⟨.sl 75, 1, 24, [.l]⟩),
  (36, ⟨.sl 3, 1, 24, [.l]⟩),
  (52, ⟨.st [(0, 9), (1, 9), (2, 50)], 3, 56, [.s, .s, .l]⟩),
  (43, ⟨.sl 46, 1, 24, [.l]⟩),
  (22, ⟨.sl 34, 1, 24, [.l]⟩),
  (31, ⟨.sl 52, 1, 24, [.l]⟩),
  (32, ⟨.sl 60, 1, 24, [.l]⟩),
  (53, ⟨.sl 56, 1, 24, [.l]⟩),
  (30, ⟨.sl 48, 1, 24, [.l]⟩),
  (25, ⟨.st [(0, 22), (1, 23), (2, 23)], 3, 72, [.l, .l, .l]⟩),
  (60, ⟨.st [(0, 9), (1, 56)], 11, 184, [.s, .i .i64, .i .i64, .i .i64, .s, .l, .l, .s, .s, .l, .l]⟩),
  (27, ⟨.ifc, 1, 16, [.n]⟩),
  (50, ⟨.sl 58, 1, 24, [.l]⟩),
  (75, ⟨.st [(0, 9), (1, 46)], 6, 96, [.s, .i .i64, .i .i64, .s, .l, .l]⟩),
  (48, ⟨.st [(0, 9), (1, 46)], 6, 96, [.s, .i .i64, .i .i64, .s, .l, .l]⟩),
  (61, ⟨.int .i64, 1, 8, [.i .i64]⟩),
  (58, ⟨.st [(0, 9), (1, 56)], 11, 184, [.s, .i .i64, .i .i64, .i .i64, .s, .l, .l, .s, .s, .l, .l]⟩),
  (54, ⟨.sl 9, 1, 24, [.l]⟩),
  (42, ⟨.st [(0, 25)], 3, 72, [.l, .l, .l]⟩),
  (38, ⟨.ptr, 1, 8, [.p]⟩),
  (98, ⟨.st [(0, 23)], 1, 24, [.l]⟩),
  (5, ⟨.int .u8, 1, 1, [.i .u8]⟩),
  (4, ⟨.bool, 1, 1, [.b]⟩)]
theorem tbOk : tabOk Try.prog tb = true := by decide +kernel
end Go.Proofs
end
section
namespace Go.Proofs
open Go Go.Aw Go.Sx
set_option maxRecDepth 100000
abbrev Str := List UInt8
noncomputable def cf (w st jr xs cv bs : List Nat) : Cfg := ⟨Try.prog, tb, 61, w, st, jr, xs, cv, bs⟩
theorem take_succ_gI {α : Type} [Inhabited α] {l : List α} {i : Int} (h0 : 0 ≤ i) (hi : i < l.length) : l.take (i + 1).toNat = l.take i.toNat ++ [gI l i] := by
  have e : (i + 1).toNat = i.toNat + 1 := by omega
  have hn : i.toNat < l.length := by omega
  rw [e, List.take_succ_eq_append_getElem hn]
  simp [gI, List.getD_eq_getElem?_getD, hn]
theorem gI_mem {α : Type} [Inhabited α] {l : List α} {i : Int} (h0 : 0 ≤ i) (hi : i < l.length) : gI l i ∈ l := by
  simp only [gI, List.getD_eq_getElem?_getD, List.getElem?_eq_getElem (show i.toNat < l.length by omega), Option.getD_some]
  exact List.getElem_mem _
theorem take_full {α : Type} {l : List α} {i : Int} (hi : l.length ≤ i) : l.take i.toNat = l := List.take_of_length_le (by omega)
inductive Val where
  | mk (kind n : Int) (s : Str) (l : List Val) (f : List (Str × Val))
instance : Inhabited Val := ⟨.mk 0 0 [] [] []⟩
def Val.kind : Val → Int | .mk k _ _ _ _ => k
def Val.n : Val → Int | .mk _ n _ _ _ => n
def Val.s : Val → Str | .mk _ _ s _ _ => s
def Val.l : Val → List Val | .mk _ _ _ l _ => l
def Val.f : Val → List (Str × Val) | .mk _ _ _ _ f => f
mutual
def valIn : Val → AV
  | .mk k n s l f => .agg [.int .i64 k, .int .i64 n, .str s, .slice false (valsIn l), .slice false (fldsIn f)]
def valsIn : List Val → List AV
  | [] => []
  | v :: r => valIn v :: valsIn r
def fldsIn : List (Str × Val) → List AV
  | [] => []
  | (s, .mk k n t l f) :: r => .agg [.str s, .int .i64 k, .int .i64 n, .str t, .slice false (valsIn l), .slice false (fldsIn f)] :: fldsIn r
end
def fldIn (p : Str × Val) : AV := .agg (.str p.1 :: (valIn p.2).cells)
theorem valsIn_eq (l : List Val) : valsIn l = l.map valIn := by
  induction l with
  | nil => rfl
  | cons v r ih => simp only [valsIn, List.map_cons, ih]
theorem fldsIn_eq (l : List (Str × Val)) : fldsIn l = l.map fldIn := by
  induction l with
  | nil => rfl
  | cons v r ih =>
    obtain ⟨s, v⟩ := v
    cases v with
    | mk k n t l f => simp only [fldsIn, List.map_cons, ih, fldIn, valIn, AV.cells]
def valTop (v : Val) : AV := .agg [.int .i64 v.kind, .int .i64 v.n, .str v.s, .slice false (v.l.map valIn), .slice false (v.f.map fldIn)]
def fldTop (p : Str × Val) : AV := .agg [.str p.1, .int .i64 p.2.kind, .int .i64 p.2.n, .str p.2.s, .slice false (p.2.l.map valIn), .slice false (p.2.f.map fldIn)]
theorem valIn_eq (v : Val) : valIn v = valTop v := by
  cases v with
  | mk k n s l f => simp only [valIn, valTop, valsIn_eq, fldsIn_eq, Val.kind, Val.n, Val.s, Val.l, Val.f]
theorem fldIn_eq (p : Str × Val) : fldIn p = fldTop p := by
  rw [fldIn, valIn_eq]; rfl
mutual
def weightV (most : Int) : Val → Int
  | .mk _ _ s l f => weightF most f (weightL most l (1 + s.length))
def weightL (most : Int) : List Val → Int → Int
  | [], n => n
  | v :: r, n => if n ≤ most then weightL most r (IntKind.i64.wrap (n + weightV most v)) else n
def weightF (most : Int) : List (Str × Val) → Int → Int
  | [], n => n
  | (s, .mk _ _ t l f) :: r, n => if n ≤ most then weightF most r (IntKind.i64.wrap (IntKind.i64.wrap (n + s.length) + weightF most f (weightL most l (1 + t.length)))) else n
end
theorem weightV_eq (most : Int) (v : Val) : weightV most v = weightF most v.f (weightL most v.l (1 + v.s.length)) := by
  cases v with
  | mk k n s l f => simp only [weightV, Val.f, Val.l, Val.s]
theorem weightF_cons (most : Int) (p : Str × Val) (r : List (Str × Val)) (n : Int) : weightF most (p :: r) n = if n ≤ most then weightF most r (IntKind.i64.wrap (IntKind.i64.wrap (n + p.1.length) + weightV most p.2)) else n := by
  obtain ⟨s, v⟩ := p
  cases v with
  | mk k n t l f => simp only [weightF, weightV]
theorem weightL_stop (most : Int) (l : List Val) (n : Int) (h : most < n) : weightL most l n = n := by
  cases l with
  | nil => simp only [weightL]
  | cons v r => simp only [weightL]; rw [if_neg (by omega)]
theorem weightF_stop (most : Int) (l : List (Str × Val)) (n : Int) (h : most < n) : weightF most l n = n := by
  cases l with
  | nil => simp only [weightF]
  | cons v r => rw [weightF_cons, if_neg (by omega)]
theorem drop_gI {α : Type} [Inhabited α] {l : List α} {i : Int} (h0 : 0 ≤ i) (hi : i < l.length) : l.drop i.toNat = gI l i :: l.drop (i + 1).toNat := by
  have h : i.toNat < l.length := by omega
  have e : (i + 1).toNat = i.toNat + 1 := by omega
  rw [List.drop_eq_getElem_cons h, e]
  simp [gI, List.getD_eq_getElem?_getD, h]
mutual
def depV : Val → Nat
  | .mk _ _ _ l f => depL l + depF f + 1
def depL : List Val → Nat
  | [] => 0
  | v :: r => depV v + depL r
def depF : List (Str × Val) → Nat
  | [] => 0
  | (_, .mk _ _ _ l f) :: r => depL l + depF f + 1 + depF r
end
theorem depL_mem {l : List Val} {v : Val} (h : v ∈ l) : depV v ≤ depL l := by
  induction l with
  | nil => cases h
  | cons a r ih =>
    simp only [depL]
    rcases List.mem_cons.1 h with rfl | h
    · omega
    · have := ih h; omega
theorem depF_mem {l : List (Str × Val)} {p : Str × Val} (h : p ∈ l) : depV p.2 ≤ depF l := by
  induction l with
  | nil => cases h
  | cons a r ih =>
    obtain ⟨s, v⟩ := a
    cases v with
    | mk k n t l f =>
      simp only [depF]
      rcases List.mem_cons.1 h with rfl | h
      · simp only [depV]; omega
      · have := ih h; omega
theorem depV_eq (v : Val) : depV v = depL v.l + depF v.f + 1 := by
  cases v with
  | mk k n s l f => simp only [depV, Val.l, Val.f]
set_option maxHeartbeats 4000000 in
theorem u_weight1 (v : Val) (most : Int) (ih : ∀ w : Val, depV w < depV v → ∀ (m : AMem) (K : AV → AMem → Prop), K (.int .i64 (weightV most w)) m → ACalls Try.prog 8 [valTop w, .int .i64 most] m K) (m : AMem)  (K : AV → AMem → Prop) (hK : K (.int .i64 (weightV most v)) m) : ACalls Try.prog 8 [valTop v, .int .i64 most] m K := by
 refine enter (c := cf [32, 53, 62] [0] [3, 7] [] [] []) (vs := [.av (valTop v), .av (.int .i64 most)]) (L := []) (m := m) false tbOk Try.mixed Try.func8 rfl (k := 2) (by show fnOk [] _ _ _ = true; decide +kernel) rfl (Good.nil m) ?_
 refine ⟨fun F0 => ?_⟩
 have hbd0_2 : v.s.length ≤ 140737488355328 := (F0 0 2 (Nat.le_of_ble_eq_true rfl))
 have hbd0_3 : v.l.length ≤ 140737488355328 := bd_map (F0 0 3 (Nat.le_of_ble_eq_true rfl))
 have hbd0_4 : v.f.length ≤ 140737488355328 := bd_map (F0 0 4 (Nat.le_of_ble_eq_true rfl))
 refine an (by omega) ?_
 refine sq ?_
 refine lp (σ := Int × Int) [] [1, 2, 5, 6] 1 (fun ⟨n_, i⟩ => ([(1, vI most), (2, .loc 0 0), (5, vI n_), (6, vI i)], [.cells [vI v.kind, vI v.n, vS v.s, vL (v.l.map valIn), vL (v.f.map fldIn)]], m)) (fun ⟨n_, i⟩ => 0 ≤ i ∧ i ≤ v.l.length ∧ weightL most v.l (1 + v.s.length) = weightL most (v.l.drop i.toNat) n_) (fun ⟨n_, i⟩ => v.l.length - i.toNat) (1 + (v.s.length : Int), 0) ⟨rfl, rfl⟩ ?_ ?_
 · try dsimp only
   exact ⟨by omega, by omega, rfl⟩
 rintro ⟨n_, i⟩ hI
 dsimp only at hI
 refine sq ?_
 refine mg [1, 2, 5, 6] 21 ((decide (i < (v.l.length : Int))) && (decide (n_ ≤ most))) ?_ ?_
 · repeat' first
    | exact ⟨⟨_, rfl, by grind [SB.val]⟩, rfl⟩
    | refine an (fun _ => ?_) (fun _ => ?_)
    | refine ln ?_
 refine an (fun h1 => ?_) (fun h1 => ?_)
 · replace h1 : (i < (v.l.length : Int)) ∧ (n_ ≤ most) := ⟨(of_decide_eq_true (bandL h1)), (of_decide_eq_true (bandR h1))⟩
   refine sq ?_
   refine ixg valTop valIn_eq (by omega) ?_
   refine call0 (fun _ => ih (gI v.l i) (by have := depV_eq v; first | (have := depL_mem (gI_mem (l := v.l) (i := i) hI.1 h1.1); omega) | (have := depF_mem (gI_mem (l := v.f) (i := k) hI2.1 h2.1); omega))) rfl ?_
   refine an (by omega) ?_
   refine ⟨(IntKind.i64.wrap (n_ + (weightV most (gI v.l i))), i + 1), ⟨rfl, rfl⟩, ?_, ?_⟩
   · try dsimp only
     refine ⟨by omega, by omega, ?_⟩
     rw [hI.2.2, drop_gI hI.1 h1.1]
     simp only [weightL]
     rw [if_pos h1.2]
   try dsimp only
   omega
 replace h1 : ((v.l.length : Int) ≤ i) ∨ (most < n_) := ((bandF h1).imp (fun q => (Int.not_lt.1 (of_decide_eq_false q))) (fun q => (Int.not_le.1 (of_decide_eq_false q))))
 refine sq ?_
 refine lp (σ := Int × Int) [] [1, 2, 5, 7] 1 (fun ⟨n2, k⟩ => ([(1, vI most), (2, .loc 0 0), (5, vI n2), (7, vI k)], [.cells [vI v.kind, vI v.n, vS v.s, vL (v.l.map valIn), vL (v.f.map fldIn)]], m)) (fun ⟨n2, k⟩ => 0 ≤ k ∧ k ≤ v.f.length ∧ weightV most v = weightF most (v.f.drop k.toNat) n2) (fun ⟨n2, k⟩ => v.f.length - k.toNat) (n_, 0) ⟨rfl, rfl⟩ ?_ ?_
 · try dsimp only
   refine ⟨by omega, by omega, ?_⟩
   have e : weightL most (v.l.drop i.toNat) n_ = n_ := by
     by_cases hn : most < n_
     · exact weightL_stop _ _ _ hn
     · have hi : (v.l.length : Int) ≤ i := by
         rcases h1 with h | h <;> omega
       rw [List.drop_eq_nil_of_le (by omega)]; simp only [weightL]
   rw [weightV_eq, hI.2.2, e]; rfl
 rintro ⟨n2, k⟩ hI2
 dsimp only at hI2
 refine sq ?_
 refine mg [1, 2, 5, 7] 42 ((decide (k < (v.f.length : Int))) && (decide (n2 ≤ most))) ?_ ?_
 · repeat' first
    | exact ⟨⟨_, rfl, by grind [SB.val]⟩, rfl⟩
    | refine an (fun _ => ?_) (fun _ => ?_)
    | refine ln ?_
 refine an (fun h2 => ?_) (fun h2 => ?_)
 · replace h2 : (k < (v.f.length : Int)) ∧ (n2 ≤ most) := ⟨(of_decide_eq_true (bandL h2)), (of_decide_eq_true (bandR h2))⟩
   refine sq ?_
   refine ixg fldTop fldIn_eq (by omega) ?_
   refine ixg fldTop fldIn_eq (by omega) ?_
   refine pure0 (fun _ => ih ((gI v.f k).2) (by have := depV_eq v; first | (have := depL_mem (gI_mem (l := v.l) (i := i) hI.1 h1.1); omega) | (have := depF_mem (gI_mem (l := v.f) (i := k) hI2.1 h2.1); omega))) ?_
   refine an (by omega) ?_
   refine ⟨(IntKind.i64.wrap ((IntKind.i64.wrap (n2 + (((gI v.f k).1).length : Int))) + (weightV most ((gI v.f k).2))), k + 1), ⟨rfl, rfl⟩, ?_, ?_⟩
   · try dsimp only
     exact ⟨by omega, by omega, by rw [hI2.2.2, drop_gI hI2.1 h2.1, weightF_cons, if_pos h2.2]⟩
   try dsimp only
   omega
 replace h2 : ((v.f.length : Int) ≤ k) ∨ (most < n2) := ((bandF h2).imp (fun q => (Int.not_lt.1 (of_decide_eq_false q))) (fun q => (Int.not_le.1 (of_decide_eq_false q))))
 refine rt0 rfl fun _ => ?_
 show K (.int .i64 n2) m
 have e : weightV most v = n2 := by
   rw [hI2.2.2]
   by_cases hn : most < n2
   · exact weightF_stop _ _ _ hn
   · have hi : (v.f.length : Int) ≤ k := by
       rcases h2 with h | h <;> omega
     rw [List.drop_eq_nil_of_le (by omega)]; simp only [weightF]
 rw [e] at hK; exact hK
theorem u_weight (most : Int) : ∀ (n : Nat) (v : Val), depV v < n → ∀ (m : AMem) (K : AV → AMem → Prop), K (.int .i64 (weightV most v)) m → ACalls Try.prog 8 [valTop v, .int .i64 most] m K
  | 0, _, h => absurd h (Nat.not_lt_zero _)
  | n + 1, v, h => fun m K hK => u_weight1 v most (fun w hw => u_weight most n w (by omega)) m K hK
end Go.Proofs
end
section
namespace Go.Proofs
open Go Go.Aw Go.Sx
set_option maxRecDepth 100000
theorem depL_len (l : List Val) : l.length ≤ depL l := by
  induction l with
  | nil => exact Nat.le_refl _
  | cons v r ih => have := depV_eq v; simp only [depL, List.length_cons]; omega
theorem depF_len (l : List (Str × Val)) : l.length ≤ depF l := by
  induction l with
  | nil => exact Nat.le_refl _
  | cons p r ih =>
    obtain ⟨s, v⟩ := p
    cases v with
    | mk k n t l f => simp only [depF, List.length_cons]; omega
def letC (c : UInt8) : Bool := decide (97 ≤ (c.toNat : Int)) && decide ((c.toNat : Int) ≤ 122)
def digC (c : UInt8) : Bool := decide (48 ≤ (c.toNat : Int)) && decide ((c.toNat : Int) ≤ 57)
def nmF : Str → Bool → Bool
  | [], _ => true
  | c :: r, first => (letC c || (!first && digC c)) && nmF r false
def nameV (s : Str) : Bool := nmF s true && !(s == []) && decide ((s.length : Int) ≤ 12)
theorem nmF_step {s : Str} {i : Int} (h0 : 0 ≤ i) (hi : i < s.length) : nmF (s.drop i.toNat) (i == 0) = ((letC (gI s i) || (!(i == 0) && digC (gI s i))) && nmF (s.drop (i + 1).toNat) (i + 1 == 0)) := by
  have e : (i + 1 == 0) = false := by simp; omega
  rw [drop_gI h0 hi, nmF, e]
set_option maxHeartbeats 2000000 in
theorem u_VName (s : Str) (hs : s.length ≤ 140737488355328) (m : AMem)  (K : AV → AMem → Prop) (hK : K (.bool (nameV s)) m) : ACalls Try.prog 22 [.str s] m K := by
 refine enter (c := cf [] [] [5, 8] [] [] []) (vs := [.av (.str s)]) (L := []) (m := m) false tbOk Try.mixed Try.func22 rfl (k := 1) (by show fnOk [] _ _ _ = true; decide +kernel) rfl (Good.nil m) ?_
 refine sq ?_
 refine lp (σ := Int) [] [0, 6, 7] 0 (fun i => ([(0, vS s), (6, vI (s.length : Int)), (7, vI i)], [], m)) (fun i => 0 ≤ i ∧ i ≤ s.length ∧ nmF s true = nmF (s.drop i.toNat) (i == 0)) (fun i => s.length - i.toNat) (0) ⟨rfl, rfl⟩ ?_ ?_
 · try dsimp only
   exact ⟨by omega, by omega, by simp⟩
 rintro i hI
 refine sq ?_
 refine an (fun h1 => ?_) (fun h1 => ?_)
 · refine sq ?_
   refine an (by omega) ?_
   refine mg [0, 6, 7] 30 (((decide (((gI s i).toNat : Int) < 97)) || (decide (122 < ((gI s i).toNat : Int)))) && (((i == 0) || (decide (((gI s i).toNat : Int) < 48))) || (decide (57 < ((gI s i).toNat : Int))))) ?_ ?_
   · repeat' first
      | exact ⟨⟨_, rfl, by grind [SB.val]⟩, rfl⟩
      | refine an (fun _ => ?_) (fun _ => ?_)
   refine an (fun h2 => ?_) (fun h2 => ?_)
   · replace h2 : ((((gI s i).toNat : Int) < 97) ∨ (122 < ((gI s i).toNat : Int))) ∧ (((i = 0) ∨ (((gI s i).toNat : Int) < 48)) ∨ (57 < ((gI s i).toNat : Int))) := ⟨((borT (bandL h2)).imp (fun q => (of_decide_eq_true q)) (fun q => (of_decide_eq_true q))), ((borT (bandR h2)).imp (fun q => ((borT q).imp (fun q => (eq_of_beq q)) (fun q => (of_decide_eq_true q)))) (fun q => (of_decide_eq_true q)))⟩
     refine rt0 rfl fun _ => K_eq hK ?_
     show AV.bool (nameV s) = AV.bool false
     refine congrArg AV.bool ?_
     have hb : (letC (gI s i) || (!(i == 0) && digC (gI s i))) = false := by
       rw [Bool.eq_false_iff]; intro hh; simp [letC, digC] at hh; omega
     rw [nameV, hI.2.2, nmF_step hI.1 h1, hb]; rfl
   replace h2 : ((97 ≤ ((gI s i).toNat : Int)) ∧ (((gI s i).toNat : Int) ≤ 122)) ∨ (((i ≠ 0) ∧ (48 ≤ ((gI s i).toNat : Int))) ∧ (((gI s i).toNat : Int) ≤ 57)) := ((bandF h2).imp (fun q => ⟨(Int.not_lt.1 (of_decide_eq_false (borL q))), (Int.not_lt.1 (of_decide_eq_false (borR q)))⟩) (fun q => ⟨⟨(ne_of_beq_false (borL (borL q))), (Int.not_lt.1 (of_decide_eq_false (borR (borL q))))⟩, (Int.not_lt.1 (of_decide_eq_false (borR q)))⟩))
   refine an (by omega) ?_
   refine ⟨(i + 1), ⟨rfl, rfl⟩, ?_, ?_⟩
   · try dsimp only
     have hb : (letC (gI s i) || (!(i == 0) && digC (gI s i))) = true := by simp [letC, digC]; omega
     exact ⟨by omega, by omega, by rw [hI.2.2, nmF_step hI.1 h1, hb]; rfl⟩
   try dsimp only
   omega
 refine mg [] 2 ((!(s == ([]))) && (decide ((s.length : Int) ≤ 12))) ?_ ?_
 · repeat' first
    | exact ⟨⟨_, rfl, by grind [SB.val]⟩, rfl⟩
    | refine an (fun _ => ?_) (fun _ => ?_)
 refine rt0 rfl fun _ => K_eq hK ?_
 show AV.bool (nameV s) = AV.bool ((!(s == ([]))) && (decide ((s.length : Int) ≤ 12)))
 refine congrArg AV.bool ?_
 have ha : nmF s true = true := by rw [hI.2.2, List.drop_eq_nil_of_le (by omega)]; rfl
 rw [nameV, ha]; cases s <;> simp
mutual
def okV : Val → Prop
  | .mk _ _ _ l f => (l.length ≤ 1759218604441 ∧ f.length ≤ 1466015503701) ∧ okVL l ∧ okVF f
def okVL : List Val → Prop
  | [] => True
  | v :: r => okV v ∧ okVL r
def okVF : List (Str × Val) → Prop
  | [] => True
  | (_, .mk _ _ _ l f) :: r => ((l.length ≤ 1759218604441 ∧ f.length ≤ 1466015503701) ∧ okVL l ∧ okVF f) ∧ okVF r
end
theorem okV_eq (v : Val) : okV v ↔ (v.l.length ≤ 1759218604441 ∧ v.f.length ≤ 1466015503701) ∧ okVL v.l ∧ okVF v.f := by
  cases v with
  | mk k n s l f => simp only [okV, Val.l, Val.f]
theorem okVL_iff (l : List Val) : okVL l ↔ ∀ v ∈ l, okV v := by
  induction l with
  | nil => simp [okVL]
  | cons v r ih => simp [okVL, ih]
theorem okVF_iff (l : List (Str × Val)) : okVF l ↔ ∀ p ∈ l, okV p.2 := by
  induction l with
  | nil => simp [okVF]
  | cons p r ih =>
    obtain ⟨s, v⟩ := p
    cases v with
    | mk k n t l f => simp [okVF, okV, ih]
theorem okV_iff (v : Val) : okV v ↔ (v.l.length ≤ 1759218604441 ∧ v.f.length ≤ 1466015503701) ∧ (∀ w ∈ v.l, okV w) ∧ ∀ p ∈ v.f, okV p.2 := by
  rw [okV_eq, okVL_iff, okVF_iff]
theorem okV_small : ∀ (n : Nat) (v : Val), depV v < n → depV v ≤ 1000000000 → okV v
  | 0, _, h, _ => absurd h (Nat.not_lt_zero _)
  | n + 1, v, h, hz => by
    have e := depV_eq v
    have h1 := depL_len v.l
    have h2 := depF_len v.f
    rw [okV_iff]
    exact ⟨⟨by omega, by omega⟩, fun w hw => okV_small n w (by have := depL_mem hw; omega) (by have := depL_mem hw; omega), fun p hp => okV_small n p.2 (by have := depF_mem hp; omega) (by have := depF_mem hp; omega)⟩
end Go.Proofs
end
section
namespace Go.Proofs
open Go Go.Aw Go.Sx
set_option maxRecDepth 100000
set_option maxHeartbeats 4000000 in
theorem u_Copy1 (v : Val) (hz : okV v) (ih : ∀ w : Val, depV w < depV v → okV w → ∀ (m : AMem) (K : AV → AMem → Prop), K (valTop w) m → ACalls Try.prog 29 [valTop w] m K) (m : AMem)  (K : AV → AMem → Prop) (hK : K (valTop v) m) : ACalls Try.prog 29 [valTop v] m K := by
 have hok := (okV_iff v).1 hz
 have hl1 := hok.1.1
 have hf1 := hok.1.2
 refine enter (c := cf [] [] [] [6999, 11999] [6, 11] []) (vs := [.av (valTop v)]) (L := []) (m := m) false tbOk Try.mixed Try.func29 rfl (k := 1) (by show fnOk [6999, 11999] _ _ _ = true; decide +kernel) rfl (Good.nil m) ?_
 refine sq ?_
 refine ln ?_
 refine lp (σ := Int × (List Val)) [] [1, 2, 4, 15, 16, 17] 2 (fun ⟨i, ol⟩ => ([(1, .loc 0 0), (2, .loc 1 0), (4, vL (v.f.map fldIn)), (15, vL (v.l.map valIn)), (16, vI (v.l.length : Int)), (17, vI i)], [.cells [vI v.kind, vI v.n, vS v.s, .own (ol.map valIn), .own []], .cells [vI 0, vI 0, vS ([]), .own [], .own []]], m)) (fun ⟨i, ol⟩ => 0 ≤ i ∧ i ≤ v.l.length ∧ ol = v.l.take i.toNat) (fun ⟨i, ol⟩ => v.l.length - i.toNat) (0, []) ⟨rfl, rfl⟩ ?_ ?_
 · try dsimp only
   exact ⟨by omega, by omega, rfl⟩
 rintro ⟨i, ol⟩ hI
 dsimp only at hI
 have hol : ol.length ≤ v.l.length := by rw [hI.2.2, List.length_take]; omega
 have hol2 : (ol.length : Int) ≤ i := by rw [hI.2.2, List.length_take]; omega
 refine sq ?_
 refine an (fun h1 => ?_) (fun h1 => ?_)
 · refine sq ?_
   refine ixg valTop valIn_eq (by omega) ?_
   refine rgA tbOk Try.mixed (σ := Unit) (.f 0 (.o 1 (.s 2 (.s 3 (.s 4 (.s 5 (.f 6 (.s 7 .d)))))) (.o 2 (.o 1 (.s 3 (.s 4 (.s 5 (.f 6 (.s 7 .d))))) (.o 3 (.o 1 (.s 4 (.s 5 (.f 6 (.s 7 .d)))) (.o 4 (.s 1 (.s 5 (.f 6 (.s 7 .d)))) .z)) .z)) .z))) [] [1, 2, 4, 15, 16, 17] 3 (fun _ => ([(1, .loc 0 0), (2, .loc 1 0), (4, vL (v.f.map fldIn)), (15, vL (v.l.map valIn)), (16, vI (v.l.length : Int)), (17, vI i)], [.cells [vI v.kind, vI v.n, vS v.s, .own ((ol ++ ([(gI v.l i)] : List Val)).map valIn), .own []], .cells [vI 0, vI 0, vS ([]), .own [], .own []], .cells [vI ((gI v.l i).kind), vI ((gI v.l i).n), vS ((gI v.l i).s), vL (((gI v.l i).l).map valIn), vL (((gI v.l i).f).map fldIn)]], m)) (fun _ => True) (by decide +kernel) ?_ ?_
   · rintro _ hy6
     try dsimp only at hy6
     refine an (by omega) ?_
     refine ⟨(i + 1, ol ++ ([(gI v.l i)] : List Val)), ⟨rfl, rfl⟩, ?_, ?_⟩
     · try dsimp only
       exact ⟨by omega, by omega, by rw [take_succ_gI hI.1 (by assumption), ← hI.2.2]⟩
     try dsimp only
     omega
   repeat' first
    | refine ⟨(), ⟨rfl, rfl⟩, trivial⟩
    | refine call0 (fun _ => ih (gI v.l i) (by have := depV_eq v; first | (have := depL_mem (gI_mem (l := v.l) (i := i) hI.1 (by assumption)); omega) | (have := depF_mem (gI_mem (l := v.f) (i := k) hI2.1 (by assumption)); omega)) (by first | exact hok.2.1 _ (gI_mem (l := v.l) (i := i) hI.1 (by assumption)) | exact hok.2.2 _ (gI_mem (l := v.f) (i := k) hI2.1 (by assumption)))) rfl ?_
    | refine ap valIn ol ([(gI v.l i)] : List Val) rfl (by simp only [List.map_cons, List.map_nil, valIn_eq]; try rfl) (fun a => by rw [valIn_eq]; exact ⟨rfl, rfl⟩) (by (simp only [List.length_append, List.length_cons, List.length_nil]; omega)) ?_
    | refine ⟨?_, ?_, trivial⟩
 refine sq ?_
 refine ln ?_
 refine lp (σ := Int × (List (Str × Val))) [] [1, 2, 29, 30, 31] 2 (fun ⟨k, of⟩ => ([(1, .loc 0 0), (2, .loc 1 0), (29, vL (v.f.map fldIn)), (30, vI (v.f.length : Int)), (31, vI k)], [.cells [vI v.kind, vI v.n, vS v.s, .own (ol.map valIn), .own (of.map fldIn)], .cells [vI 0, vI 0, vS ([]), .own [], .own []]], m)) (fun ⟨k, of⟩ => 0 ≤ k ∧ k ≤ v.f.length ∧ of = v.f.take k.toNat) (fun ⟨k, of⟩ => v.f.length - k.toNat) (0, []) ⟨rfl, rfl⟩ ?_ ?_
 · try dsimp only
   exact ⟨by omega, by omega, rfl⟩
 rintro ⟨k, of⟩ hI2
 dsimp only at hI2
 have hof : of.length ≤ v.f.length := by rw [hI2.2.2, List.length_take]; omega
 have hof2 : (of.length : Int) ≤ k := by rw [hI2.2.2, List.length_take]; omega
 refine sq ?_
 refine an (fun h2 => ?_) (fun h2 => ?_)
 · refine sq ?_
   refine ixg fldTop fldIn_eq (by omega) ?_
   refine rgA tbOk Try.mixed (σ := Unit) (.f 0 (.f 2 (.f 4 (.o 1 (.o 3 (.s 5 (.s 6 (.s 7 (.s 8 (.s 9 (.f 10 (.s 11 .d))))))) (.o 5 (.o 3 (.s 6 (.s 7 (.s 8 (.s 9 (.f 10 (.s 11 .d)))))) (.o 6 (.s 3 (.s 7 (.s 8 (.s 9 (.f 10 (.s 11 .d)))))) .z)) .z)) (.o 3 (.o 1 (.s 5 (.s 6 (.s 7 (.s 8 (.s 9 (.f 10 (.s 11 .d))))))) (.o 5 (.o 1 (.s 6 (.s 7 (.s 8 (.s 9 (.f 10 (.s 11 .d)))))) (.o 6 (.o 1 (.s 7 (.s 8 (.s 9 (.f 10 (.s 11 .d))))) (.o 7 (.o 1 (.s 8 (.s 9 (.f 10 (.s 11 .d)))) (.o 8 (.s 1 (.s 9 (.f 10 (.s 11 .d)))) .z)) .z)) .z)) .z)) (.o 5 (.o 1 (.o 3 (.s 6 (.s 7 (.s 8 (.s 9 (.f 10 (.s 11 .d)))))) (.o 6 (.s 3 (.s 7 (.s 8 (.s 9 (.f 10 (.s 11 .d)))))) .z)) (.o 3 (.o 1 (.s 6 (.s 7 (.s 8 (.s 9 (.f 10 (.s 11 .d)))))) (.o 6 (.o 1 (.s 7 (.s 8 (.s 9 (.f 10 (.s 11 .d))))) (.o 7 (.o 1 (.s 8 (.s 9 (.f 10 (.s 11 .d)))) (.o 8 (.s 1 (.s 9 (.f 10 (.s 11 .d)))) .z)) .z)) .z)) (.o 6 (.o 1 (.s 3 (.s 7 (.s 8 (.s 9 (.f 10 (.s 11 .d)))))) (.o 3 (.o 1 (.s 7 (.s 8 (.s 9 (.f 10 (.s 11 .d))))) (.o 7 (.o 1 (.s 8 (.s 9 (.f 10 (.s 11 .d)))) (.o 8 (.s 1 (.s 9 (.f 10 (.s 11 .d)))) .z)) .z)) .z)) .z))) .z)))))) [] [1, 2, 29, 30, 31] 3 (fun _ => ([(1, .loc 0 0), (2, .loc 1 0), (29, vL (v.f.map fldIn)), (30, vI (v.f.length : Int)), (31, vI k)], [.cells [vI v.kind, vI v.n, vS v.s, .own (ol.map valIn), .own ((of ++ ([(gI v.f k)] : List (Str × Val))).map fldIn)], .cells [vI 0, vI 0, vS ([]), .own [], .own []], .cells [vS ((gI v.f k).1), vI (((gI v.f k).2).kind), vI (((gI v.f k).2).n), vS (((gI v.f k).2).s), vL ((((gI v.f k).2).l).map valIn), vL ((((gI v.f k).2).f).map fldIn)]], m)) (fun _ => True) (by decide +kernel) ?_ ?_
   · rintro _ hy11
     try dsimp only at hy11
     refine an (by omega) ?_
     refine ⟨(k + 1, of ++ ([(gI v.f k)] : List (Str × Val))), ⟨rfl, rfl⟩, ?_, ?_⟩
     · try dsimp only
       exact ⟨by omega, by omega, by rw [take_succ_gI hI2.1 (by assumption), ← hI2.2.2]⟩
     try dsimp only
     omega
   repeat' first
    | refine ⟨(), ⟨rfl, rfl⟩, trivial⟩
    | refine call0 (fun _ => ih ((gI v.f k).2) (by have := depV_eq v; first | (have := depL_mem (gI_mem (l := v.l) (i := i) hI.1 (by assumption)); omega) | (have := depF_mem (gI_mem (l := v.f) (i := k) hI2.1 (by assumption)); omega)) (by first | exact hok.2.1 _ (gI_mem (l := v.l) (i := i) hI.1 (by assumption)) | exact hok.2.2 _ (gI_mem (l := v.f) (i := k) hI2.1 (by assumption)))) rfl ?_
    | refine ap fldIn of ([(gI v.f k)] : List (Str × Val)) rfl (by simp only [List.map_cons, List.map_nil, fldIn_eq]; try rfl) (fun a => by rw [fldIn_eq]; exact ⟨rfl, rfl⟩) (by (simp only [List.length_append, List.length_cons, List.length_nil]; omega)) ?_
    | refine ⟨?_, ?_, ?_, trivial⟩
    | refine ⟨?_, ?_, trivial⟩
 refine rt0 rfl fun _ => ?_
 show K (.agg [.int .i64 v.kind, .int .i64 v.n, .str v.s, .slice false (ol.map valIn), .slice false (of.map fldIn)]) m
 have q1 : ol = v.l := by have := hI.2.2; rwa [take_full (by omega)] at this
 have q2 : of = v.f := by have := hI2.2.2; rwa [take_full (by omega)] at this
 rw [q1, q2]
 exact hK
theorem u_Copy2 : ∀ (n : Nat) (v : Val), depV v < n → okV v → ∀ (m : AMem) (K : AV → AMem → Prop), K (valTop v) m → ACalls Try.prog 29 [valTop v] m K
  | 0, _, h, _ => absurd h (Nat.not_lt_zero _)
  | n + 1, v, h, hz => fun m K hK => u_Copy1 v hz (fun w hw hw2 => u_Copy2 n w (by omega) hw2) m K hK
theorem u_Copy (v : Val) (hz : okV v) (m : AMem) (K : AV → AMem → Prop) (hK : K (valTop v) m) : ACalls Try.prog 29 [valTop v] m K := u_Copy2 (depV v + 1) v (Nat.lt_succ_self _) hz m K hK
end Go.Proofs
end
section
namespace Go.Proofs
open Go Go.Aw Go.Sx
set_option maxRecDepth 100000
def zV : Val := .mk 0 0 [] [] []
theorem Val.ext' {a b : Val} (h1 : a.kind = b.kind) (h2 : a.n = b.n) (h3 : a.s = b.s) (h4 : a.l = b.l) (h5 : a.f = b.f) : a = b := by
  cases a; cases b; simp only [Val.kind, Val.n, Val.s, Val.l, Val.f] at h1 h2 h3 h4 h5; subst h1 h2 h3 h4 h5; rfl
noncomputable def vEq (a b : Val) : Bool := @decide (a = b) (Classical.propDecidable _)
theorem vEq_true {a b : Val} (h : a = b) : vEq a b = true := by simp [vEq, h]
theorem vEq_false {a b : Val} (h : a ≠ b) : vEq a b = false := by simp [vEq, h]
theorem vEq_iff {a b : Val} : vEq a b = true ↔ a = b := by simp [vEq]
def cntL {α : Type} (g : α → Int → Bool × Int) : List α → Int → Bool × Int
  | [], n => (true, n)
  | x :: r, n => if (g x n).1 = true then cntL g r (g x n).2 else (false, (g x n).2)
def cntF : Nat → Int → Val → Int → Bool × Int
  | 0, _, _, n => (false, n)
  | k + 1, deep, v, n =>
    if 6 < deep ∨ n - 1 < 0 then (false, n - 1)
    else if (cntL (cntF k (deep + 1)) v.l (n - 1)).1 = false then (false, (cntL (cntF k (deep + 1)) v.l (n - 1)).2)
    else cntL (fun p => cntF k (deep + 1) p.2) v.f (cntL (cntF k (deep + 1)) v.l (n - 1)).2
def sumN {α : Type} (g : α → Nat) : List α → Nat
  | [] => 0
  | x :: r => g x + sumN g r
theorem sumN_l (l : List Val) : sumN depV l = depL l := by
  induction l with
  | nil => rfl
  | cons v r ih => simp only [sumN, depL, ih]
theorem sumN_f (l : List (Str × Val)) : sumN (fun p => depV p.2) l = depF l := by
  induction l with
  | nil => rfl
  | cons p r ih =>
    obtain ⟨s, v⟩ := p
    cases v with
    | mk k n t l f => simp only [sumN, depF, ih, depV]
theorem cntL_ok {α : Type} {g : α → Int → Bool × Int} {d : α → Nat} (hg : ∀ x n, 0 ≤ n → (g x n).1 = true → 0 ≤ (g x n).2 ∧ (g x n).2 + d x = n) : ∀ (l : List α) (n : Int), 0 ≤ n → (cntL g l n).1 = true → 0 ≤ (cntL g l n).2 ∧ (cntL g l n).2 + sumN d l = n
  | [], n, h0, _ => by simp [cntL, sumN, h0]
  | x :: r, n, h0, h => by
    rw [cntL] at h ⊢
    split at h
    · rename_i h1
      have h2 := hg x n h0 h1
      have h3 := cntL_ok hg r _ h2.1 h
      rw [if_pos h1, sumN]
      exact ⟨h3.1, by push_cast; omega⟩
    · cases h
theorem cntF_ok : ∀ (k : Nat) (deep : Int) (v : Val) (n : Int), 0 ≤ n → (cntF k deep v n).1 = true → 0 ≤ (cntF k deep v n).2 ∧ (cntF k deep v n).2 + depV v = n
  | 0, _, _, _, _, h => by simp [cntF] at h
  | k + 1, deep, v, n, h0, h => by
    rw [cntF] at h ⊢
    split at h
    · cases h
    · rename_i h1
      rw [if_neg h1]
      split at h
      · cases h
      · rename_i h2
        rw [if_neg h2]
        have h3 : (cntL (cntF k (deep + 1)) v.l (n - 1)).1 = true := by simpa using h2
        have a := cntL_ok (d := depV) (g := cntF k (deep + 1)) (fun x n hn hx => cntF_ok k (deep + 1) x n hn hx) v.l (n - 1) (by omega) h3
        have b := cntL_ok (d := fun p : Str × Val => depV p.2) (g := fun p => cntF k (deep + 1) p.2) (fun x n hn hx => cntF_ok k (deep + 1) x.2 n hn hx) v.f _ a.1 h
        rw [sumN_l] at a
        rw [sumN_f] at b
        have e := depV_eq v
        exact ⟨b.1, by omega⟩
def recOk : Option Str → List (Str × Val) → Bool
  | _, [] => true
  | p, f :: r => nameV f.1 && (match p with | none => true | some s => Op.bytesLess s f.1) && recOk (some f.1) r
def shpOk (v : Val) : Bool :=
  if v.kind = 0 then ((v.n == 0) && (v.s == [])) && ((v.l.length : Int) + (v.f.length : Int) == 0)
  else if v.kind = 1 then ((decide (-1000000000 ≤ v.n) && decide (v.n ≤ 1000000000)) && (v.s == [])) && ((v.l.length : Int) + (v.f.length : Int) == 0)
  else if v.kind = 2 then ((v.n == 0) && decide ((v.s.length : Int) ≤ 40)) && ((v.l.length : Int) + (v.f.length : Int) == 0)
  else if v.kind = 3 then (((v.n == 0) || (v.n == 1)) && (v.s == [])) && ((v.l.length : Int) + (v.f.length : Int) == 0)
  else if v.kind = 4 then ((v.n == 0) && (v.s == [])) && ((v.f.length : Int) == 0)
  else if v.kind = 5 then (((v.n == 0) && (v.s == [])) && ((v.l.length : Int) == 0)) && recOk none v.f
  else false
def shpF : Nat → Val → Bool
  | 0, _ => false
  | k + 1, v => shpOk v && v.l.all (shpF k) && v.f.all (fun p => shpF k p.2)
def shE (b : Bool) : Int := if b = true then 0 else 3
def chk (v : Val) : Int := if (cntF (depV v + 1) 1 v 60).1 = true then shE (shpF (depV v + 1) v) else 2
def prevN (l : List (Str × Val)) (i : Int) : Option Str := if i = 0 then none else some (gI l (i - 1)).1
theorem recOk_cons (p : Option Str) (f : Str × Val) (r : List (Str × Val)) : recOk p (f :: r) = (nameV f.1 && (match p with | none => true | some s => Op.bytesLess s f.1) && recOk (some f.1) r) := by cases p <;> rfl
theorem recOk_step {l : List (Str × Val)} {i : Int} (h0 : 0 ≤ i) (hi : i < l.length) : recOk (prevN l i) (l.drop i.toNat) = (nameV (gI l i).1 && ((i == 0) || Op.bytesLess (gI l (i - 1)).1 (gI l i).1) && recOk (prevN l (i + 1)) (l.drop (i + 1).toNat)) := by
  have e : prevN l (i + 1) = some (gI l i).1 := by rw [prevN, if_neg (by omega)]; congr 2; congr 1; omega
  rw [drop_gI h0 hi, recOk_cons, e, prevN]
  by_cases h : i = 0
  · simp [h]
  · have : (i == 0) = false := by simpa using h
    rw [if_neg h, this, Bool.false_or]
theorem cntL_drop {α : Type} [Inhabited α] {g : α → Int → Bool × Int} {l : List α} {i n : Int} (h0 : 0 ≤ i) (hi : i < l.length) : cntL g (l.drop i.toNat) n = if (g (gI l i) n).1 = true then cntL g (l.drop (i + 1).toNat) (g (gI l i) n).2 else (false, (g (gI l i) n).2) := by
  rw [drop_gI h0 hi, cntL]
theorem all_drop {α : Type} [Inhabited α] {g : α → Bool} {l : List α} {i : Int} (h0 : 0 ≤ i) (hi : i < l.length) : (l.drop i.toNat).all g = (g (gI l i) && (l.drop (i + 1).toNat).all g) := by
  rw [drop_gI h0 hi, List.all_cons]
theorem cntF_l {k : Nat} {deep n x : Int} {v : Val} (h : ¬(6 < deep ∨ n - 1 < 0)) (e : cntL (cntF k (deep + 1)) v.l (n - 1) = (false, x)) : cntF (k + 1) deep v n = (false, x) := by
  rw [cntF, if_neg h, e, if_pos rfl]
theorem cntF_f {k : Nat} {deep n x : Int} {v : Val} (h : ¬(6 < deep ∨ n - 1 < 0)) (e : cntL (cntF k (deep + 1)) v.l (n - 1) = (true, x)) : cntF (k + 1) deep v n = cntL (fun p => cntF k (deep + 1) p.2) v.f x := by
  rw [cntF, if_neg h, e, if_neg (by simp)]
theorem shE_t {b : Bool} (h : shE b = 0) : b = true := by cases b <;> first | rfl | simp [shE] at h
theorem shE_f {b : Bool} (h : shE b ≠ 0) : b = false := by cases b <;> first | rfl | simp [shE] at h
theorem shE_1 {k : Nat} {v : Val} (h : shpOk v = false) : shE (shpF (k + 1) v) = 3 := by rw [shpF, h]; rfl
theorem shE_2 {k : Nat} {v : Val} (h : v.l.all (shpF k) = false) : shE (shpF (k + 1) v) = 3 := by rw [shpF, h]; simp [shE]
theorem shE_3 {k : Nat} {v : Val} (h : v.f.all (fun p => shpF k p.2) = false) : shE (shpF (k + 1) v) = 3 := by rw [shpF, h]; simp [shE]
theorem shE_0 {k : Nat} {v : Val} (h1 : shpOk v = true) (h2 : v.l.all (shpF k) = true) (h3 : v.f.all (fun p => shpF k p.2) = true) : shE (shpF (k + 1) v) = 0 := by rw [shpF, h1, h2, h3]; rfl
set_option maxHeartbeats 4000000 in
theorem u_count1 (k : Nat) (v : Val) (deep n : Int) (p : Nat) (ih : ∀ (w : Val) (deep n : Int), depV w < k → 1 ≤ deep → deep ≤ 7 → 0 ≤ n → n ≤ 60 → ∀ (b : Nat) (m : AMem), Gd [b] m → ∀ (K : AV → AMem → Prop), K (.bool (cntF k deep w n).1) (AMem.wth m [(b, .cells [.int .i64 (cntF k deep w n).2])]) → ACalls Try.prog 42 [valTop w, .int .i64 deep, .ptr ⟨b, 0, none⟩] (AMem.wth m [(b, .cells [.int .i64 n])]) K) (hd : depV v < k + 1) (hd1 : 1 ≤ deep) (hd7 : deep ≤ 7) (hn0 : 0 ≤ n) (hn6 : n ≤ 60) (m : AMem) (gd : Gd [p] m) (K : AV → AMem → Prop) (hK : K (.bool (cntF (k + 1) deep v n).1) (AMem.wth m [(p, .cells [.int .i64 (cntF (k + 1) deep v n).2])])) : ACalls Try.prog 42 [valTop v, .int .i64 deep, .ptr ⟨p, 0, none⟩] (AMem.wth m [(p, .cells [.int .i64 n])]) K := by
 refine enter (c := cf [] [0] [2] [] [] [p]) (vs := [.av (valTop v), .av (.int .i64 deep), .loc 0 0]) (L := [.cells [vI n]]) (m := m) false tbOk Try.mixed Try.func42 rfl (k := 3) (by show fnOk [] _ _ _ = true; decide +kernel) rfl (gd.good rfl) ?_
 refine ⟨fun F0 => ?_⟩
 have hbd0_2 : v.s.length ≤ 140737488355328 := (F0 0 2 (Nat.le_of_ble_eq_true rfl))
 have hbd0_3 : v.l.length ≤ 140737488355328 := bd_map (F0 0 3 (Nat.le_of_ble_eq_true rfl))
 have hbd0_4 : v.f.length ≤ 140737488355328 := bd_map (F0 0 4 (Nat.le_of_ble_eq_true rfl))
 refine an (by omega) ?_
 refine sq ?_
 refine mg [1, 2, 3] 23 ((decide (6 < deep)) || (decide (n - 1 < 0))) ?_ ?_
 · repeat' first
    | exact ⟨⟨_, rfl, by grind [SB.val]⟩, rfl⟩
    | refine an (fun _ => ?_) (fun _ => ?_)
 refine an (fun h1 => ?_) (fun h1 => ?_)
 · replace h1 : (6 < deep) ∨ (n - 1 < 0) := ((borT h1).imp (fun q => (of_decide_eq_true q)) (fun q => (of_decide_eq_true q)))
   refine rt rfl fun _ => ?_
   show K (.bool false) (AMem.wth m [(p, .cells [.int .i64 (n - 1)])])
   rw [cntF, if_pos (by omega)] at hK; exact hK
 replace h1 : (deep ≤ 6) ∧ (0 ≤ n - 1) := ⟨(Int.not_lt.1 (of_decide_eq_false (borL h1))), (Int.not_lt.1 (of_decide_eq_false (borR h1)))⟩
 refine sq ?_
 refine ln ?_
 refine lp (σ := Int × Int) [] [1, 2, 3, 25, 26, 27] 2 (fun ⟨i, nl⟩ => ([(1, vI deep), (2, .loc 0 0), (3, .loc 1 0), (25, vL (v.l.map valIn)), (26, vI (v.l.length : Int)), (27, vI i)], [.cells [vI nl], .cells [vI v.kind, vI v.n, vS v.s, vL (v.l.map valIn), vL (v.f.map fldIn)]], m)) (fun ⟨i, nl⟩ => 0 ≤ i ∧ i ≤ v.l.length ∧ 0 ≤ nl ∧ nl ≤ 60 ∧ cntL (cntF k (deep + 1)) v.l (n - 1) = cntL (cntF k (deep + 1)) (v.l.drop i.toNat) nl) (fun ⟨i, nl⟩ => v.l.length - i.toNat) (0, n - 1) ⟨rfl, rfl⟩ ?_ ?_
 · try dsimp only
   exact ⟨by omega, by omega, by omega, by omega, rfl⟩
 rintro ⟨i, nl⟩ hI
 dsimp only at hI
 refine sq ?_
 refine an (fun h2 => ?_) (fun h2 => ?_)
 · refine sq ?_
   refine ixg valTop valIn_eq (by omega) ?_
   refine an (by omega) ?_
   refine callM [0] [.cells [vI ((cntF k (deep + 1) (gI v.l i) nl).2)]] (vB ((cntF k (deep + 1) (gI v.l i) nl).1)) rfl (fun bs mm gd => ih (gI v.l i) (deep + 1) nl (by have := depV_eq v; first | (have := depL_mem (gI_mem (l := v.l) (i := i) hI.1 (by assumption)); omega) | (have := depF_mem (gI_mem (l := v.f) (i := i2) hI2.1 (by assumption)); omega)) (by omega) (by omega) (by omega) (by omega) (bs.getD 0 0) mm gd) ?_
   refine an (fun h3 => ?_) (fun h3 => ?_)
   · refine an (by omega) ?_
     refine ⟨(i + 1, (cntF k (deep + 1) (gI v.l i) nl).2), ⟨rfl, rfl⟩, ?_, ?_⟩
     · try dsimp only
       have q := cntF_ok k (deep + 1) (gI v.l i) nl hI.2.2.1 h3
       exact ⟨by omega, by omega, by omega, by omega, by rw [hI.2.2.2.2, cntL_drop hI.1 h2, if_pos h3]⟩
     try dsimp only
     omega
   refine rt rfl fun _ => ?_
   show K (.bool false) (AMem.wth m [(p, .cells [.int .i64 ((cntF k (deep + 1) (gI v.l i) nl).2)])])
   have e : cntF (k + 1) deep v n = (false, (cntF k (deep + 1) (gI v.l i) nl).2) := cntF_l (by omega) (by rw [hI.2.2.2.2, cntL_drop hI.1 h2, if_neg (by simp [h3])])
   rw [e] at hK; exact hK
 refine sq ?_
 refine ln ?_
 refine lp (σ := Int × Int) [] [1, 2, 39, 40, 41] 2 (fun ⟨i2, nf⟩ => ([(1, vI deep), (2, .loc 0 0), (39, vL (v.f.map fldIn)), (40, vI (v.f.length : Int)), (41, vI i2)], [.cells [vI nf], .cells [vI v.kind, vI v.n, vS v.s, vL (v.l.map valIn), vL (v.f.map fldIn)]], m)) (fun ⟨i2, nf⟩ => 0 ≤ i2 ∧ i2 ≤ v.f.length ∧ 0 ≤ nf ∧ nf ≤ 60 ∧ cntF (k + 1) deep v n = cntL (fun p => cntF k (deep + 1) p.2) (v.f.drop i2.toNat) nf) (fun ⟨i2, nf⟩ => v.f.length - i2.toNat) (0, nl) ⟨rfl, rfl⟩ ?_ ?_
 · try dsimp only
   have e : cntL (cntF k (deep + 1)) v.l (n - 1) = (true, nl) := by rw [hI.2.2.2.2, List.drop_eq_nil_of_le (by omega)]; rfl
   exact ⟨by omega, by omega, by omega, by omega, by rw [cntF_f (by omega) e]; rfl⟩
 rintro ⟨i2, nf⟩ hI2
 dsimp only at hI2
 refine sq ?_
 refine an (fun h4 => ?_) (fun h4 => ?_)
 · refine sq ?_
   refine ixg fldTop fldIn_eq (by omega) ?_
   refine an (by omega) ?_
   refine callM [0] [.cells [vI ((cntF k (deep + 1) ((gI v.f i2).2) nf).2)]] (vB ((cntF k (deep + 1) ((gI v.f i2).2) nf).1)) rfl (fun bs mm gd => ih ((gI v.f i2).2) (deep + 1) nf (by have := depV_eq v; first | (have := depL_mem (gI_mem (l := v.l) (i := i) hI.1 (by assumption)); omega) | (have := depF_mem (gI_mem (l := v.f) (i := i2) hI2.1 (by assumption)); omega)) (by omega) (by omega) (by omega) (by omega) (bs.getD 0 0) mm gd) ?_
   refine an (fun h5 => ?_) (fun h5 => ?_)
   · refine an (by omega) ?_
     refine ⟨(i2 + 1, (cntF k (deep + 1) ((gI v.f i2).2) nf).2), ⟨rfl, rfl⟩, ?_, ?_⟩
     · try dsimp only
       have q := cntF_ok k (deep + 1) (gI v.f i2).2 nf hI2.2.2.1 h5
       exact ⟨by omega, by omega, by omega, by omega, by rw [hI2.2.2.2.2, cntL_drop hI2.1 h4, if_pos h5]⟩
     try dsimp only
     omega
   refine rt rfl fun _ => ?_
   show K (.bool false) (AMem.wth m [(p, .cells [.int .i64 ((cntF k (deep + 1) ((gI v.f i2).2) nf).2)])])
   have e : cntF (k + 1) deep v n = (false, (cntF k (deep + 1) (gI v.f i2).2 nf).2) := by
     rw [hI2.2.2.2.2, cntL_drop hI2.1 h4, if_neg (by simp [h5])]
   rw [e] at hK; exact hK
 refine rt rfl fun _ => ?_
 show K (.bool true) (AMem.wth m [(p, .cells [.int .i64 nf])])
 have e : cntF (k + 1) deep v n = (true, nf) := by rw [hI2.2.2.2.2, List.drop_eq_nil_of_le (by omega)]; rfl
 rw [e] at hK; exact hK
theorem u_count : ∀ (k : Nat) (v : Val) (deep n : Int), depV v < k → 1 ≤ deep → deep ≤ 7 → 0 ≤ n → n ≤ 60 → ∀ (b : Nat) (m : AMem), Gd [b] m → ∀ (K : AV → AMem → Prop), K (.bool (cntF k deep v n).1) (AMem.wth m [(b, .cells [.int .i64 (cntF k deep v n).2])]) → ACalls Try.prog 42 [valTop v, .int .i64 deep, .ptr ⟨b, 0, none⟩] (AMem.wth m [(b, .cells [.int .i64 n])]) K
  | 0, _, _, _, h => absurd h (Nat.not_lt_zero _)
  | k + 1, v, deep, n, h => fun h1 h7 h0 h6 b m gd K hK => u_count1 k v deep n b (u_count k) h h1 h7 h0 h6 m gd K hK
set_option maxHeartbeats 8000000 in
theorem u_shape1 (k : Nat) (v : Val) (ih : ∀ (w : Val), depV w < k → ∀ (m : AMem) (K : AV → AMem → Prop), K (.err 61 (shE (shpF k w))) m → ACalls Try.prog 43 [valTop w] m K) (hd : depV v < k + 1) (m : AMem)  (K : AV → AMem → Prop) (hK : K (.err 61 (shE (shpF (k + 1) v))) m) : ACalls Try.prog 43 [valTop v] m K := by
 refine enter (c := cf [] [0, 19] [5, 7, 9, 11, 13, 15, 19] [] [] []) (vs := [.av (valTop v)]) (L := []) (m := m) true tbOk Try.mixed Try.func43 rfl (k := 1) (by show fnOk [] _ _ _ = true; decide +kernel) rfl (Good.nil m) ?_
 refine ⟨fun F0 => ?_⟩
 have hbd0_2 : v.s.length ≤ 140737488355328 := (F0 0 2 (Nat.le_of_ble_eq_true rfl))
 have hbd0_3 : v.l.length ≤ 140737488355328 := bd_map (F0 0 3 (Nat.le_of_ble_eq_true rfl))
 have hbd0_4 : v.f.length ≤ 140737488355328 := bd_map (F0 0 4 (Nat.le_of_ble_eq_true rfl))
 refine jn (σ := Bool) [(3, 0)] [1, 3] 1 (fun ok => ([(1, .loc 0 0), (3, vB ok)], [.cells [vI v.kind, vI v.n, vS v.s, vL (v.l.map valIn), vL (v.f.map fldIn)]], m)) (fun ok => ok = shpOk v) ?_ ?_
 · rintro ok hj0
   refine sq ?_
   refine an (fun h1 => ?_) (fun h1 => ?_)
   · refine sq ?_
     refine ln ?_
     refine lp (σ := Int) [] [1, 170, 171, 172] 1 (fun i => ([(1, .loc 0 0), (170, vL (v.l.map valIn)), (171, vI (v.l.length : Int)), (172, vI i)], [.cells [vI v.kind, vI v.n, vS v.s, vL (v.l.map valIn), vL (v.f.map fldIn)]], m)) (fun i => 0 ≤ i ∧ i ≤ v.l.length ∧ v.l.all (shpF k) = (v.l.drop i.toNat).all (shpF k)) (fun i => v.l.length - i.toNat) (0) ⟨rfl, rfl⟩ ?_ ?_
     · try dsimp only
       exact ⟨by omega, by omega, rfl⟩
     rintro i hI
     refine sq ?_
     refine an (fun h2 => ?_) (fun h2 => ?_)
     · refine sq ?_
       refine ixg valTop valIn_eq (by omega) ?_
       refine call0 (fun _ => ih (gI v.l i) (by have := depV_eq v; first | (have := depL_mem (gI_mem (l := v.l) (i := i) hI.1 (by assumption)); omega) | (have := depF_mem (gI_mem (l := v.f) (i := i2) hI2.1 (by assumption)); omega))) rfl ?_
       refine an (fun h3 => ?_) (fun h3 => ?_)
       · refine an (by omega) ?_
         refine ⟨(i + 1), ⟨rfl, rfl⟩, ?_, ?_⟩
         · try dsimp only
           exact ⟨by omega, by omega, by rw [hI.2.2, all_drop hI.1 h2, shE_t h3, Bool.true_and]⟩
         try dsimp only
         omega
       refine rt0 rfl fun _ => ?_
       show K (.err 61 3) m
       rw [shE_2 (by rw [hI.2.2, all_drop hI.1 h2, shE_f h3, Bool.false_and])] at hK; exact hK
     refine sq ?_
     refine ln ?_
     refine lp (σ := Int) [] [182, 183, 184] 1 (fun i2 => ([(182, vL (v.f.map fldIn)), (183, vI (v.f.length : Int)), (184, vI i2)], [.cells [vI v.kind, vI v.n, vS v.s, vL (v.l.map valIn), vL (v.f.map fldIn)]], m)) (fun i2 => 0 ≤ i2 ∧ i2 ≤ v.f.length ∧ v.f.all (fun p => shpF k p.2) = (v.f.drop i2.toNat).all (fun p => shpF k p.2)) (fun i2 => v.f.length - i2.toNat) (0) ⟨rfl, rfl⟩ ?_ ?_
     · try dsimp only
       exact ⟨by omega, by omega, rfl⟩
     rintro i2 hI2
     refine sq ?_
     refine an (fun h4 => ?_) (fun h4 => ?_)
     · refine sq ?_
       refine ixg fldTop fldIn_eq (by omega) ?_
       refine call0 (fun _ => ih ((gI v.f i2).2) (by have := depV_eq v; first | (have := depL_mem (gI_mem (l := v.l) (i := i) hI.1 (by assumption)); omega) | (have := depF_mem (gI_mem (l := v.f) (i := i2) hI2.1 (by assumption)); omega))) rfl ?_
       refine an (fun h5 => ?_) (fun h5 => ?_)
       · refine an (by omega) ?_
         refine ⟨(i2 + 1), ⟨rfl, rfl⟩, ?_, ?_⟩
         · try dsimp only
           exact ⟨by omega, by omega, by rw [hI2.2.2, all_drop (g := fun p : Str × Val => shpF k p.2) hI2.1 h4, shE_t h5, Bool.true_and]⟩
         try dsimp only
         omega
       refine rt0 rfl fun _ => ?_
       show K (.err 61 3) m
       rw [shE_3 (by rw [hI2.2.2, all_drop (g := fun p : Str × Val => shpF k p.2) hI2.1 h4, shE_f h5, Bool.false_and])] at hK; exact hK
     refine rt0 rfl fun _ => ?_
     show K (.err 61 0) m
     rw [shE_0 (by rw [← hj0, h1]) (by rw [hI.2.2, List.drop_eq_nil_of_le (by omega)]; rfl) (by rw [hI2.2.2, List.drop_eq_nil_of_le (by omega)]; rfl)] at hK; exact hK
   refine rt0 rfl fun _ => ?_
   show K (.err 61 3) m
   rw [shE_1 (by rw [← hj0, h1])] at hK; exact hK
 refine an (fun h6 => ?_) (fun h6 => ?_)
 · refine mg [1] 3 (((v.n == 0) && (v.s == ([]))) && (((v.l.length : Int) + (v.f.length : Int)) == 0)) ?_ ?_
   · repeat' first
      | exact ⟨⟨_, rfl, by grind [SB.val]⟩, rfl⟩
      | refine an (fun _ => ?_) (fun _ => ?_)
      | refine ln ?_
      | refine an (by omega) ?_
   refine ⟨((((v.n == 0) && (v.s == ([]))) && (((v.l.length : Int) + (v.f.length : Int)) == 0))), ⟨rfl, rfl⟩, ?_⟩
   unfold shpOk
   repeat' split
   all_goals first | omega | rfl
 refine an (fun h7 => ?_) (fun h7 => ?_)
 · refine mg [1] 3 ((((decide (-1000000000 ≤ v.n)) && (decide (v.n ≤ 1000000000))) && (v.s == ([]))) && (((v.l.length : Int) + (v.f.length : Int)) == 0)) ?_ ?_
   · repeat' first
      | exact ⟨⟨_, rfl, by grind [SB.val]⟩, rfl⟩
      | refine an (fun _ => ?_) (fun _ => ?_)
      | refine ln ?_
      | refine an (by omega) ?_
   refine ⟨(((((decide (-1000000000 ≤ v.n)) && (decide (v.n ≤ 1000000000))) && (v.s == ([]))) && (((v.l.length : Int) + (v.f.length : Int)) == 0))), ⟨rfl, rfl⟩, ?_⟩
   unfold shpOk
   repeat' split
   all_goals first | omega | rfl
 refine an (fun h8 => ?_) (fun h8 => ?_)
 · refine mg [1] 3 (((v.n == 0) && (decide ((v.s.length : Int) ≤ 40))) && (((v.l.length : Int) + (v.f.length : Int)) == 0)) ?_ ?_
   · repeat' first
      | exact ⟨⟨_, rfl, by grind [SB.val]⟩, rfl⟩
      | refine an (fun _ => ?_) (fun _ => ?_)
      | refine ln ?_
      | refine an (by omega) ?_
   refine ⟨((((v.n == 0) && (decide ((v.s.length : Int) ≤ 40))) && (((v.l.length : Int) + (v.f.length : Int)) == 0))), ⟨rfl, rfl⟩, ?_⟩
   unfold shpOk
   repeat' split
   all_goals first | omega | rfl
 refine an (fun h9 => ?_) (fun h9 => ?_)
 · refine mg [1] 3 ((((v.n == 0) || (v.n == 1)) && (v.s == ([]))) && (((v.l.length : Int) + (v.f.length : Int)) == 0)) ?_ ?_
   · repeat' first
      | exact ⟨⟨_, rfl, by grind [SB.val]⟩, rfl⟩
      | refine an (fun _ => ?_) (fun _ => ?_)
      | refine ln ?_
      | refine an (by omega) ?_
   refine ⟨(((((v.n == 0) || (v.n == 1)) && (v.s == ([]))) && (((v.l.length : Int) + (v.f.length : Int)) == 0))), ⟨rfl, rfl⟩, ?_⟩
   unfold shpOk
   repeat' split
   all_goals first | omega | rfl
 refine an (fun h10 => ?_) (fun h10 => ?_)
 · refine mg [1] 3 (((v.n == 0) && (v.s == ([]))) && ((v.f.length : Int) == 0)) ?_ ?_
   · repeat' first
      | exact ⟨⟨_, rfl, by grind [SB.val]⟩, rfl⟩
      | refine an (fun _ => ?_) (fun _ => ?_)
      | refine ln ?_
   refine ⟨((((v.n == 0) && (v.s == ([]))) && ((v.f.length : Int) == 0))), ⟨rfl, rfl⟩, ?_⟩
   unfold shpOk
   repeat' split
   all_goals first | omega | rfl
 refine an (fun h11 => ?_) (fun h11 => ?_)
 · refine mg [1] 3 (((v.n == 0) && (v.s == ([]))) && ((v.l.length : Int) == 0)) ?_ ?_
   · repeat' first
      | exact ⟨⟨_, rfl, by grind [SB.val]⟩, rfl⟩
      | refine an (fun _ => ?_) (fun _ => ?_)
      | refine ln ?_
   refine ln ?_
   refine lp (σ := Bool × Int) [(3, 0)] [1, 3, 136, 137, 138] 1 (fun ⟨ok, i⟩ => ([(1, .loc 0 0), (3, vB ok), (136, vL (v.f.map fldIn)), (137, vI (v.f.length : Int)), (138, vI i)], [.cells [vI v.kind, vI v.n, vS v.s, vL (v.l.map valIn), vL (v.f.map fldIn)]], m)) (fun ⟨ok, i⟩ => 0 ≤ i ∧ i ≤ v.f.length ∧ shpOk v = (ok && recOk (prevN v.f i) (v.f.drop i.toNat))) (fun ⟨ok, i⟩ => v.f.length - i.toNat) ((((v.n == 0) && (v.s == ([]))) && ((v.l.length : Int) == 0)), 0) ⟨rfl, rfl⟩ ?_ ?_
   · try dsimp only
     refine ⟨by omega, by omega, ?_⟩
     unfold shpOk
     rw [if_neg (by assumption), if_neg (by assumption), if_neg (by assumption), if_neg (by assumption), if_neg (by assumption), if_pos (by assumption)]
     rfl
   rintro ⟨ok, i⟩ hI
   dsimp only at hI
   refine sq ?_
   refine an (fun h12 => ?_) (fun h12 => ?_)
   · refine sq ?_
     refine ixg fldTop fldIn_eq (by omega) ?_
     refine ⟨fun F19 => ?_⟩
     have hbdF : (gI v.f i).1.length ≤ 140737488355328 := bdL_map (f := fldIn) (F19 136).2 (gI_mem hI.1 h12) 0 (Nat.succ_pos _)
     refine mg [1, 136, 137, 138] 3 ((ok && (nameV ((gI v.f i).1))) && ((i == 0) || (Op.bytesLess ((gI v.f (i - 1)).1) ((gI v.f i).1)))) ?_ ?_
     · repeat' first
        | exact ⟨⟨_, rfl, by grind [SB.val]⟩, rfl⟩
        | refine an (fun _ => ?_) (fun _ => ?_)
        | refine pure0 (fun _ => u_VName ((gI v.f i).1) hbdF) ?_
        | refine an (by omega) ?_
        | refine ixg fldTop fldIn_eq (by omega) ?_
     refine an (by omega) ?_
     refine ⟨(((ok && (nameV ((gI v.f i).1))) && ((i == 0) || (Op.bytesLess ((gI v.f (i - 1)).1) ((gI v.f i).1)))), i + 1), ⟨rfl, rfl⟩, ?_, ?_⟩
     · try dsimp only
       exact ⟨by omega, by omega, by rw [hI.2.2, recOk_step hI.1 h12]; simp only [Bool.and_assoc]⟩
     try dsimp only
     omega
   refine ⟨(ok), ⟨rfl, rfl⟩, ?_⟩
   rw [hI.2.2, List.drop_eq_nil_of_le (by omega)]; simp [recOk]
 refine ⟨(false), ⟨rfl, rfl⟩, ?_⟩
 unfold shpOk
 repeat' split
 all_goals first | omega | rfl
theorem u_shape : ∀ (k : Nat) (v : Val), depV v < k → ∀ (m : AMem) (K : AV → AMem → Prop), K (.err 61 (shE (shpF k v))) m → ACalls Try.prog 43 [valTop v] m K
  | 0, _, h => absurd h (Nat.not_lt_zero _)
  | k + 1, v, h => fun m K hK => u_shape1 k v (u_shape k) h m K hK
set_option maxHeartbeats 2000000 in
theorem u_Check (v : Val)  (m : AMem)  (K : AV → AMem → Prop) (hK : K (.err 61 (chk v)) m) : ACalls Try.prog 38 [valTop v] m K := by
 refine enter (c := cf [] [] [] [] [] []) (vs := [.av (valTop v)]) (L := []) (m := m) true tbOk Try.mixed Try.func38 rfl (k := 1) (by show fnOk [] _ _ _ = true; decide +kernel) rfl (Good.nil m) ?_
 refine sq ?_
 refine callM [1] [.cells [vI ((cntF (depV v + 1) 1 v 60).2)]] (vB ((cntF (depV v + 1) 1 v 60).1)) rfl (fun bs mm gd => u_count (depV v + 1) v 1 60 (Nat.lt_succ_self _) (by omega) (by omega) (by omega) (by omega) (bs.getD 1 0) mm gd) ?_
 refine an (fun h1 => ?_) (fun h1 => ?_)
 · refine call0 (fun _ => u_shape (depV v + 1) v (Nat.lt_succ_self _)) rfl ?_
   have e0 : chk v = (shE (shpF (depV v + 1) v) : Int) := by
    first | (rw [chk, if_pos (by assumption)]; done) | (rw [chk, if_neg (by simp_all)]; done)
   rw [e0] at hK
   exact rt0 rfl fun _ => hK
 have e0 : chk v = (2 : Int) := by
  first | (rw [chk, if_pos (by assumption)]; done) | (rw [chk, if_neg (by simp_all)]; done)
 rw [e0] at hK
 exact rt0 rfl fun _ => hK
set_option maxHeartbeats 4000000 in
theorem u_Alike1 (a b : Val) (ih : ∀ v w : Val, depV v < depV a → ∀ (m : AMem) (K : AV → AMem → Prop), K (.bool (vEq v w)) m → ACalls Try.prog 44 [valTop v, valTop w] m K) (m : AMem)  (K : AV → AMem → Prop) (hK : K (.bool (vEq a b)) m) : ACalls Try.prog 44 [valTop a, valTop b] m K := by
 refine enter (c := cf [] [0] [1, 12] [] [] []) (vs := [.av (valTop a), .av (valTop b)]) (L := []) (m := m) false tbOk Try.mixed Try.func44 rfl (k := 2) (by show fnOk [] _ _ _ = true; decide +kernel) rfl (Good.nil m) ?_
 refine ⟨fun F0 => ?_⟩
 have hbd0_2 : a.s.length ≤ 140737488355328 := (F0 0 2 (Nat.le_of_ble_eq_true rfl))
 have hbd0_3 : a.l.length ≤ 140737488355328 := bd_map (F0 0 3 (Nat.le_of_ble_eq_true rfl))
 have hbd0_4 : a.f.length ≤ 140737488355328 := bd_map (F0 0 4 (Nat.le_of_ble_eq_true rfl))
 have hbd1_2 : b.s.length ≤ 140737488355328 := (F0 1 2 (Nat.le_of_ble_eq_true rfl))
 have hbd1_3 : b.l.length ≤ 140737488355328 := bd_map (F0 1 3 (Nat.le_of_ble_eq_true rfl))
 have hbd1_4 : b.f.length ≤ 140737488355328 := bd_map (F0 1 4 (Nat.le_of_ble_eq_true rfl))
 refine sq ?_
 refine mg [2, 3] 43 (((((!(a.kind == b.kind)) || (!(a.n == b.n))) || (!(a.s == b.s))) || (!((a.l.length : Int) == (b.l.length : Int)))) || (!((a.f.length : Int) == (b.f.length : Int)))) ?_ ?_
 · repeat' first
    | exact ⟨⟨_, rfl, by grind [SB.val]⟩, rfl⟩
    | refine an (fun _ => ?_) (fun _ => ?_)
    | refine ln ?_
 refine an (fun h1 => ?_) (fun h1 => ?_)
 · replace h1 : ((((a.kind ≠ b.kind) ∨ (a.n ≠ b.n)) ∨ (a.s ≠ b.s)) ∨ ((a.l.length : Int) ≠ (b.l.length : Int))) ∨ ((a.f.length : Int) ≠ (b.f.length : Int)) := ((borT h1).imp (fun q => ((borT q).imp (fun q => ((borT q).imp (fun q => ((borT q).imp (fun q => (ne_of_beq_false (bnT q))) (fun q => (ne_of_beq_false (bnT q))))) (fun q => (ne_of_beq_false (bnT q))))) (fun q => (ne_of_beq_false (bnT q))))) (fun q => (ne_of_beq_false (bnT q))))
   refine rt0 rfl fun _ => ?_
   show K (.bool false) m
   rw [vEq_false (by intro hh; subst hh; simp at h1)] at hK; exact hK
 replace h1 : ((((a.kind = b.kind) ∧ (a.n = b.n)) ∧ (a.s = b.s)) ∧ ((a.l.length : Int) = (b.l.length : Int))) ∧ ((a.f.length : Int) = (b.f.length : Int)) := ⟨⟨⟨⟨(eq_of_beq (bnF (borL (borL (borL (borL h1)))))), (eq_of_beq (bnF (borR (borL (borL (borL h1))))))⟩, (eq_of_beq (bnF (borR (borL (borL h1)))))⟩, (eq_of_beq (bnF (borR (borL h1))))⟩, (eq_of_beq (bnF (borR h1)))⟩
 obtain ⟨⟨⟨⟨hk, hn⟩, hs⟩, hl⟩, hf⟩ := h1
 refine sq ?_
 refine ln ?_
 refine lp (σ := Int) [] [2, 3, 46, 47] 2 (fun i => ([(2, .loc 0 0), (3, .loc 1 0), (46, vI (a.l.length : Int)), (47, vI i)], [.cells [vI a.kind, vI a.n, vS a.s, vL (a.l.map valIn), vL (a.f.map fldIn)], .cells [vI b.kind, vI b.n, vS b.s, vL (b.l.map valIn), vL (b.f.map fldIn)]], m)) (fun i => 0 ≤ i ∧ i ≤ a.l.length ∧ a.l.take i.toNat = b.l.take i.toNat) (fun i => a.l.length - i.toNat) (0) ⟨rfl, rfl⟩ ?_ ?_
 · try dsimp only
   exact ⟨by omega, by omega, rfl⟩
 rintro i hI
 refine sq ?_
 refine an (fun h2 => ?_) (fun h2 => ?_)
 · refine sq ?_
   refine ixg valTop valIn_eq (by omega) ?_
   refine ixg valTop valIn_eq (by omega) ?_
   refine pure0 (fun _ => ih (gI a.l i) (gI b.l i) (by have := depV_eq a; first | (have := depL_mem (gI_mem (l := a.l) (i := i) hI.1 (by assumption)); omega) | (have := depF_mem (gI_mem (l := a.f) (i := i2) hI2.1 (by assumption)); omega))) ?_
   refine an (fun h3 => ?_) (fun h3 => ?_)
   · refine an (by omega) ?_
     refine ⟨(i + 1), ⟨rfl, rfl⟩, ?_, ?_⟩
     · try dsimp only
       exact ⟨by omega, by omega, by rw [take_succ_gI hI.1 h2, take_succ_gI hI.1 (by omega), hI.2.2, vEq_iff.1 h3]⟩
     try dsimp only
     omega
   refine rt0 rfl fun _ => ?_
   show K (.bool false) m
   rw [vEq_false (by intro hh; subst hh; rw [vEq_true rfl] at h3; cases h3)] at hK; exact hK
 refine sq ?_
 refine ln ?_
 refine lp (σ := Int) [] [2, 3, 65, 66] 2 (fun i2 => ([(2, .loc 0 0), (3, .loc 1 0), (65, vI (a.f.length : Int)), (66, vI i2)], [.cells [vI a.kind, vI a.n, vS a.s, vL (a.l.map valIn), vL (a.f.map fldIn)], .cells [vI b.kind, vI b.n, vS b.s, vL (b.l.map valIn), vL (b.f.map fldIn)]], m)) (fun i2 => 0 ≤ i2 ∧ i2 ≤ a.f.length ∧ a.f.take i2.toNat = b.f.take i2.toNat) (fun i2 => a.f.length - i2.toNat) (0) ⟨rfl, rfl⟩ ?_ ?_
 · try dsimp only
   exact ⟨by omega, by omega, rfl⟩
 rintro i2 hI2
 refine sq ?_
 refine an (fun h4 => ?_) (fun h4 => ?_)
 · refine sq ?_
   refine mg [2, 3, 65, 66] 97 ((!(((gI a.f i2).1) == ((gI b.f i2).1))) || (!(vEq ((gI a.f i2).2) ((gI b.f i2).2)))) ?_ ?_
   · repeat' first
      | exact ⟨⟨_, rfl, by grind [SB.val]⟩, rfl⟩
      | refine an (fun _ => ?_) (fun _ => ?_)
      | refine ixg fldTop fldIn_eq (by omega) ?_
      | refine pure0 (fun _ => ih ((gI a.f i2).2) ((gI b.f i2).2) (by have := depV_eq a; first | (have := depL_mem (gI_mem (l := a.l) (i := i) hI.1 (by assumption)); omega) | (have := depF_mem (gI_mem (l := a.f) (i := i2) hI2.1 (by assumption)); omega))) ?_
   refine an (fun h5 => ?_) (fun h5 => ?_)
   · replace h5 : ((gI a.f i2).1 ≠ (gI b.f i2).1) ∨ (vEq ((gI a.f i2).2) ((gI b.f i2).2) = false) := ((borT h5).imp (fun q => (ne_of_beq_false (bnT q))) (fun q => (bnT q)))
     refine rt0 rfl fun _ => ?_
     show K (.bool false) m
     rw [vEq_false (by intro hh; subst hh; rw [vEq_true rfl] at h5; simp at h5)] at hK; exact hK
   replace h5 : ((gI a.f i2).1 = (gI b.f i2).1) ∧ (vEq ((gI a.f i2).2) ((gI b.f i2).2) = true) := ⟨(eq_of_beq (bnF (borL h5))), (bnF (borR h5))⟩
   refine an (by omega) ?_
   refine ⟨(i2 + 1), ⟨rfl, rfl⟩, ?_, ?_⟩
   · try dsimp only
     exact ⟨by omega, by omega, by rw [take_succ_gI hI2.1 h4, take_succ_gI hI2.1 (by omega), hI2.2.2, Prod.ext h5.1 (vEq_iff.1 h5.2)]⟩
   try dsimp only
   omega
 refine rt0 rfl fun _ => ?_
 show K (.bool true) m
 rw [vEq_true (Val.ext' hk hn hs (by have := hI.2.2; rwa [take_full (by omega), take_full (by omega)] at this) (by have := hI2.2.2; rwa [take_full (by omega), take_full (by omega)] at this))] at hK; exact hK
theorem u_Alike2 : ∀ (n : Nat) (a b : Val), depV a < n → ∀ (m : AMem) (K : AV → AMem → Prop), K (.bool (vEq a b)) m → ACalls Try.prog 44 [valTop a, valTop b] m K
  | 0, _, _, h => absurd h (Nat.not_lt_zero _)
  | n + 1, a, b, h => fun m K hK => u_Alike1 a b (fun v w hv => u_Alike2 n v w (by omega)) m K hK
theorem u_Alike (a b : Val) (m : AMem) (K : AV → AMem → Prop) (hK : K (.bool (vEq a b)) m) : ACalls Try.prog 44 [valTop a, valTop b] m K := u_Alike2 (depV a + 1) a b (Nat.lt_succ_self _) m K hK
end Go.Proofs
end
section
namespace Go.Proofs
open Go Go.Aw Go.Sx
set_option maxRecDepth 100000
inductive Exp where
  | mk (kind : Int) (v : Val) (s t : Str) (a : List Exp) (n : List Str)
instance : Inhabited Exp := ⟨.mk 0 zV [] [] [] []⟩
def Exp.kind : Exp → Int | .mk k _ _ _ _ _ => k
def Exp.v : Exp → Val | .mk _ v _ _ _ _ => v
def Exp.s : Exp → Str | .mk _ _ s _ _ _ => s
def Exp.t : Exp → Str | .mk _ _ _ t _ _ => t
def Exp.a : Exp → List Exp | .mk _ _ _ _ a _ => a
def Exp.n : Exp → List Str | .mk _ _ _ _ _ n => n
mutual
def expIn : Exp → AV
  | .mk k v s t a n => .agg [.int .i64 k, .int .i64 v.kind, .int .i64 v.n, .str v.s, .slice false (v.l.map valIn), .slice false (v.f.map fldIn), .str s, .str t, .slice false (expsIn a), .slice false (n.map strAV)]
def expsIn : List Exp → List AV
  | [] => []
  | e :: r => expIn e :: expsIn r
end
theorem expsIn_eq (l : List Exp) : expsIn l = l.map expIn := by
  induction l with
  | nil => rfl
  | cons v r ih => simp only [expsIn, List.map_cons, ih]
def expTop (e : Exp) : AV := .agg [.int .i64 e.kind, .int .i64 e.v.kind, .int .i64 e.v.n, .str e.v.s, .slice false (e.v.l.map valIn), .slice false (e.v.f.map fldIn), .str e.s, .str e.t, .slice false (e.a.map expIn), .slice false (e.n.map strAV)]
theorem expIn_eq (e : Exp) : expIn e = expTop e := by
  cases e with
  | mk k v s t a n => simp only [expIn, expTop, expsIn_eq, Exp.kind, Exp.v, Exp.s, Exp.t, Exp.a, Exp.n]
mutual
def depE : Exp → Nat
  | .mk _ _ _ _ a _ => depEL a + 1
def depEL : List Exp → Nat
  | [] => 0
  | e :: r => depE e + depEL r
end
theorem depEL_mem {l : List Exp} {e : Exp} (h : e ∈ l) : depE e ≤ depEL l := by
  induction l with
  | nil => cases h
  | cons a r ih =>
    simp only [depEL]
    rcases List.mem_cons.1 h with rfl | h
    · omega
    · have := ih h; omega
theorem depE_eq (e : Exp) : depE e = depEL e.a + 1 := by
  cases e with
  | mk k v s t a n => simp only [depE, Exp.a]
theorem depE_mem {e x : Exp} (h : x ∈ e.a) : depE x < depE e := by
  have := depEL_mem h
  rw [depE_eq e]; omega
def namesL (most : Int) : List Str → Int → Int
  | [], n => n
  | s :: r, n => if n ≤ most then namesL most r (IntKind.i64.wrap (n + s.length)) else n
mutual
def loadE (most : Int) : Exp → Int
  | .mk _ v s t a ns => loadL most a (namesL most ns (IntKind.i64.wrap (IntKind.i64.wrap (1 + s.length + t.length + weightV most v) + ns.length)))
def loadL (most : Int) : List Exp → Int → Int
  | [], n => n
  | e :: r, n => if n ≤ most then loadL most r (IntKind.i64.wrap (n + loadE most e)) else n
end
def loadN (most : Int) (e : Exp) : Int := IntKind.i64.wrap (IntKind.i64.wrap (1 + e.s.length + e.t.length + weightV most e.v) + e.n.length)
theorem loadE_eq (most : Int) (e : Exp) : loadE most e = loadL most e.a (namesL most e.n (loadN most e)) := by
  cases e with
  | mk k v s t a n => simp only [loadE, loadN, Exp.a, Exp.n, Exp.s, Exp.t, Exp.v]
theorem loadL_stop (most : Int) (l : List Exp) (n : Int) (h : most < n) : loadL most l n = n := by
  cases l with
  | nil => simp only [loadL]
  | cons v r => simp only [loadL]; rw [if_neg (by omega)]
theorem namesL_stop (most : Int) (l : List Str) (n : Int) (h : most < n) : namesL most l n = n := by
  cases l with
  | nil => simp only [namesL]
  | cons v r => simp only [namesL]; rw [if_neg (by omega)]
theorem namesL_drop {most : Int} {l : List Str} {i n : Int} (h0 : 0 ≤ i) (hi : i < l.length) (hn : n ≤ most) : namesL most (l.drop i.toNat) n = namesL most (l.drop (i + 1).toNat) (IntKind.i64.wrap (n + (gI l i).length)) := by
  rw [drop_gI h0 hi, namesL, if_pos hn]
theorem loadL_drop {most : Int} {l : List Exp} {i n : Int} (h0 : 0 ≤ i) (hi : i < l.length) (hn : n ≤ most) : loadL most (l.drop i.toNat) n = loadL most (l.drop (i + 1).toNat) (IntKind.i64.wrap (n + loadE most (gI l i))) := by
  rw [drop_gI h0 hi, loadL, if_pos hn]
theorem take_gI {α : Type} [Inhabited α] {xs ys : List α} {i : Int} (h0 : 0 ≤ i) (hi : i < xs.length) (hi' : i < ys.length) (h : xs.take i.toNat = ys.take i.toNat) (he : gI xs i = gI ys i) : xs.take (i + 1).toNat = ys.take (i + 1).toNat := by
  obtain ⟨n, rfl⟩ := Int.eq_ofNat_of_zero_le h0
  have e : ((n : Int) + 1).toNat = n + 1 := by omega
  have hn : n < xs.length := by omega
  have hn' : n < ys.length := by omega
  rw [e, List.take_succ_eq_append_getElem hn, List.take_succ_eq_append_getElem hn']
  simp [gI, List.getD_eq_getElem?_getD, hn, hn'] at he h
  rw [h, he]
theorem take_all {α : Type} {xs ys : List α} {i : Int} (hl : (xs.length : Int) = ys.length) (hi : i = xs.length) (h : xs.take i.toNat = ys.take i.toNat) : xs = ys := by
  subst hi
  have e : (xs.length : Int).toNat = ys.length := by omega
  rw [Int.toNat_natCast, List.take_length] at h
  rw [h]
  exact List.take_of_length_le (by omega)
set_option maxHeartbeats 4000000 in
theorem u_load1 (e : Exp) (most : Int) (ih : ∀ x : Exp, depE x < depE e → ∀ (m : AMem) (K : AV → AMem → Prop), K (.int .i64 (loadE most x)) m → ACalls Try.prog 9 [expTop x, .int .i64 most] m K) (m : AMem)  (K : AV → AMem → Prop) (hK : K (.int .i64 (loadE most e)) m) : ACalls Try.prog 9 [expTop e, .int .i64 most] m K := by
 refine enter (c := cf [20, 24, 44, 65] [0] [3, 7] [] [] []) (vs := [.av (expTop e), .av (.int .i64 most)]) (L := []) (m := m) false tbOk Try.mixed Try.func9 rfl (k := 2) (by show fnOk [] _ _ _ = true; decide +kernel) rfl (Good.nil m) ?_
 refine ⟨fun F0 => ?_⟩
 have hbd0_3 : e.v.s.length ≤ 140737488355328 := (F0 0 3 (Nat.le_of_ble_eq_true rfl))
 have hbd0_4 : e.v.l.length ≤ 140737488355328 := bd_map (F0 0 4 (Nat.le_of_ble_eq_true rfl))
 have hbd0_5 : e.v.f.length ≤ 140737488355328 := bd_map (F0 0 5 (Nat.le_of_ble_eq_true rfl))
 have hbd0_6 : e.s.length ≤ 140737488355328 := (F0 0 6 (Nat.le_of_ble_eq_true rfl))
 have hbd0_7 : e.t.length ≤ 140737488355328 := (F0 0 7 (Nat.le_of_ble_eq_true rfl))
 have hbd0_8 : e.a.length ≤ 140737488355328 := bd_map (F0 0 8 (Nat.le_of_ble_eq_true rfl))
 have hbd0_9 : e.n.length ≤ 140737488355328 := bd_map (F0 0 9 (Nat.le_of_ble_eq_true rfl))
 refine an (by omega) ?_
 refine an (by omega) ?_
 refine pure0 (fun _ => u_weight most (depV e.v + 1) e.v (Nat.lt_succ_self _)) ?_
 refine ln ?_
 refine sq ?_
 refine lp (σ := Int × Int) [] [1, 2, 5, 6] 1 (fun ⟨n_, i⟩ => ([(1, vI most), (2, .loc 0 0), (5, vI n_), (6, vI i)], [.cells [vI e.kind, vI e.v.kind, vI e.v.n, vS e.v.s, vL (e.v.l.map valIn), vL (e.v.f.map fldIn), vS e.s, vS e.t, vL (e.a.map expIn), vL (e.n.map strAV)]], m)) (fun ⟨n_, i⟩ => 0 ≤ i ∧ i ≤ e.n.length ∧ namesL most e.n (loadN most e) = namesL most (e.n.drop i.toNat) n_) (fun ⟨n_, i⟩ => e.n.length - i.toNat) (IntKind.i64.wrap ((IntKind.i64.wrap (((1 + (e.s.length : Int)) + (e.t.length : Int)) + (weightV most e.v))) + (e.n.length : Int)), 0) ⟨rfl, rfl⟩ ?_ ?_
 · try dsimp only
   exact ⟨by omega, by omega, rfl⟩
 rintro ⟨n_, i⟩ hI
 dsimp only at hI
 refine sq ?_
 refine mg [1, 2, 5, 6] 34 ((decide (i < (e.n.length : Int))) && (decide (n_ ≤ most))) ?_ ?_
 · repeat' first
    | exact ⟨⟨_, rfl, by grind [SB.val]⟩, rfl⟩
    | refine an (fun _ => ?_) (fun _ => ?_)
    | refine ln ?_
 refine an (fun h1 => ?_) (fun h1 => ?_)
 · replace h1 : (i < (e.n.length : Int)) ∧ (n_ ≤ most) := ⟨(of_decide_eq_true (bandL h1)), (of_decide_eq_true (bandR h1))⟩
   refine sq ?_
   refine ix (by omega) ?_
   refine an (by omega) ?_
   refine ⟨(IntKind.i64.wrap (n_ + ((gI e.n i).length : Int)), i + 1), ⟨rfl, rfl⟩, ?_, ?_⟩
   · try dsimp only
     exact ⟨by omega, by omega, by rw [hI.2.2, namesL_drop hI.1 h1.1 h1.2]⟩
   try dsimp only
   omega
 replace h1 : ((e.n.length : Int) ≤ i) ∨ (most < n_) := ((bandF h1).imp (fun q => (Int.not_lt.1 (of_decide_eq_false q))) (fun q => (Int.not_le.1 (of_decide_eq_false q))))
 refine sq ?_
 refine lp (σ := Int × Int) [] [1, 2, 5, 7] 1 (fun ⟨n2, k⟩ => ([(1, vI most), (2, .loc 0 0), (5, vI n2), (7, vI k)], [.cells [vI e.kind, vI e.v.kind, vI e.v.n, vS e.v.s, vL (e.v.l.map valIn), vL (e.v.f.map fldIn), vS e.s, vS e.t, vL (e.a.map expIn), vL (e.n.map strAV)]], m)) (fun ⟨n2, k⟩ => 0 ≤ k ∧ k ≤ e.a.length ∧ loadE most e = loadL most (e.a.drop k.toNat) n2) (fun ⟨n2, k⟩ => e.a.length - k.toNat) (n_, 0) ⟨rfl, rfl⟩ ?_ ?_
 · try dsimp only
   refine ⟨by omega, by omega, ?_⟩
   have q : namesL most (e.n.drop i.toNat) n_ = n_ := by
     by_cases hn : most < n_
     · exact namesL_stop _ _ _ hn
     · have hi : (e.n.length : Int) ≤ i := by
         rcases h1 with h | h <;> omega
       rw [List.drop_eq_nil_of_le (by omega)]; simp only [namesL]
   rw [loadE_eq, hI.2.2, q]; rfl
 rintro ⟨n2, k⟩ hI2
 dsimp only at hI2
 refine sq ?_
 refine mg [1, 2, 5, 7] 54 ((decide (k < (e.a.length : Int))) && (decide (n2 ≤ most))) ?_ ?_
 · repeat' first
    | exact ⟨⟨_, rfl, by grind [SB.val]⟩, rfl⟩
    | refine an (fun _ => ?_) (fun _ => ?_)
    | refine ln ?_
 refine an (fun h2 => ?_) (fun h2 => ?_)
 · replace h2 : (k < (e.a.length : Int)) ∧ (n2 ≤ most) := ⟨(of_decide_eq_true (bandL h2)), (of_decide_eq_true (bandR h2))⟩
   refine sq ?_
   refine ixg expTop expIn_eq (by omega) ?_
   refine call0 (fun _ => ih (gI e.a k) (depE_mem (gI_mem hI2.1 h2.1))) rfl ?_
   refine an (by omega) ?_
   refine ⟨(IntKind.i64.wrap (n2 + (loadE most (gI e.a k))), k + 1), ⟨rfl, rfl⟩, ?_, ?_⟩
   · try dsimp only
     exact ⟨by omega, by omega, by rw [hI2.2.2, loadL_drop hI2.1 h2.1 h2.2]⟩
   try dsimp only
   omega
 replace h2 : ((e.a.length : Int) ≤ k) ∨ (most < n2) := ((bandF h2).imp (fun q => (Int.not_lt.1 (of_decide_eq_false q))) (fun q => (Int.not_le.1 (of_decide_eq_false q))))
 refine rt0 rfl fun _ => ?_
 show K (.int .i64 n2) m
 have q : loadE most e = n2 := by
   rw [hI2.2.2]
   by_cases hn : most < n2
   · exact loadL_stop _ _ _ hn
   · have hi : (e.a.length : Int) ≤ k := by
       rcases h2 with h | h <;> omega
     rw [List.drop_eq_nil_of_le (by omega)]; simp only [loadL]
 rw [q] at hK; exact hK
theorem u_load (most : Int) : ∀ (n : Nat) (e : Exp), depE e < n → ∀ (m : AMem) (K : AV → AMem → Prop), K (.int .i64 (loadE most e)) m → ACalls Try.prog 9 [expTop e, .int .i64 most] m K
  | 0, _, h => absurd h (Nat.not_lt_zero _)
  | n + 1, e, h => fun m K hK => u_load1 e most (fun x hx => u_load most n x (by omega)) m K hK
end Go.Proofs
end
section
namespace Go.Proofs
open Go Go.Aw Go.Sx
set_option maxRecDepth 100000
mutual
def xcE : Exp → Int
  | .mk _ _ _ _ a _ => xcL a + 1
def xcL : List Exp → Int
  | [] => 0
  | e :: r => xcE e + xcL r
end
mutual
def xdE : Exp → Int
  | .mk _ _ _ _ a _ => xdL a + 1
def xdL : List Exp → Int
  | [] => 0
  | e :: r => max (xdE e) (xdL r)
end
theorem xcE_eq (e : Exp) : xcE e = xcL e.a + 1 := by cases e with | mk k v s t a n => simp only [xcE, Exp.a]
theorem xdE_eq (e : Exp) : xdE e = xdL e.a + 1 := by cases e with | mk k v s t a n => simp only [xdE, Exp.a]
theorem xcL_drop {l : List Exp} {i : Int} (h0 : 0 ≤ i) (hi : i < l.length) : xcL (l.drop i.toNat) = xcE (gI l i) + xcL (l.drop (i + 1).toNat) := by rw [drop_gI h0 hi, xcL]
theorem xdL_drop {l : List Exp} {i : Int} (h0 : 0 ≤ i) (hi : i < l.length) : xdL (l.drop i.toNat) = max (xdE (gI l i)) (xdL (l.drop (i + 1).toNat)) := by rw [drop_gI h0 hi, xdL]
mutual
theorem xc_dep : ∀ e : Exp, 1 ≤ xcE e ∧ xcE e ≤ depE e ∧ 1 ≤ xdE e ∧ xdE e ≤ xcE e
  | .mk k v s t a n => by
    have h := xc_depL a
    simp only [xcE, xdE, depE]
    omega
theorem xc_depL : ∀ l : List Exp, 0 ≤ xcL l ∧ xcL l ≤ depEL l ∧ 0 ≤ xdL l ∧ xdL l ≤ xcL l
  | [] => by simp [xcL, xdL, depEL]
  | e :: r => by
    have h1 := xc_dep e
    have h2 := xc_depL r
    simp only [xcL, xdL, depEL]
    omega
end
end Go.Proofs
end
section
namespace Go.Proofs
open Go Go.Aw Go.Sx
set_option maxRecDepth 100000
set_option maxHeartbeats 1000000 in
theorem u_size1 (k : Nat) (e : Exp) (d lf : Int) (p : Nat) (ih : ∀ x : Exp, depE x < k → ∀ d lf : Int, 0 ≤ d → d ≤ 100 → 0 ≤ lf → lf ≤ 60 → ∀ (p : Nat) (m : AMem), Gd [p] m → ∀ (K : AV → AMem → Prop), (∀ f', f' = lf - xcE x ∧ xdE x + d ≤ 7 ∧ xcE x ≤ lf → K (.bool true) (AMem.wth m [(p, .cells [.int .i64 f'])])) → (∀ f', ¬(xdE x + d ≤ 7 ∧ xcE x ≤ lf) ∧ -1 ≤ f' ∧ f' ≤ lf → K (.bool false) (AMem.wth m [(p, .cells [.int .i64 f'])])) → ACalls Try.prog 39 [expTop x, .int .i64 d, .ptr ⟨p, 0, none⟩] (AMem.wth m [(p, .cells [.int .i64 lf])]) K) (hd : depE e < k + 1) (q0 : 0 ≤ d) (q1 : d ≤ 100) (q2 : 0 ≤ lf) (q3 : lf ≤ 60) (m : AMem) (gd : Gd [p] m) (K : AV → AMem → Prop) (k1 : ∀ f', f' = lf - xcE e ∧ xdE e + d ≤ 7 ∧ xcE e ≤ lf → K (.bool true) (AMem.wth m [(p, .cells [.int .i64 f'])])) (k2 : ∀ f', ¬(xdE e + d ≤ 7 ∧ xcE e ≤ lf) ∧ -1 ≤ f' ∧ f' ≤ lf → K (.bool false) (AMem.wth m [(p, .cells [.int .i64 f'])])) : ACalls Try.prog 39 [expTop e, .int .i64 d, .ptr ⟨p, 0, none⟩] (AMem.wth m [(p, .cells [.int .i64 lf])]) K := by
 have w0 := xc_dep e
 have w1 := xcE_eq e
 have w2 := xdE_eq e
 have w3 := xc_depL e.a
 refine enter (c := cf [] [0] [2] [] [] [p]) (vs := [.av (expTop e), .av (.int .i64 d), .loc 0 0]) (L := [.cells [vI lf]]) (m := m) false tbOk Try.mixed Try.func39 rfl (k := 3) (by show fnOk [] _ _ _ = true; decide +kernel) rfl (gd.good rfl) ?_
 refine ⟨fun F0 => ?_⟩
 have hbd0_3 : e.v.s.length ≤ 140737488355328 := (F0 0 3 (Nat.le_of_ble_eq_true rfl))
 have hbd0_4 : e.v.l.length ≤ 140737488355328 := bd_map (F0 0 4 (Nat.le_of_ble_eq_true rfl))
 have hbd0_5 : e.v.f.length ≤ 140737488355328 := bd_map (F0 0 5 (Nat.le_of_ble_eq_true rfl))
 have hbd0_6 : e.s.length ≤ 140737488355328 := (F0 0 6 (Nat.le_of_ble_eq_true rfl))
 have hbd0_7 : e.t.length ≤ 140737488355328 := (F0 0 7 (Nat.le_of_ble_eq_true rfl))
 have hbd0_8 : e.a.length ≤ 140737488355328 := bd_map (F0 0 8 (Nat.le_of_ble_eq_true rfl))
 have hbd0_9 : e.n.length ≤ 140737488355328 := bd_map (F0 0 9 (Nat.le_of_ble_eq_true rfl))
 refine an (by omega) ?_
 refine sq ?_
 refine mg [1, 2, 3] 21 ((decide (6 < d)) || (decide (lf - 1 < 0))) ?_ ?_
 · repeat' first
    | exact ⟨⟨_, rfl, by grind [SB.val]⟩, rfl⟩
    | refine an (fun _ => ?_) (fun _ => ?_)
 refine an (fun h1 => ?_) (fun h1 => ?_)
 · replace h1 : (6 < d) ∨ (lf - 1 < 0) := ((borT h1).imp (fun q => (of_decide_eq_true q)) (fun q => (of_decide_eq_true q)))
   refine rt rfl fun _ => ?_
   show K (.bool false) (AMem.wth m [(p, .cells [.int .i64 (lf - 1)])])
   exact k2 _ ⟨by omega, by omega, by omega⟩
 replace h1 : (d ≤ 6) ∧ (0 ≤ lf - 1) := ⟨(Int.not_lt.1 (of_decide_eq_false (borL h1))), (Int.not_lt.1 (of_decide_eq_false (borR h1)))⟩
 refine sq ?_
 refine ln ?_
 refine lp (σ := Int × Int) [] [1, 2, 23, 24, 25] 2 (fun ⟨i, f2⟩ => ([(1, vI d), (2, .loc 0 0), (23, vL (e.a.map expIn)), (24, vI (e.a.length : Int)), (25, vI i)], [.cells [vI f2], .cells [vI e.kind, vI e.v.kind, vI e.v.n, vS e.v.s, vL (e.v.l.map valIn), vL (e.v.f.map fldIn), vS e.s, vS e.t, vL (e.a.map expIn), vL (e.n.map strAV)]], m)) (fun ⟨i, f2⟩ => 0 ≤ i ∧ i ≤ e.a.length ∧ 0 ≤ f2 ∧ f2 ≤ lf ∧ xcE e = lf - f2 + xcL (e.a.drop i.toNat) ∧ xdE e ≤ max (7 - d) (xdL (e.a.drop i.toNat) + 1) ∧ xdL (e.a.drop i.toNat) ≤ xdL e.a) (fun ⟨i, f2⟩ => e.a.length - i.toNat) (0, lf - 1) ⟨rfl, rfl⟩ ?_ ?_
 · try dsimp only
   exact ⟨by omega, by omega, by omega, by omega, by show _ = _ + xcL e.a; omega, by show _ ≤ max _ (xdL e.a + 1); omega, Int.le_refl _⟩
 rintro ⟨i, f2⟩ hI
 dsimp only at hI
 refine sq ?_
 refine an (fun h2 => ?_) (fun h2 => ?_)
 · have s1 := xcL_drop hI.1 h2
   have s2 := xdL_drop hI.1 h2
   have s3 := xc_dep (gI e.a i)
   have s4 := xc_depL (e.a.drop (i + 1).toNat)
   refine sq ?_
   refine ixg expTop expIn_eq (by omega) ?_
   refine an (by omega) ?_
   refine callY 61 [0] (σ := (Int) ⊕ (Int)) (Sum.elim (fun f_1 => f_1 = f2 - xcE (gI e.a i) ∧ xdE (gI e.a i) + (d + 1) ≤ 7 ∧ xcE (gI e.a i) ≤ f2) (fun f_1 => ¬(xdE (gI e.a i) + (d + 1) ≤ 7 ∧ xcE (gI e.a i) ≤ f2) ∧ -1 ≤ f_1 ∧ f_1 ≤ f2)) (Sum.elim (fun f_1 => .b (.lit true)) (fun f_1 => .b (.lit false))) (Sum.elim (fun f_1 => [.cells [vI f_1]]) (fun f_1 => [.cells [vI f_1]])) rfl (fun x => by rcases x with _ | _ <;> rfl) (fun bs mm gd ht K hK => ih (gI e.a i) (by have := depE_mem (gI_mem (l := e.a) (i := i) hI.1 (by assumption)); omega) (d + 1) f2 (by omega) (by omega) (by omega) (by omega) (bs.getD 0 0) mm gd K (fun f hh => hK (.inl f) hh) (fun f hh => hK (.inr f) hh)) ?_
   rintro (f_1 | f_1) hx1
   · try dsimp only [Sum.elim_inl, Sum.elim_inr] at hx1
     dsimp only [Sum.elim_inl, Sum.elim_inr]
     refine an (by omega) ?_
     refine ⟨(i + 1, f_1), ⟨rfl, rfl⟩, ?_, ?_⟩
     · try dsimp only
       (first | omega | (simp_all; done) | (simp_all; omega))
     try dsimp only
     omega
   try dsimp only [Sum.elim_inl, Sum.elim_inr] at hx1
   dsimp only [Sum.elim_inl, Sum.elim_inr]
   refine rt rfl fun _ => ?_
   show K (.bool false) (AMem.wth m [(p, .cells [.int .i64 f_1])])
   exact k2 _ ⟨by omega, by omega, by omega⟩
 rw [List.drop_eq_nil_of_le (by omega)] at hI
 simp only [xcL, xdL] at hI
 refine rt rfl fun _ => ?_
 show K (.bool true) (AMem.wth m [(p, .cells [.int .i64 f2])])
 exact k1 _ ⟨by omega, by omega, by omega⟩
end Go.Proofs
end
section
namespace Go.Proofs
open Go Go.Aw Go.Sx
set_option maxRecDepth 100000
theorem u_size : ∀ (k : Nat) (e : Exp), depE e < k → ∀ d lf : Int, 0 ≤ d → d ≤ 100 → 0 ≤ lf → lf ≤ 60 → ∀ (p : Nat) (m : AMem), Gd [p] m → ∀ (K : AV → AMem → Prop), (∀ f', f' = lf - xcE e ∧ xdE e + d ≤ 7 ∧ xcE e ≤ lf → K (.bool true) (AMem.wth m [(p, .cells [.int .i64 f'])])) → (∀ f', ¬(xdE e + d ≤ 7 ∧ xcE e ≤ lf) ∧ -1 ≤ f' ∧ f' ≤ lf → K (.bool false) (AMem.wth m [(p, .cells [.int .i64 f'])])) → ACalls Try.prog 39 [expTop e, .int .i64 d, .ptr ⟨p, 0, none⟩] (AMem.wth m [(p, .cells [.int .i64 lf])]) K
  | 0, _, h => absurd h (Nat.not_lt_zero _)
  | k + 1, e, h => fun d lf h0 h1 h2 h3 p m gd K k1 k2 => u_size1 k e d lf p (fun x hx => u_size k x hx) h h0 h1 h2 h3 m gd K k1 k2
def NamesOk (l : List Str) : Prop := ∀ i : Int, 0 ≤ i → i < l.length → nameV (gI l i) = true ∧ (0 < i → Op.bytesLess (gI l (i - 1)) (gI l i) = true)
structure Sw (e : Exp) (many names : Int) (s t : Bool) : Prop where
  h : (e.kind = 1 ∧ many = 0 ∧ names = 0 ∧ s = (e.s == []) ∧ t = (e.t == [])) ∨ (e.kind = 2 ∧ many = 0 ∧ names = 0 ∧ s = nameV e.s ∧ t = (e.t == [])) ∨ ((e.kind = 3 ∨ e.kind = 4) ∧ many = 0 ∧ names = 0 ∧ s = nameV e.s ∧ t = nameV e.t) ∨
    ((e.kind = 5 ∨ e.kind = 6) ∧ many = 2 ∧ names = 0 ∧ s = (e.s == []) ∧ t = (e.t == [])) ∨ (e.kind = 7 ∧ many = 3 ∧ names = 0 ∧ s = (e.s == []) ∧ t = (e.t == [])) ∨ (e.kind = 8 ∧ many = e.a.length ∧ names = 0 ∧ s = (e.s == []) ∧ t = (e.t == [])) ∨
    (e.kind = 9 ∧ NamesOk e.n ∧ many = e.a.length ∧ names = e.a.length ∧ s = (e.s == []) ∧ t = (e.t == [])) ∨ (e.kind = 10 ∧ many = 1 ∧ names = 0 ∧ s = nameV e.s ∧ t = (e.t == []))
def NodeOk (e : Exp) : Prop :=
  (e.kind = 1 ∧ e.s = [] ∧ e.t = [] ∧ (e.v.kind ≤ 3 ∧ chk e.v = 0) ∧ e.a = [] ∧ e.n = []) ∨
  (e.v = zV ∧ ((e.kind = 2 ∧ nameV e.s = true ∧ e.t = [] ∧ e.a = [] ∧ e.n = []) ∨ ((e.kind = 3 ∨ e.kind = 4) ∧ nameV e.s = true ∧ nameV e.t = true ∧ e.a = [] ∧ e.n = []) ∨ ((e.kind = 5 ∨ e.kind = 6) ∧ e.s = [] ∧ e.t = [] ∧ e.a.length = 2 ∧ e.n = []) ∨
    (e.kind = 7 ∧ e.s = [] ∧ e.t = [] ∧ e.a.length = 3 ∧ e.n = []) ∨ (e.kind = 8 ∧ e.s = [] ∧ e.t = [] ∧ e.n = []) ∨ (e.kind = 9 ∧ e.s = [] ∧ e.t = [] ∧ e.a.length = e.n.length ∧ NamesOk e.n) ∨ (e.kind = 10 ∧ nameV e.s = true ∧ e.t = [] ∧ e.a.length = 1 ∧ e.n = [])))
theorem NodeOk.sw {e : Exp} {many names : Int} {s t : Bool} (w : Sw e many names s t) : NodeOk e ↔ s = true ∧ t = true ∧ ((e.kind = 1 ∧ e.v.kind ≤ 3 ∧ chk e.v = 0) ∨ (e.kind ≠ 1 ∧ e.v = zV)) ∧ (e.a.length : Int) = many ∧ (e.n.length : Int) = names := by
  have l1 : (e.a.length : Int) = 0 ↔ e.a = [] := by rw [← List.length_eq_zero_iff]; omega
  have l2 : (e.n.length : Int) = 0 ↔ e.n = [] := by rw [← List.length_eq_zero_iff]; omega
  unfold NodeOk
  rcases w.h with ⟨hk, rfl, rfl, rfl, rfl⟩ | ⟨hk, rfl, rfl, rfl, rfl⟩ | ⟨hk | hk, rfl, rfl, rfl, rfl⟩ | ⟨hk | hk, rfl, rfl, rfl, rfl⟩ | ⟨hk, rfl, rfl, rfl, rfl⟩ | ⟨hk, rfl, rfl, rfl, rfl⟩ | ⟨hk, hn, rfl, rfl, rfl, rfl⟩ | ⟨hk, rfl, rfl, rfl, rfl⟩ <;> simp only [hk, l1, l2] <;> simp <;> grind
theorem NodeOk.no {e : Exp} (h : ¬(1 ≤ e.kind ∧ e.kind ≤ 10)) : ¬ NodeOk e := by
  unfold NodeOk; omega
theorem NodeOk.n9 {e : Exp} (h : e.kind = 9) (hn : ¬ NamesOk e.n) : ¬ NodeOk e := by
  unfold NodeOk; simp only [h]; simp [hn]
mutual
def fmE : Exp → Prop
  | .mk k v s t a n => NodeOk (.mk k v s t a n) ∧ fmL a
def fmL : List Exp → Prop
  | [] => True
  | e :: r => fmE e ∧ fmL r
end
theorem fmE_eq (e : Exp) : fmE e ↔ NodeOk e ∧ fmL e.a := by cases e with | mk k v s t a n => simp only [fmE, Exp.a]
theorem fmL_drop {l : List Exp} {i : Int} (h0 : 0 ≤ i) (hi : i < l.length) : fmL (l.drop i.toNat) ↔ fmE (gI l i) ∧ fmL (l.drop (i + 1).toNat) := by rw [drop_gI h0 hi, fmL]
open Classical in
noncomputable def fmI (e : Exp) : Int := if fmE e then 0 else 3
open Classical in
noncomputable def exF (e : Exp) : Int := if 60 < xcE e ∨ 6 < xdE e then 2 else fmI e
theorem u_plain (v : Val)  (m : AMem)  (K : AV → AMem → Prop) (hK : K (.bool (decide (v.kind ≤ 3) && (chk v == 0))) m) : ACalls Try.prog 23 [valTop v] m K := by
 refine enter (c := cf [] [] [1] [] [] []) (vs := [.av (valTop v)]) (L := []) (m := m) false tbOk Try.mixed Try.func23 rfl (k := 1) (by show fnOk [] _ _ _ = true; decide +kernel) rfl (Good.nil m) ?_
 refine mg [] 2 ((decide (v.kind ≤ 3)) && ((chk v) == 0)) ?_ ?_
 · repeat' first
    | exact ⟨⟨_, rfl, by grind [SB.val]⟩, rfl⟩
    | refine an (fun _ => ?_) (fun _ => ?_)
    | refine call0 (fun _ => u_Check v) rfl ?_
 exact rt0 rfl fun _ => hK
end Go.Proofs
end
