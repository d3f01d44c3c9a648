/-
  The executor: a new builder; calls that know the base of memory; tables; a law over a table.
-/
import Derived.Test.YtnahenbiipdlkaaGreatDoorWyN
import Derived.Lib.ItoaNum
import Derived.Sort.Grow
import Derived.Test.YtnahenbiipdlkaaGreatDoorWwS
import Derived.Test.YtnahenbiipdlkaaGreatDoorWxz
import Derived.Lib.AtoiErrMem
import Derived.Lib.Atoi
import Derived.Below
import Derived.Test.YtnahenbiipdlkaaGreatDoorProg
import Derived.Lib.Strings
import Derived.Lib.Slices
import Derived.Lib.Walk
import Derived.Lib.Builder
import Derived.Lib.AppendStr
import Derived.Lib.UnsafeStr
import Derived.WalkKit
import Derived.Laws.Externs
import Derived.Laws.IdiomCopy
import Derived.ProofKit
import Derived.OwnWalk
import Derived.Shelf.Small.Bits
import Derived.Shelf.Small.Strs
import Derived.Shelf.Strconv.Atoi
import Derived.Shelf.Strconv.Itoa3
import Derived.Shelf.LaysM
import Derived.Shelf.LaysC
import Derived.Shelf.Strconv.AtoiErr
import Derived.Shelf.Strings.Prefix
section
namespace Go.Sx
open Go Go.Aw
section
variable {c : Cfg} {L : List SObj} {fr : SFr} {m : AMem}
theorem nb {P : Program} {b0 : List Nat} {d : Nat} {t eb : TypeId} {i : TypeInfo} {k : SK} (hi : P.info? t = some i) (hz : i.zero = some (.agg #[.pointer none, .slice none 0 0])) (hs : (scF L.length fr && scM L.length L) = true)
    (h : k ((d, .loc L.length 0) :: fr) (L ++ [.obj (.bld t eb [])]) m) : SOp P b0 (some d) (.alloc t) fr L m k :=
  ⟨fun new g n ops ty pos af l K hk hn hK => alloc_bld (eb := eb) hi hz hk fun b hb => by
    simp only [Bool.and_eq_true] at hs
    have hn : newK fr L (.obj (.bld t eb [])) (fun b L' => k ((d, .loc b 0) :: fr) L' m) := chk_iff.2 ⟨hs.1, chk_iff.2 ⟨hs.2, h⟩⟩
    obtain ⟨h, g', e1, e2, e3, _⟩ := newK_sound g hn hb
    have := hK _ _ _ (b0 ++ new ++ [b]) (by rw [List.append_assoc]; exact List.prefix_append _ _) g' h
    rw [e1] at this
    simp only [denF, denO, den, e3] at this
    rw [e2] at this
    exact this⟩
theorem callT {b0 : List Nat} {P : Program} {f : FuncId} {vs : List SV} {Q : SV → List SObj → AMem → Prop} (is : List Nat) (os : List SObj) (y : SV) (hi : (isOk L.length is && Nat.beq is.length os.length) = true)
    (h : ∀ bs (mm : AMem), Gd (blks bs is) mm → (∀ b o, m b = some o → mm b = some o) → ∀ (K : AV → AMem → Prop), K (den bs y) (mm.wth (pk bs is os)) → ACalls P f (denL bs vs) (mm.wth (pk bs is (getL L is))) K) (hQ : Q y (setL L is os) m) : SCall P b0 f vs fr L m Q := by
  simp only [Bool.and_eq_true] at hi
  refine .one y (setL L is os) m (fun new g K hK => ?_) (by rw [setL_len, Nat.beq_refl]; rfl) hQ
  have hN := blks_nodup g.nd (by rw [g.len]; exact hi.1)
  have e1 := mem_pk g hi.1 (getL_len L is).symm
  rw [setL_get_self hi.1] at e1
  rw [e1]
  refine h (b0 ++ new) _ ⟨hN, fun b hb => by simp [restM, hb]⟩ (fun b o hb => ?_) K ?_
  · have h1 : b ∉ b0 ++ new := fun hm => by rw [g.fresh b hm] at hb; cases hb
    have h2 : b ∉ blks (b0 ++ new) is := fun hm => by
      obtain ⟨i, hi2, e⟩ := blks_mem hm
      have hlt := (isOk_lt hi.1).1 i hi2
      rw [← g.len] at hlt
      apply h1
      rw [e, List.getD_eq_getElem?_getD, List.getElem?_eq_getElem hlt]
      exact List.getElem_mem _
    simp only [restM, if_neg h2, memD]
    rw [wth_other (by rw [denM_fst g.len]; exact h1)]
    exact hb
  · have := hK [] (by rw [List.append_nil]; exact ⟨g.nd, by rw [setL_len]; exact g.len, g.fresh⟩)
    rw [List.append_nil, mem_pk g hi.1 (Nat.eq_of_beq_eq_true hi.2)] at this
    exact this
end
end Go.Sx
namespace Go.Aw
open Go
section
variable {P : Program} {F : Nat → Prop} {lim : Nat → Nat} {w : World} {n : Nat} {fr : Fr} {m : AMem} {ca : Act} {fl : List Nat}
theorem St.grow (st : St F lim w n fr m ca fl) (os : Array Obj) (k : Nat) : St F lim (Sort.grow (w.drewN k) os) n fr m ca fl := by
  have hh : (w.drewN k).heap = w.heap := by simp
  have hl : ∀ c, c < w.heap.size → (Sort.grow (w.drewN k) os).heap[c]? = w.heap[c]? := fun c hc => by
    simp only [Sort.grow, hh]
    rw [Array.getElem?_append_left hc]
  have hf : ∀ c, w.heap.size ≤ c → lim c = 0 := fun c hc => by
    obtain ⟨_, _, _, s⟩ := st
    exact (s.fresh c hc).1
  have hm : ∀ b, m b ≠ none → b < w.heap.size := fun b hb => st.lt_of_mem hb
  have hcell : ∀ b o, o < lim b → b < w.heap.size := fun b o ho => st.lt_of_lim ho
  refine st.world (by simp [Sort.grow]) (fun _ => Nat.le_refl _) (fun b o ho => by simp [World.cell?, hl b (hcell b o ho)]) (fun c hc => .inr ⟨hl c hc, rfl⟩) (fun b hb => ⟨hl b (hm b hb), rfl⟩) (fun c hc => hf c (by simp [Sort.grow] at hc; omega))
theorem pres_grow (st : St F lim w n fr m ca fl) (os : Array Obj) (k : Nat) : Pres F w lim (Sort.grow (w.drewN k) os) lim := by
  have hh : (w.drewN k).heap = w.heap := by simp
  have hl : ∀ c, c < w.heap.size → (Sort.grow (w.drewN k) os).heap[c]? = w.heap[c]? := fun c hc => by
    simp only [Sort.grow, hh]
    rw [Array.getElem?_append_left hc]
  refine ⟨rfl, rfl, rfl, by simp [Sort.grow], fun b hb => ⟨hl b (st.lt_of_F hb), rfl⟩, fun _ => Nat.le_refl _, fun b o ho => by simp [World.cell?, hl b (st.lt_of_lim ho)]⟩
def tabObj (e : TypeId) (z : Nat × Nat) (k : IntKind) (zs : List Int) : AObj := .tab e z (zs.map (Value.int k)).toArray
theorem tab_var {e : TypeId} {z : Nat × Nat} {k : IntKind} {zs : List Int} {b : Nat} {os : Nat → List Nat} {name : String} (h : MRep w lim b (tabObj e z k zs) os) (hg : P.globalNamed name = some b) : Lib.TabIs P w name k zs := by
  unfold tabObj at h
  cases h with
  | tab _ _ _ _ hb => simp only [Lib.TabIs, World.var?, hg, Option.bind_some, hb]
theorem itoa_calls {f : FuncId} {name : String} {bT : Nat} {e : TypeId} {z : Nat × Nat} (hf : ∃ fn, P.funcs[f]? = some fn ∧ fn.body.isSome = true ∧ (fn.name == "runtime.NumGoroutine") = false) (hg : P.globalNamed name = some bT)
    (hrun : ∀ (n : Int), -9223372036854775808 ≤ n → n ≤ 9223372036854775807 → ∀ w, Lib.TabIs P w name .u64 Lib.pow10Tab → Calls P f #[.int .i64 n] w fun e w' => e = .returned (.string ⟨(Lib.itoa n).toArray⟩) ∧ ∃ k os, w' = Sort.grow (w.drewN k) os)
    {n : Int} {K : AV → AMem → Prop} (hm : m bT = some (tabObj e z .u64 Lib.pow10Tab)) (hlen : (Lib.itoa n).length ≤ 140737488355328) (hK : K (.str (Lib.itoa n)) m) : ACalls P f [.int .i64 n] m K := by
  refine ⟨hf, fun F lim w cargs hs hr st => ?_⟩
  obtain ⟨x, rfl⟩ := one_arg hs
  have r0 : Rep w lim x (.int .i64 n) [] := hr 0 (by simp)
  obtain ⟨rfl, lo, hi⟩ : x = .int .i64 n ∧ -9223372036854775808 ≤ n ∧ n ≤ 9223372036854775807 := by
    cases r0 with
    | int _ _ lo hi => exact ⟨rfl, lo, hi⟩
  have htab : Lib.TabIs P w name .u64 Lib.pow10Tab := by
    obtain ⟨os, om, ow, s⟩ := st
    exact tab_var (s.mem bT _ hm).1 hg
  refine (hrun n lo hi w htab).mono fun e1 w3 ⟨he, k, os, hw3⟩ => ?_
  subst he; subst hw3
  exact ⟨_, _, lim, _, [], rfl, hK, .str ⟨(Lib.itoa n).toArray⟩ (by rw [show (⟨(Lib.itoa n).toArray⟩ : ByteArray).size = (Lib.itoa n).length from rfl]; exact hlen), st.grow os k, pres_grow st os k⟩
end
end Go.Aw
end
section
namespace Go.Aw
open Go
inductive OkT : AV → Prop
  | bool (b : Bool) : OkT (.bool b)
  | int (k : IntKind) (n : Int) (h : k ≠ .u64) : OkT (.int k n)
  | str (s : List UInt8) : OkT (.str s)
  | slice (l : List AV) (h1 : ∀ x ∈ l, x.cells ≠ []) (h : ∀ x ∈ l, ∀ y ∈ x.cells, OkT y) : OkT (.slice false l)
  | agg (l : List AV) (h : ∀ y ∈ l, OkT y) : OkT (.agg l)
theorem okT_u64 {w : World} {lim : Nat → Nat} {n : Int} {x : AV} {os : List Nat} (h : Rep w lim (.int .u64 n) x os) (hx : OkT x) : False := by
  cases hx with
  | bool b => cases h
  | int k m hk =>
    cases h with
    | int => exact hk rfl
  | str s => cases h
  | slice l hl1 hl => cases h
  | agg l hl => cases h
section
variable {P : Program}
end
end Go.Aw
end
section
namespace Go.Sx
open Go Go.Aw
def MLe (m' m : AMem) : Prop := ∀ b o', m' b = some o' → ∃ o, m b = some o ∧ (o' = o ∨ ∃ l l', o = .cells l ∧ o' = .cells l' ∧ l'.length = l.length ∧ ∀ i, LeV (l'.getD i .junk) (l.getD i .junk))
section
variable {P : Program} {F : Nat → Prop} {lim : Nat → Nat} {w : World} {n : Nat} {fr : Fr} {m m' : AMem} {ca : Act} {fl : List Nat}
theorem St.lessM (st : Aw.St F lim w n fr m ca fl) (hs : MLe m' m) : Aw.St F lim w n fr m' ca fl := by
  classical
  obtain ⟨os, om, ow, h⟩ := st
  let p : Nat → Nat → Prop := fun b i => m' b = m b ∨ ∃ l l', m b = some (.cells l) ∧ m' b = some (.cells l') ∧ l'.getD i .junk = l.getD i .junk
  have hn : ∀ b, m b = none → m' b = none := fun b hb => by
    cases hb' : m' b with
    | none => rfl
    | some o => obtain ⟨o2, h2, _⟩ := hs b o hb'; rw [hb] at h2; cases h2
  refine ⟨os, fun b i => if p b i then om b i else [], ow, h.size, h.defers, h.slots, fun b o' hb => ?_, h.ownS, fun b o' hb i => ?_, h.ownF, fun c hc => ⟨(h.free c hc).1, hn c (h.free c hc).2.1, (h.free c hc).2.2⟩, fun b hb => ⟨(h.fresh b hb).1, (h.fresh b hb).2.1, hn b (h.fresh b hb).2.2⟩⟩
  · obtain ⟨o, ho, hr⟩ := hs b o' hb
    obtain ⟨hM, h2, h3⟩ := h.mem b o ho
    refine ⟨?_, h2, h3⟩
    rcases hr with rfl | ⟨l, l', rfl, rfl, hlen, hle⟩
    · have : (fun i => if p b i then om b i else []) = om b := by
        funext i
        exact if_pos (.inl (hb.trans ho.symm))
      rw [this]; exact hM
    · cases hM with
      | cells cs e _ _ hbk hsz hrr =>
        refine .cells cs e l' _ hbk (hsz.trans hlen.symm) fun i hi => ?_
        have hi' : i < l.length := hlen ▸ hi
        by_cases hp : p b i
        · rw [if_pos hp]
          have e : l'.getD i .junk = l.getD i .junk := by
            rcases hp with hp | ⟨a, a', h4, h5, h6⟩
            · rw [hb, ho] at hp
              simp only [Option.some.injEq, AObj.cells.injEq] at hp
              rw [hp]
            · rw [ho] at h4; rw [hb] at h5
              simp only [Option.some.injEq, AObj.cells.injEq] at h4 h5
              rw [h4, h5]; exact h6
          rw [e]; exact hrr i hi'
        · rw [if_neg hp]
          rcases hle i with e | e
          · exact absurd (.inr ⟨l, l', ho, hb, e⟩) hp
          · exact e _ _ _ _ (hrr i hi')
  · obtain ⟨o, ho, _⟩ := hs b o' hb
    show (if p b i then om b i else []).Nodup ∧ ∀ c ∈ (if p b i then om b i else []), _
    split
    · exact h.ownM b o ho i
    · exact ⟨List.nodup_nil, fun c hc => by cases hc⟩
end
section
variable {P : Program} {n : Nat} {fr : Fr} {m m' : AMem} {ops : Array Oper} {l : List Oper} {K : Fr → AMem → Prop}
theorem AOps.lessM (hs : MLe m' m) (h : AOps P n ops l K fr m') : AOps P n ops l K fr m := fun F lim w ca Q st hq => h F lim w ca Q (St.lessM st hs) hq
theorem AWP.lessM {c : Code} {Q : Exit → Fr → AMem → Prop} (hs : MLe m' m) (h : AWP P n c Q fr m') : AWP P n c Q fr m := fun F lim w ca st => h F lim w ca (St.lessM st hs)
end
theorem LeV.junk (x : AV) : LeV .junk x := .inr fun _ _ _ _ _ => .junk _
theorem LeV.nils : LeV .nils (.slice true []) := .inr fun w lim v os h => by
  generalize hx : AV.slice true [] = x at h
  cases h with
  | nils o => exact .nilS _
  | own b n cap sz l cv cur e hn hcap hm hbig h0 hb hcur hsz hlim hc hr =>
    cases hx
    simp only [List.length_nil] at hn
    subst hn
    rcases h0 with h0 | h0
    · omega
    · subst h0; exact .nilS _
  | _ => cases hx
mutual
def mn (i : Nat) : SV → Bool
  | .loc j _ | .ms j _ _ | .mp j | .elt j _ _ _ | .sl j _ _ _ => Nat.beq i j
  | .agg l | .tup l => mnL i l
  | .fn _ a c => bif mnL i a then true else mnL i c
  | _ => false
def mnL (i : Nat) : List SV → Bool
  | [] => false
  | v :: r => bif mn i v then true else mnL i r
end
theorem getD_set_ne {bs : List Nat} {i j b : Nat} (h : Nat.beq i j = false) : (bs.set i b).getD j 0 = bs.getD j 0 := by
  have : i ≠ j := fun e => by subst e; rw [Nat.beq_refl] at h; cases h
  simp [List.getD_eq_getElem?_getD, List.getElem?_set_ne this]
def OLe (o' o : AObj) : Prop := o' = o ∨ ∃ l l', o = .cells l ∧ o' = .cells l' ∧ l'.length = l.length ∧ ∀ i, LeV (l'.getD i .junk) (l.getD i .junk)
section
variable {bs : List Nat} {L L' : List SObj} {m : AMem}
end
end Go.Sx
end
section
namespace Go.Sx
open Go Go.Aw
section
variable {P : Program} {T : Tab} {b0 : List Nat} {fr : SFr} {L : List SObj} {m : AMem} {K : SK}
structure ElOk (T : Tab) (t e w y : Nat) (zc : List AV) : Prop where
  t : tgK T t fun i => slK i fun e' => e' = e
  e : tgK T e fun j => j.n = w ∧ j.y = y ∧ (match j.z with | [] => False | _ => True) ∧ AV.plainL (denL [] (zCells j.z)) = zc
theorem ElOk.get (hT : tabOk P T = true) {t e w y : Nat} {zc : List AV} (h : ElOk T t e w y zc) : P.underlying t = some (.slice e) ∧ isU P e = true ∧ 0 < w ∧ zOk P e = true ∧ P.cellsOf e = w ∧ P.bytesOf e = y ∧ ∃ z, zeroA P e = some z ∧ z.cells.map AV.plain = zc ∧ z.topOk = true := by
  obtain ⟨i, ti, h1⟩ := tg hT h.t
  unfold slK at h1
  split at h1
  · rename_i e2 hs
    subst h1
    obtain ⟨u1, u2, u3, u4⟩ := ti.sl hs
    obtain ⟨j, tj, h2, h3, h4, h5⟩ := tg hT h.e
    have hz : j.z ≠ [] := fun e => by rw [e] at h4; exact h4
    obtain ⟨z, z1, z2, z3, _⟩ := tj.zeroA (bs := []) hz
    refine ⟨u1, u2, by rw [← h2, ← tj.cells]; exact u3, u4, by rw [tj.cells, h2], by rw [tj.bytes, h3], z, z1, ?_, z3⟩
    rw [z2, ← AV.plainL_eq]; exact h5
  · exact h1.elim
end
end Go.Sx
end
section
namespace Go.Sx
open Go Go.Aw
def errC (E : Nat) : List SV → List SV
  | [] => []
  | v :: r => errS E v :: errC E r
def errO (E : Nat) : SObj → SObj
  | .cells l => .cells (errC E l)
  | .obj o => .obj o
def errL (E : Nat) : List SObj → List SObj
  | [] => []
  | o :: r => errO E o :: errL E r
section
variable {fr : SFr} {L : List SObj} {m : AMem}
theorem errC_len (E : Nat) : ∀ (l : List SV), (errC E l).length = l.length
  | [] => rfl
  | v :: r => by simp only [errC, List.length_cons, errC_len E r]
theorem errL_len (E : Nat) : ∀ (l : List SObj), (errL E l).length = l.length
  | [] => rfl
  | v :: r => by simp only [errL, List.length_cons, errL_len E r]
theorem errC_le (bs : List Nat) (E : Nat) : ∀ (l : List SV) (i : Nat), LeV ((denL bs (errC E l)).getD i .junk) ((denL bs l).getD i .junk)
  | [], i => .inl rfl
  | v :: r, 0 => by simp only [errC, denL, List.getD_cons_zero]; exact errS_le bs E v
  | v :: r, i + 1 => by simp only [errC, denL, List.getD_cons_succ]; exact errC_le bs E r i
theorem errO_le (bs : List Nat) (E : Nat) (o : SObj) : OLe (denO bs (errO E o)) (denO bs o) := by
  cases o with
  | obj o => exact .inl rfl
  | cells l => exact .inr ⟨_, _, rfl, rfl, by rw [denL_len, denL_len, errC_len], errC_le bs E l⟩
theorem errL_get (E : Nat) : ∀ (l : List SObj) (i : Nat), (errL E l)[i]? = (l[i]?).map (errO E)
  | [], i => by simp [errL]
  | v :: r, 0 => by simp [errL]
  | v :: r, i + 1 => by simp [errL, errL_get E r i]
theorem ACalls.lessM {P : Program} {f : FuncId} {args : List AV} {K : AV → AMem → Prop} {m' : AMem} (hs : MLe m' m) (h : ACalls P f args m' K) : ACalls P f args m K :=
  ⟨h.1, fun F lim w cargs hsz hr st => h.2 F lim w cargs hsz hr (St.lessM st hs)⟩
theorem MLe.wth {bs : List Nat} {is : List Nat} {os os' : List SObj} {mm : AMem} (hN : (blks bs is).Nodup) (hl : is.length = os.length) (hl' : os'.length = os.length) (h : ∀ (i : Nat) o', os'[i]? = some o' → ∃ o, os[i]? = some o ∧ OLe (denO bs o') (denO bs o)) : MLe (mm.wth (pk bs is os')) (mm.wth (pk bs is os)) := by
  intro b o' hb
  by_cases hm : b ∈ blks bs is
  · obtain ⟨i, him, rfl⟩ := blks_mem hm
    obtain ⟨j, hj⟩ := List.getElem?_of_mem him
    have hjl : j < os'.length := by
      rcases Nat.lt_or_ge j is.length with h | h
      · omega
      · rw [List.getElem?_eq_none h] at hj; cases hj
    have ho' := List.getElem?_eq_getElem hjl
    obtain ⟨o, ho, hle⟩ := h j _ ho'
    rw [pk_get hN (by omega) hj ho'] at hb
    obtain rfl := Option.some.inj hb
    exact ⟨_, pk_get hN hl hj ho, hle⟩
  · rw [pk_other hm] at hb
    exact ⟨o', by rw [pk_other hm]; exact hb, .inl rfl⟩
theorem callX {b0 : List Nat} {P : Program} {f : FuncId} {vs : List SV} {Q : SV → List SObj → AMem → Prop} {σ : Type} (E : Nat) (is : List Nat) (I : σ → Prop) (y : σ → SV) (os : σ → List SObj) (hi : isOk L.length is = true) (hl : ∀ x, (os x).length = is.length)
    (h : ∀ bs (mm : AMem), Gd (blks bs is) mm → (∀ b o, m b = some o → mm b = some o) → ∀ (K : AV → AMem → Prop), (∀ x, I x → K (den bs (y x)) (mm.wth (pk bs is (os x)))) → ACalls P f (denL bs vs) (mm.wth (pk bs is (errL E (getL L is)))) K)
    (hQ : ∀ x, I x → flK (setL L is (os x)) fun L' => Q (y x) L' m) : SCall P b0 f vs fr L m Q := by
  refine ⟨σ, I, y, fun x => setL L is (os x), fun _ => m, fun new g K hK => ?_, fun x => by rw [setL_len, Nat.beq_refl]; rfl, fun x hx => by have := hQ x hx; rwa [flK_eq] at this⟩
  have hN := blks_nodup g.nd (by rw [g.len]; exact hi)
  have e1 := mem_pk g hi (getL_len L is).symm
  rw [setL_get_self hi] at e1
  rw [e1]
  refine ACalls.lessM (MLe.wth hN (getL_len L is).symm (errL_len E _) fun i o' ho' => ?_) (h (b0 ++ new) _ ⟨hN, fun b hb => by simp [restM, hb]⟩ (fun b o hb => ?_) K fun x hx => ?_)
  · rw [errL_get] at ho'
    cases hg : (getL L is)[i]? with
    | none => rw [hg] at ho'; cases ho'
    | some o =>
      rw [hg] at ho'
      obtain rfl := Option.some.inj ho'
      exact ⟨o, rfl, errO_le _ E o⟩
  · have h1 : b ∉ b0 ++ new := fun hm => by rw [g.fresh b hm] at hb; cases hb
    have h2 : b ∉ blks (b0 ++ new) is := fun hm => by
      obtain ⟨i, hi2, e⟩ := blks_mem hm
      have hlt := (isOk_lt hi).1 i hi2
      rw [← g.len] at hlt
      apply h1
      rw [e, List.getD_eq_getElem?_getD, List.getElem?_eq_getElem hlt]
      exact List.getElem_mem _
    simp only [restM, if_neg h2, memD]
    rw [wth_other (by rw [denM_fst g.len]; exact h1)]
    exact hb
  · have := hK x hx [] (by rw [List.append_nil]; exact ⟨g.nd, by rw [setL_len]; exact g.len, g.fresh⟩)
    rw [List.append_nil, mem_pk g hi (hl x).symm] at this
    exact this
end
end Go.Sx
end
section
namespace Go.Sx
open Go Go.Aw
def zA (st : Bool) (z : List Z) : AV := bif st then .agg (AV.plainL (denL [] (zCells z))) else ((denL [] (zCells z)).getD 0 .junk).plain
theorem TF.zeroV {P : Program} {t : Nat} {i : TI} (tf : TF P t i) (hz : i.z ≠ []) : ∃ z, Aw.zeroA P t = some z ∧ z.plain = zA i.k.isSt i.z := by
  obtain ⟨v, h1, h2, h3, h4⟩ := tf.zero hz
  refine ⟨cval v, by simp only [Aw.zeroA, h1, h2, if_true], ?_⟩
  unfold zIs at h3
  split at h3
  · simp only [Bool.and_eq_true] at h3
    rw [zA, h3.1, cond_true, zEqs_den h3.2]
    simp only [cval, AV.plain]
  · rename_i hv
    simp only [Bool.and_eq_true, Bool.not_eq_true'] at h3
    have hcv : cval v = cval1 v := by
      cases v with
      | agg cs => exact absurd rfl (hv cs)
      | iface t u =>
        cases hzz : i.z with
        | nil => exact absurd hzz hz
        | cons a r => rw [hzz] at h3; simp [zEqs, zEq] at h3
      | _ => rfl
    rw [zA, h3.1, cond_false, zEqs_den h3.2, hcv]
    rfl
def tkD : TK → Option TypeDesc
  | .str => some .string
  | .int .i64 => some (.int .i64)
  | _ => none
structure MpOk (T : Tab) (t k e : Nat) (dk : TypeDesc) (z : AV) : Prop where
  t : tgK T t fun i => match i.k with | .mp k' e' => k' = k ∧ e' = e | _ => False
  k : tgK T k fun i => tkD i.k = some dk
  e : tgK T e fun i => (match i.z with | [] => False | _ => True) ∧ zA i.k.isSt i.z = z
section
variable {P : Program} {T : Tab} {b0 : List Nat} {fr : SFr} {L : List SObj} {m : AMem} {K : SK}
theorem MpOk.get (hT : tabOk P T = true) {t k e : Nat} {dk : TypeDesc} {z : AV} (h : MpOk T t k e dk z) : P.underlying t = some (.map k e) ∧ P.underlying k = some dk ∧ ∃ z0, zeroA P e = some z0 ∧ z0.plain = z := by
  obtain ⟨i, ti, h1⟩ := tg hT h.t
  obtain ⟨j, tj, h2⟩ := tg hT h.k
  obtain ⟨l, tl, h3, h4⟩ := tg hT h.e
  have hz : l.z ≠ [] := fun e => by rw [e] at h3; exact h3
  refine ⟨?_, ?_, ?_⟩
  · split at h1
    · rename_i hk
      obtain ⟨rfl, rfl⟩ := h1
      exact ti.mp hk
    · exact h1.elim
  · unfold tkD at h2
    split at h2
    · rename_i hk
      rw [← Option.some.inj h2]; exact tj.str hk
    · rename_i hk
      rw [← Option.some.inj h2]; exact tj.int hk
    · cases h2
  · obtain ⟨z0, z1, z2⟩ := tl.zeroV hz
    exact ⟨z0, z1, z2.trans h4⟩
theorem mlk (hT : tabOk P T = true) {κ ν : Type} [DecidableEq κ] {dk : TypeDesc} (kf : κ → AV) {kc : κ → Value} (vf : ν → AV) (he : KeyEnc dk kf kc) (l : List (κ × ν)) (k : κ) (z : ν) {d t i : Nat} {ke ve : Nat} {x y : Operand} {v : AV} (hM : MpOk T t ke ve dk (vf z)) (hx : opK fr x fun u => u = .mp i) (hi : nth L i = some (.obj (.map (l.map (mapAV kf vf)))))
    (hy : opK fr y fun u => u = .av (kf k)) (hkp : (kf k).plain = kf k) (hv : vf ((mget l k).getD z) = v) (hp : v.plain = v) (h : K ((d, svOf v) :: fr) L m) : SOp P b0 (some d) (.lookup t x y false) fr L m K := ⟨fun new g n ops ty pos af r KK hok hn hK => by
  obtain ⟨u1, u2, z0, z1, z2⟩ := hM.get hT
  obtain ⟨v1, rfl, e1⟩ := opK_sound (b0 ++ new) hx
  obtain ⟨v2, rfl, e2⟩ := opK_sound (b0 ++ new) hy
  simp only [den, hkp] at e1 e2
  rw [nth_eq] at hi
  have hg := mem_get g hi
  refine aopR_sound (stl := []) hok hn ?_
  refine ar_lookupP (P := P) (ops := ops) (stl := []) (r := []) (K := AOps P n ops r KK) (L := denM (b0 ++ new) L) rfl kf vf he l k z u1 u2 z1 z2 e1.symm e2.symm hg hv ?_
  have := hK _ _ _ (b0 ++ new) (List.prefix_append _ _) g h
  simp only [denF, den_svOf, hp] at this
  exact this⟩
end
end Go.Sx
end
section
namespace Go.Sx
open Go Go.Aw
theorem ACalls.lessA {P : Program} {f : FuncId} {a a' : List AV} {m : AMem} {K : AV → AMem → Prop} (hl : a'.length = a.length) (hs : ∀ i, LeV (a'.getD i .junk) (a.getD i .junk)) (h : ACalls P f a' m K) : ACalls P f a m K :=
  ⟨h.1, fun F lim w cargs hsz hr st => h.2 F lim w cargs (by omega) (fun i hi => by
    rcases hs i with e | e
    · rw [e]; exact hr i (by omega)
    · exact e _ _ _ _ (hr i (by omega))) st⟩
section
variable {fr : SFr} {L : List SObj} {m : AMem}
theorem callY {b0 : List Nat} {P : Program} {f : FuncId} {vs : List SV} {Q : SV → List SObj → AMem → Prop} {σ : Type} (E : Nat) (is : List Nat) (I : σ → Prop) (y : σ → SV) (os : σ → List SObj) (hi : isOk L.length is = true) (hl : ∀ x, (os x).length = is.length)
    (h : ∀ bs (mm : AMem), Gd (blks bs is) mm → (∀ b o, m b = some o → mm b = some o) → ∀ (K : AV → AMem → Prop), (∀ x, I x → K (den bs (y x)) (mm.wth (pk bs is (os x)))) → ACalls P f (denL bs (errC E vs)) (mm.wth (pk bs is (errL E (getL L is)))) K)
    (hQ : ∀ x, I x → flK (setL L is (os x)) fun L' => Q (y x) L' m) : SCall P b0 f vs fr L m Q :=
  callX E is I y os hi hl (fun bs mm gd ht K hK => ACalls.lessA (by rw [denL_len, denL_len, errC_len]) (errC_le bs E vs) (h bs mm gd ht K hK)) hQ
end
end Go.Sx
end
section
namespace Go.Sx
open Go Go.Aw
inductive Pl where
  | d
  | z
  | f (i : Nat) (p : Pl)
  | s (i : Nat) (p : Pl)
  | o (i : Nat) (p q : Pl)
def Pl.ids : Pl → List Nat
  | .o i _ q => i :: q.ids
  | _ => []
def firstK (o : Oper) : Bool :=
  match o.op with
  | .move x | .nilCheck x | .fieldAddr _ x _ => opdOk x
  | _ => false
def plOk (ops : Array Oper) : Pl → Bool → Nat → Array Bool → Bool
  | .d, _, _, l => (Region.ready .any ops l).isEmpty
  | .z, top, _, _ => !top
  | .f i p, _, k, l =>
    match k with
    | 0 => false
    | k + 1 => (match ops[i]? with | some o => firstB ops l i o && firstK o | none => false) && plOk ops p true k (l.setIfInBounds i true)
  | .s i p, _, k, l =>
    match k with
    | 0 => false
    | k + 1 => !(Region.ready .any ops l).isEmpty && ((Region.ready .any ops l).all fun j => j == i) && plOk ops p true k (l.setIfInBounds i true)
  | .o i p q, top, k, l =>
    match k with
    | 0 => false
    | k + 1 => (!top || (!(Region.ready .any ops l).isEmpty && (Region.ready .any ops l).all fun j => (i :: q.ids).contains j)) && ops[i]?.isSome && plOk ops p true k (l.setIfInBounds i true) && plOk ops q false (k + 1) l
def sfirst (c : Cfg) (d : Option Nat) (op : Op) (fr : SFr) (k : SFr → Prop) : Prop :=
  match d, op with
  | some d, .move x => opK fr x fun v => k ((d, v) :: fr)
  | some d, .nilCheck x => opK fr x fun v =>
    match v with
    | .loc i off => k ((d, .loc i off) :: fr)
    | _ => False
  | some d, .fieldAddr s x f => opK fr x fun a =>
    match a with
    | .loc i off => tgK c.T s fun ti => stK ti f fun o _ => k ((d, .loc i (off + o)) :: fr)
    | _ => False
  | _, _ => False
def splan (c : Cfg) (sl : List Nat) (ops : List Oper) (K : SK) : Pl → SK
  | .d, fr, L, m => K fr L m
  | .z, _, _, _ => True
  | .f i p, fr, L, m =>
    match nth ops i with
    | some o => sfirst c o.dst o.op fr fun fr => splan c sl ops K p fr L m
    | none => False
  | .s i p, fr, L, m =>
    match nth ops i with
    | some o => sops c ops sl [o] fr L m fun fr L m => splan c sl ops K p fr L m
    | none => False
  | .o i p q, fr, L, m =>
    (match nth ops i with
    | some o => sops c ops sl [o] fr L m fun fr L m => splan c sl ops K p fr L m
    | none => False) ∧ splan c sl ops K q fr L m
end Go.Sx
namespace Go.Aw
open Go
section
variable {P : Program} {n : Nat} {fr : Fr} {m : AMem} {ops : Array Oper} {fuel : Nat} {listed : Array Bool} {K : Fr → AMem → Prop}
theorem AAny.stepA (hne : Region.ready .any ops listed ≠ []) (h : ∀ i ∈ Region.ready .any ops listed, ∃ o, ops[i]? = some o ∧ AOps P n ops [o] (AAny P n ops fuel (listed.setIfInBounds i true) K) fr m) : AAny P n ops (fuel + 1) listed K fr m := by
  intro F lim w ca Q st hq
  refine ⟨fun h0 => absurd h0 hne, fun i hi => ?_⟩
  obtain ⟨o, ho, key⟩ := h i hi
  unfold wpOp
  rw [ho]
  simp only
  let Q' : Exit → Act → World → Prop := fun e a w' => match e with
    | .normal => wpAny P .any ops Q fuel (listed.setIfInBounds i true) a w'
    | e => Q e a w'
  have hw := key F lim w ca Q' st (fun lim' w' fr' m' ca' hA st' pr => hA F lim' w' ca' Q st' fun lim'' w'' fr'' m'' ca'' hK st'' pr' => hq lim'' w'' fr'' m'' ca'' hK st'' (pr.trans pr'))
  have conv : ∀ {C : Act → World → Prop}, o.wp P ca w C Q' → o.wp P ca w C Q := by
    intro C hC
    unfold Oper.wp at hC ⊢
    generalize (execOp ca.eval o).run P w = res at hC ⊢
    cases res with
    | ok s w' =>
      cases s with
      | enter f args =>
        refine hC.mono fun e w'' hh => ?_
        cases e <;> exact hh
      | _ => exact hC
    | _ => exact hC
  unfold wpList at hw
  split
  · next hwt =>
    rw [if_pos hwt] at hw
    rcases hw with hw | ⟨h1, h2⟩
    · exact .inl (conv hw)
    · exact .inr ⟨h1, h2⟩
  · next hwt =>
    rw [if_neg hwt] at hw
    exact hw
theorem AAny.slots (h : AAny P n ops fuel listed K fr m) : AAny P n ops fuel listed (fun f m => (∀ t x, f.get t = some x → t < n) ∧ K f m) fr m := fun F lim w ca Q st hq =>
  h F lim w ca Q st fun lim' w' f m' ca' hk st' pr => hq lim' w' f m' ca' ⟨fun t x hx => by obtain ⟨_, _, _, s⟩ := st'; exact (s.slots t x hx).1, hk⟩ st' pr
theorem AAny.monoK {K' : Fr → AMem → Prop} (hK : ∀ f m, K f m → K' f m) (h : AAny P n ops fuel listed K fr m) : AAny P n ops fuel listed K' fr m := fun F lim w ca Q st hq =>
  h F lim w ca Q st fun lim' w' f m' ca' hk st' pr => hq lim' w' f m' ca' (hK _ _ hk) st' pr
end
end Go.Aw
namespace Go.Sx
open Go Go.Aw
section
variable {c : Cfg} {n : Nat} {ops : Array Oper} {K : Fr → AMem → Prop} {sl : List Nat} {KK : SK}
theorem sfirst_sound {b0 new : List Nat} (hT : tabOk c.P c.T = true) (hok : ∀ o ∈ ops.toList, okOper n o = true ∧ tmpsOk n o = true) {fuel i : Nat} {o : Oper} {listed : Array Bool} {fr : SFr} {mm : AMem} {k : SFr → Prop} (ho : ops[i]? = some o) (hb : firstB ops listed i o = true) (hf : firstK o = true)
    (h : sfirst c o.dst o.op fr k) (hk : ∀ fr', k fr' → AAny c.P n ops fuel (listed.setIfInBounds i true) K (denF (b0 ++ new) fr') mm) : AAny c.P n ops (fuel + 1) listed K (denF (b0 ++ new) fr) mm := by
  have hm := hok o (by rw [Array.mem_toList_iff]; exact Array.mem_of_getElem? ho)
  cases hd : o.dst with
  | none => rw [hd] at h; unfold sfirst at h; split at h <;> simp_all
  | some d =>
    have hdn := okOper_dst hm.1 hd
    rw [hd] at h
    cases hop : o.op with
    | move x =>
      simp only [hop, sfirst] at h
      obtain ⟨v, h1, e⟩ := opK_sound (b0 ++ new) h
      rw [firstK, hop] at hf
      have := hk _ h1
      simp only [denF] at this
      exact AAny.fMove ho hop hd hdn hf hb e.symm this
    | nilCheck x =>
      simp only [hop, sfirst] at h
      obtain ⟨v, h1, e⟩ := opK_sound (b0 ++ new) h
      rw [firstK, hop] at hf
      split at h1
      · have := hk _ h1
        simp only [denF] at this
        simp only [den] at e this
        exact AAny.fNil ho hop hd hdn hf hb e.symm this
      · exact h1.elim
    | fieldAddr s x f =>
      simp only [hop, sfirst] at h
      obtain ⟨v, h1, e⟩ := opK_sound (b0 ++ new) h
      rw [firstK, hop] at hf
      split at h1
      · rename_i ii off
        obtain ⟨ti, tf, h2⟩ := tg hT h1
        obtain ⟨fa, fd, hu, hfd, i1, i2, h3⟩ := stK_sound tf h2
        have := hk _ h3
        simp only [denF] at this
        simp only [den] at e this
        exact AAny.fField (side := isU c.P fd.type = true ∧ c.P.cellsOf fd.type ≠ 0) ho hop hd hdn hf hb e.symm (by simp only [qv, hu, hfd, ← e] <;> rfl) ⟨i1, i2⟩ this
      · exact h1.elim
    | _ => simp [hop, sfirst] at h
theorem splan_sound {b0 : List Nat} (hT : tabOk c.P c.T = true) (hb0 : c.bs = b0) (hok : ∀ o ∈ ops.toList, okOper n o = true ∧ tmpsOk n o = true ∧ stOk o = true)
    (hK : ∀ fr' L' m' nw, Good (b0 ++ nw) L' m' → KK fr' L' m' → K (denF (b0 ++ nw) fr') (memD (b0 ++ nw) L' m')) :
    ∀ (p : Pl) (top : Bool) (fuel : Nat) (listed : Array Bool) (fr : SFr) (L : List SObj) (m : AMem) (new : List Nat), plOk ops p top fuel listed = true → Good (b0 ++ new) L m → splan c sl ops.toList KK p fr L m →
      (top = true → AAny c.P n ops fuel listed K (denF (b0 ++ new) fr) (memD (b0 ++ new) L m)) ∧
      (∀ f, fuel = f + 1 → ∀ i ∈ p.ids, ∃ o, ops[i]? = some o ∧ AOps c.P n ops [o] (AAny c.P n ops f (listed.setIfInBounds i true) K) (denF (b0 ++ new) fr) (memD (b0 ++ new) L m))
  | .d, top, fuel, listed, fr, L, m, new, ho, g, h => by
    refine ⟨fun _ => AAny.done ?_ (hK _ _ _ _ g h), fun f _ i hi => by cases hi⟩
    simpa [plOk] using ho
  | .z, top, fuel, listed, fr, L, m, new, ho, g, h => by
    refine ⟨fun ht => ?_, fun f _ i hi => by cases hi⟩
    subst ht; simp [plOk] at ho
  | .f i p, top, fuel, listed, fr, L, m, new, ho, g, h => by
    refine ⟨fun _ => ?_, fun f _ i hi => by cases hi⟩
    cases fuel with
    | zero => simp [plOk] at ho
    | succ k =>
      simp only [plOk, Bool.and_eq_true] at ho
      simp only [splan, nth_eq, Array.getElem?_toList] at h
      cases hi : ops[i]? with
      | none => rw [hi] at h; exact h.elim
      | some o =>
        rw [hi] at h ho
        simp only [Bool.and_eq_true] at ho
        exact sfirst_sound hT (fun o ho => ⟨(hok o ho).1, (hok o ho).2.1⟩) hi ho.1.1 ho.1.2 h fun fr' hk => (splan_sound hT hb0 hok hK p true k _ fr' L m new ho.2 g hk).1 rfl
  | .s i p, top, fuel, listed, fr, L, m, new, ho, g, h => by
    refine ⟨fun _ => ?_, fun f _ i hi => by cases hi⟩
    cases fuel with
    | zero => simp [plOk] at ho
    | succ k =>
      simp only [plOk, Bool.and_eq_true, Bool.not_eq_true', List.all_eq_true, beq_iff_eq] at ho
      simp only [splan, nth_eq, Array.getElem?_toList] at h
      refine AAny.stepA (fun e => by rw [e] at ho; simp at ho) fun j hj => ?_
      obtain rfl := ho.1.2 j hj
      cases hi : ops[j]? with
      | none => rw [hi] at h; exact h.elim
      | some o =>
        rw [hi] at h
        refine ⟨o, rfl, sops_sound hT hb0 [o] (fun o' ho' => ?_) g h fun fr' L' m' nw g' hk => (splan_sound hT hb0 hok hK p true k _ fr' L' m' nw ho.2 g' hk).1 rfl⟩
        rw [List.mem_singleton.1 ho']
        exact hok o (by rw [Array.mem_toList_iff]; exact Array.mem_of_getElem? hi)
  | .o i p q, top, fuel, listed, fr, L, m, new, ho, g, h => by
    cases fuel with
    | zero => simp [plOk] at ho
    | succ k =>
      simp only [plOk, Bool.and_eq_true] at ho
      obtain ⟨⟨⟨h1, h2⟩, h3⟩, h4⟩ := ho
      have key : ∀ f, k + 1 = f + 1 → ∀ j ∈ (Pl.o i p q).ids, ∃ o, ops[j]? = some o ∧ AOps c.P n ops [o] (AAny c.P n ops f (listed.setIfInBounds j true) K) (denF (b0 ++ new) fr) (memD (b0 ++ new) L m) := by
        intro f hf j hj
        obtain rfl : k = f := by omega
        simp only [splan, nth_eq, Array.getElem?_toList] at h
        simp only [Pl.ids, List.mem_cons] at hj
        rcases hj with rfl | hj
        · cases hi : ops[j]? with
          | none => rw [hi] at h2; cases h2
          | some o =>
            rw [hi] at h
            refine ⟨o, rfl, sops_sound hT hb0 [o] (fun o' ho' => ?_) g h.1 fun fr' L' m' nw g' hk => (splan_sound hT hb0 hok hK p true k _ fr' L' m' nw h3 g' hk).1 rfl⟩
            rw [List.mem_singleton.1 ho']
            exact hok o (by rw [Array.mem_toList_iff]; exact Array.mem_of_getElem? hi)
        · exact (splan_sound hT hb0 hok hK q false (k + 1) listed fr L m new h4 g h.2).2 k rfl j hj
      refine ⟨fun ht => ?_, key⟩
      subst ht
      simp only [Bool.not_true, Bool.false_or, Bool.and_eq_true, Bool.not_eq_true', List.all_eq_true, List.contains_iff_mem] at h1
      exact AAny.stepA (fun e => by rw [e] at h1; simp at h1) fun j hj => key k rfl j (by simpa [Pl.ids] using h1.2 j hj)
theorem rgA {L : List SObj} {m : AMem} {fr : SFr} {id : Nat} {kn : SK} {A : Prop} {σ : Type} (hT : tabOk c.P c.T = true) (hm : c.P.follows .mixedOrders = true) (p : Pl) (md : List (Nat × Nat)) (ks : List Nat) (k : Nat) (S : σ → SS) (I : σ → Prop)
    (hp : (plOk ops p true ops.size (Array.replicate ops.size false) && ops.toList.all stOk) = true)
    (hB : ∀ x, I x → flK (S x).1 fun fr => flK (S x).2.1 fun L => kn fr L (S x).2.2)
    (hA : splan c (apSl ops.toList) ops.toList (fun fr L m => ∃ x, fits c md ks k fr L m (S x) ∧ I x) p fr L m) : SOr A (SRg c id ops true kn fr L m) := by
  simp only [Bool.and_eq_true, List.all_eq_true] at hp
  refine ⟨.inr ⟨fun new g n Q hk hQ => ?_⟩⟩
  have hk2 := okAll_range hk
  simp only [okAll, Bool.and_eq_true, List.all_eq_true] at hk
  refine AWP.weak (Q := fun e f m => ∃ f' m', Le f' f ∧ (∀ b o, m' b = some o → m b = some o) ∧ Q e f' m') (fun e f m h => h) ?_
  refine awp_any hm (List.range n) hk2 fun K hK => ?_
  have h1 := (splan_sound (K := fun fr mm => ∃ f' m', Le f' fr ∧ (∀ b o, m' b = some o → mm b = some o) ∧ Q .normal f' m') hT rfl (fun o ho => ⟨(hk.1 o ho).1, (hk.1 o ho).2, hp.2 o ho⟩) (fun fr' L' m' nw g' ⟨x, hf, hI⟩ => by
    obtain ⟨g2, hl, hs, hlen⟩ := fits_sound (b0 := c.bs) rfl g' hf
    have := hB x hI
    rw [flK_eq, flK_eq] at this
    exact ⟨_, _, hl, hs, hQ _ _ _ _ (List.prefix_append _ _) g2 this⟩) p true _ _ fr L m new hp.1 g hA).1 rfl
  refine AAny.monoK (fun f mm ⟨hs, f', m', hl, hm', hq⟩ => hK _ _ ⟨f', m', fun t x hx => ?_, hm', hq⟩) (AAny.slots h1)
  obtain ⟨y, hy, hxy⟩ := hl t x hx
  obtain ⟨z, hz, hyz⟩ := keep_le hs t y hy
  rcases hyz with rfl | hyz
  · exact ⟨_, hz, hxy⟩
  · refine ⟨_, hz, .inr fun w lim v os hr => ?_⟩
    have h2 := hyz w lim v os hr
    rcases hxy with rfl | hxy
    · exact h2
    · exact hxy w lim v [] h2
end
end Go.Sx
end
section
namespace Go.Sx
open Go Go.Aw
theorem ACalls.pl {P : Program} {f : FuncId} {a : List AV} {m : AMem} {K : AV → AMem → Prop} (h : ACalls P f a m fun x m' => K x.plain m') : ACalls P f a m K :=
  ⟨h.1, fun F lim w cargs h1 h2 h3 => (h.2 F lim w cargs h1 h2 h3).mono fun _ _ ⟨v, x, lim', m', _, he, hK, hr, hs, hp⟩ => ⟨v, x.plain, lim', m', [], he, hK, hr.plain, hs.drop, hp⟩⟩
example (l : List AV) (n : Int) : AV.plain (.tuple [.slice true l, .int .i64 n, .err 3 n]) = .tuple [.slice false l, .int .i64 n, .err 3 n] := rfl
end Go.Sx
end
section
namespace Go.Aw
open Go RowKit
section
variable {P : Program} {F : Nat → Prop} {lim : Nat → Nat} {w w' : World} {n : Nat} {fr : Fr} {m : AMem} {ca : Act} {fl : List Nat}
theorem St.below (st : St F lim w n fr m ca fl) (h : Below w.heap.size w w') : St F lim w' n fr m ca fl := by
  have hl := h.block
  have hf : ∀ c, w.heap.size ≤ c → lim c = 0 := fun c hc => by
    obtain ⟨_, _, _, s⟩ := st
    exact (s.fresh c hc).1
  have hm : ∀ b, m b ≠ none → b < w.heap.size := fun b hb => st.lt_of_mem hb
  have hcell : ∀ b o, o < lim b → b < w.heap.size := fun b o ho => st.lt_of_lim ho
  exact st.world h.size (fun _ => Nat.le_refl _) (fun b o ho => by simp [World.cell?, hl b (hcell b o ho)]) (fun c hc => .inr ⟨hl c hc, rfl⟩) (fun b hb => ⟨hl b (hm b hb), rfl⟩) (fun c hc => hf c (Nat.le_trans h.size hc))
theorem pres_below (st : St F lim w n fr m ca fl) (h : Below w.heap.size w w') : Pres F w lim w' lim :=
  ⟨h.os, h.tape, h.output, h.size, fun b hb => ⟨h.block b (st.lt_of_F hb), rfl⟩, fun _ => Nat.le_refl _, fun b o ho => by simp [World.cell?, h.block b (st.lt_of_lim ho)]⟩
theorem atoi_calls {f eB tN : Nat} {bE : Nat} {e : TypeId} {z : Nat × Nat} {tp : TypeId} {p : Value} (hf : ∃ fn, P.funcs[f]? = some fn ∧ fn.body.isSome = true ∧ (fn.name == "runtime.NumGoroutine") = false)
    (hok : ∀ (s : ByteArray) (n : Int), s.size ≤ 18 → Lib.atoi s.data.toList = some n → ∀ w : World, Calls P f #[.string s] w fun e w' => e = .returned (.tuple #[.int .i64 n, .nilIface]) ∧ ∃ t, w' = Lib.bytesWorld w eB t)
    (herr : ∀ (s : ByteArray), s.size ≤ 18 → Lib.atoi s.data.toList = none → ∀ (ev : Value) (w : World), w.cell? ⟨bE, 0, none⟩ = some ev → (ev = .nilIface ∨ ∃ te pe, ev = .iface te pe) → Calls P f #[.string s] w fun e w' => ∃ N, e = .returned (.tuple #[.int .i64 0, .iface tN (.pointer (some ⟨N, 0, none⟩))]) ∧ Below w.heap.size w w')
    {s : List UInt8} {K : AV → AMem → Prop} (hs : s.length ≤ 18) (hb : ∀ n, Lib.atoi s = some n → -9223372036854775808 ≤ n ∧ n ≤ 9223372036854775807) (hm : m bE = some (.tab e z #[.iface tp p]))
    (hK : K (.tuple [.int .i64 ((Lib.atoi s).getD 0), .opt (Lib.atoi s).isNone]) m) : ACalls P f [.str s] m K := by
  refine ⟨hf, fun F lim w cargs hsz hr st => ?_⟩
  obtain ⟨x, rfl⟩ := one_arg hsz
  have r0 : Rep w lim x (.str s) [] := hr 0 (by simp)
  obtain ⟨b, rfl, hbs⟩ : ∃ b : ByteArray, x = .string b ∧ b.data.toList = s := by
    cases r0 with
    | str b _ => exact ⟨b, rfl, rfl⟩
  have hsz2 : b.size ≤ 18 := by rw [← hbs] at hs; simpa using hs
  have tup : ∀ {w1 : World} {n : Int} {v : Value} {o : Bool}, -9223372036854775808 ≤ n → n ≤ 9223372036854775807 → Rep w1 lim v (.opt o) [] → Rep w1 lim (.tuple #[.int .i64 n, v]) (.tuple [.int .i64 n, .opt o]) [] := fun {w1 n v o} h1 h2 h3 => by
    have := Rep.tuple (w := w1) (lim := lim) #[.int .i64 n, v] [.int .i64 n, .opt o] (fun _ => []) rfl (fun i hi => by
      match i, hi with
      | 0, _ => exact .int .i64 n h1 h2
      | 1, _ => exact h3)
    exact this
  cases ha : Lib.atoi s with
  | some n =>
    rw [ha] at hK
    refine (hok b n hsz2 (by rw [hbs]; exact ha) w).mono fun e1 w3 ⟨he, t, hw⟩ => ?_
    subst he; subst hw
    exact ⟨_, _, lim, _, [], rfl, hK, tup (hb n ha).1 (hb n ha).2 .optN, st.below (Lib.bytesWorld_below _ _ _), pres_below st (Lib.bytesWorld_below _ _ _)⟩
  | none =>
    rw [ha] at hK
    have hc : w.cell? ⟨bE, 0, none⟩ = some (.iface tp p) := by
      obtain ⟨os, om, ow, s⟩ := st
      have := (s.mem bE _ hm).1
      cases this with
      | tab _ _ _ _ hb => simp [World.cell?, hb]
    refine (herr b hsz2 (by rw [hbs]; exact ha) _ w hc (.inr ⟨tp, p, rfl⟩)).mono fun e1 w3 ⟨N, he, hw⟩ => ?_
    subst he
    exact ⟨_, _, lim, _, [], rfl, hK, tup (by decide) (by decide) (.optS _ _), st.below hw, pres_below st hw⟩
end
end Go.Aw
end
section
namespace Go.Sx
open Go Go.Aw
section
variable {P : Program} {b0 : List Nat} {fr : SFr} {L : List SObj} {m : AMem} {K : SK}
theorem bown {d t s : Nat} {parts : Array (Nat × Operand)} {fs : Array Field} {z : AV} (pre post : List SV) (q : List AV) (hu : P.underlying t = some (.struct fs)) (hz : zeroA P t = some z) (hzt : z.topOk = true) (hfs : ∀ f ∈ fs.toList, isU P f.type = true)
    (hpt : ∀ bs, ∀ X : AV, X.topOk = true → ∀ p ∈ parts.toList, (partAV (rawOf (denF bs fr)) s X p.2).topOk = true)
    (hms : ∀ bs a k c, fillA (fun i => (fs[i]?).map fun f => (f.offset, P.cellsOf f.type)) z.cells (parts.toList.map fun p => (p.1, partAV (rawOf (denF bs fr)) s (.ms a k c) p.2)) = some (denL bs pre ++ .ms a k c :: denL bs post))
    (hown : ∀ bs, fillA (fun i => (fs[i]?).map fun f => (f.offset, P.cellsOf f.type)) z.cells (parts.toList.map fun p => (p.1, partAV (rawOf (denF bs fr)) s (.slice true q) p.2)) = some (denL bs pre ++ .slice true q :: denL bs post))
    (hx : sgK fr s fun v => v = .own q) (hmem : (parts.toList.any fun p => match p.2 with | .tmp t => t == s | _ => false) = true) (h : K ((d, .agg (pre ++ .own q :: post)) :: (s, .av (.slice false q)) :: fr) L m) :
    SOp P b0 (some d) (.build t parts) fr L m K := ⟨fun new g n ops ty pos af l KK hok hn hK => by
  refine aopR_sound (stl := [d]) hok hn ?_
  have hr : rawOf (denF (b0 ++ new) fr) s = .slice true q := by
    rw [rawOf_denF]; rw [sgK_eq] at hx; rw [hx]; rfl
  refine ar_buildOwn (P := P) (ops := ops) (stl := [d]) (r := []) (K := AOps P n ops l KK) rfl s (denL (b0 ++ new) pre) (denL (b0 ++ new) post) (by simp) hu hz hzt hfs (hpt _) (hms _) (hown _) hr hmem ?_
  have := hK _ _ _ (b0 ++ new) (List.prefix_append _ _) g h
  have e : denL (b0 ++ new) (pre ++ .own q :: post) = denL (b0 ++ new) pre ++ .slice true q :: denL (b0 ++ new) post := by
    rw [denL_eq, denL_eq, denL_eq, List.map_append, List.map_cons]; rfl
  simp only [denF, den, e] at this
  rw [strip_one, hr]
  exact this⟩
end
end Go.Sx
end
section
namespace Go.Aw
open Go
inductive BadT : Value → Prop
  | u64 (n : Int) : BadT (.int .u64 n)
  | iface (t : TypeId) (p : Value) : BadT (.iface t p)
theorem okT_bad {w : World} {lim : Nat → Nat} {v : Value} (hv : BadT v) {x : AV} {os : List Nat} (h : Rep w lim v x os) (hx : OkT x) : False := by
  cases hv with
  | u64 n => exact okT_u64 h hx
  | iface t p => cases hx <;> cases h
theorem rep_offG {w : World} {lim lim' : Nat → Nat} {B : Nat → Prop} (hc : ∀ b o v, B b → w.cell? ⟨b, o, none⟩ = some v → BadT v) (hl : ∀ b, ¬ B b → lim' b = lim b) {v : Value} {x : AV} {os : List Nat} (h : Rep w lim v x os) : OkT x → Rep w lim' v x os := by
  induction h with
  | bool b => exact fun _ => .bool b
  | int k n lo hi => exact fun _ => .int k n lo hi
  | str s h => exact fun _ => .str s h
  | nils own => exact fun _ => .nils own
  | empty a cap hm => exact fun _ => .empty a cap hm
  | slice b off n cap sz l cv hn hcap hm hbig hsz hlim hcc hr ih =>
    intro hx
    cases hx with
    | slice _ hl1 hl2 =>
      rcases Nat.eq_zero_or_pos n with h0 | h0
      · subst h0
        have : l = [] := List.eq_nil_of_length_eq_zero hn
        subst this
        exact .empty _ _ hm
      · have hmem : ∀ i, i < n → l.getD i .junk ∈ l := fun i hi => by simp [List.getD_eq_getElem?_getD, show i < l.length by omega]
        have gm : ∀ (L : List AV) (j : Nat), j < L.length → L.getD j .junk ∈ L := fun L j hj => by
          rw [List.getD_eq_getElem?_getD, List.getElem?_eq_getElem hj]; exact List.getElem_mem _
        have hok : ∀ i j, i < n → j < sz → OkT ((l.getD i .junk).cells.getD j .junk) := fun i j hi hj => hl2 _ (hmem i hi) _ (gm _ j (by rw [hsz i hi]; exact hj))
        have hs0 : 0 < sz := by
          rw [← hsz 0 h0]; exact List.length_pos_iff.2 (hl1 _ (hmem 0 h0))
        have hb : ¬ B b := fun e => okT_bad (hc b _ _ e (hcc 0 0 h0 hs0)) (hr 0 0 h0 hs0) (hok 0 0 h0 hs0)
        exact .slice b off n cap sz l cv hn hcap hm hbig hsz (by rw [hl b hb]; exact hlim) hcc fun i j hi hj => ih i j hi hj (hok i j hi hj)
  | agg cs xs os h hr ih =>
    intro hx
    cases hx with
    | agg _ hl2 =>
      exact .agg cs xs os h fun i hi => ih i hi (hl2 _ (by
        rw [List.getD_eq_getElem?_getD, List.getElem?_eq_getElem hi]
        exact List.getElem_mem _))
  | _ => intro hx; cases hx
structure TabG where
  e : TypeId
  z : Nat × Nat
  cs : Array Value
def memG (G : Nat → Option TabG) : AMem := fun b => (G b).map fun t => .tab t.e t.z t.cs
section
variable {P : Program}
theorem law_trueG {f : FuncId} {avs : List AV} {cargs : Array Value} {G : Nat → Option TabG} {W : World} (h : ACalls P f avs (memG G) (fun x m' => x = .bool true ∧ ∀ b t, G b = some t → m' b = some (.tab t.e t.z t.cs))) (hs : cargs.size = avs.length)
    (hT : ∀ b t, G b = some t → W.heap[b]? = some (.cells t.cs t.e t.z) ∧ ∀ v ∈ t.cs.toList, BadT v)
    (hr : ∀ i, i < avs.length → Rep W (limOf W) (cargs.getD i undef) (avs.getD i .junk) []) (ho : ∀ x ∈ avs, OkT x) :
    Calls P f cargs W fun e W' => e = .returned (.bool true) ∧ RowKit.Below W.heap.size W W' := by
  have hlt : ∀ b t, G b = some t → b < W.heap.size := fun b t hb => by
    rcases Nat.lt_or_ge b W.heap.size with h | h
    · exact h
    · have := (hT b t hb).1
      rw [Array.getElem?_eq_none h] at this; cases this
  have hc : ∀ b o v, (∃ t, G b = some t) → W.cell? ⟨b, o, none⟩ = some v → BadT v := fun b o v ⟨t, hb⟩ hv => by
    simp only [World.cell?, (hT b t hb).1] at hv
    exact (hT b t hb).2 v (by simpa using Array.mem_of_getElem? hv)
  have st : St (fun b => b < W.heap.size ∧ G b = none) (fun b => if (G b).isSome then 0 else limOf W b) W 0 [] (memG G) noAct [] := by
    refine ⟨fun _ => [], fun _ _ => [], fun _ => .none, rfl, rfl, fun t x hx => by simp [Fr.get] at hx, fun b o h => ?_, fun t x hx => by simp [Fr.get] at hx, fun b o h i => ⟨List.nodup_nil, fun c hc => by cases hc⟩, by simp, fun c h => absurd rfl h, fun b hb => ?_⟩
    · unfold memG at h
      cases e1 : G b with
      | none => rw [e1] at h; cases h
      | some t =>
        rw [e1] at h
        obtain rfl := Option.some.inj h
        exact ⟨.tab t.e _ _ _ (hT b t e1).1, by simp, fun hh => by cases hh.2⟩
    · have e1 : G b = none := by
        cases e1 : G b with
        | none => rfl
        | some t => have := hlt b t e1; omega
      have : W.heap[b]? = none := by simpa using hb
      exact ⟨by simp [e1, limOf, this], fun hh => by omega, by simp [memG, e1]⟩
  refine (h.2 _ _ W cargs hs (fun i hi => rep_offG (B := fun b => ∃ t, G b = some t) hc (fun b hb => by
      have e1 : G b = none := by
        cases e1 : G b with
        | none => rfl
        | some t => exact absurd ⟨t, e1⟩ hb
      simp [e1]) (hr i hi) (ho _ (by rw [List.getD_eq_getElem?_getD, List.getElem?_eq_getElem hi]; exact List.getElem_mem _))) st).mono fun e W' ⟨v, x, lim', m', os, he, hK, hx, hst, hp⟩ => ?_
  obtain ⟨hK, hm⟩ := hK
  subst hK
  cases hx
  refine ⟨he, hp.os, hp.tape, hp.output, hp.size, fun k hk => ?_⟩
  cases e1 : G k with
  | some t =>
    obtain ⟨_, _, _, s⟩ := hst
    have := (s.mem k _ (hm k t e1)).1
    cases this with
    | tab _ _ _ _ hb => rw [hb, (hT k t e1).1]
  | none => exact (hp.res k ⟨hk, e1⟩).1
end
end Go.Aw
end
section
namespace Go.Aw
open Go Go.MapKept
section
variable {P : Program} {F : Nat → Prop} {lim : Nat → Nat} {w w' : World} {n : Nat} {fr : Fr} {m : AMem} {ca : Act} {fl : List Nat}
variable {ops : Array Oper} {stl : List Nat} {r : List Oper} {K : Fr → AMem → Prop} {d : Nat} {ty : TypeId} {pos : String} {af : Array Edge} {gd : Option (Nat × Bool)} {L : List (Nat × AObj)}
theorem ar_insert (hg : gOn ops fr gd = some true) {κ ν : Type} [DecidableEq κ] {dk : TypeDesc} (i : Nat) (kf : κ → AV) {kc : κ → Value} (vf : ν → AV) (he : KeyEnc dk kf kc) (l : List (κ × ν)) (k : κ) (v : ν) {t ke ve : TypeId} {x y z : Operand} {b : Nat} (ht : P.underlying t = some (.map ke ve)) (hke : P.underlying ke = some dk)
    (hx : evP (rawOf fr) x = .map b) (hy : evP (rawOf fr) y = kf k) (hz : evP (rawOf fr) z = vf v) (hi : L[i]? = some (b, .map (l.map fun p => (kf p.1, vf p.2)))) (hN : (L.map Prod.fst).Nodup) (hbig : (mput l k v).length ≤ 140737488355328)
    (h : aopsR P ops stl r K fr (m.wth (L.set i (b, .map ((mput l k v).map fun p => (kf p.1, vf p.2)))))) :
    aopsR P ops stl (⟨none, .insert t x y z, ty, pos, af, gd⟩ :: r) K fr (m.wth L) := by
  simp only [aopsR, aopR, hg, ares, qv]
  intro n hk hn F lim w ca st
  have hopd := okOper_opd hk
  have h1 := evP_rep st (hopd x (by simp [Op.operands]))
  have h2 := evP_rep st (hopd y (by simp [Op.operands]))
  have h3 := evP_rep st (hopd z (by simp [Op.operands]))
  rw [hx] at h1
  rw [hy] at h2
  rw [hz] at h3
  have e1 : ca.eval x = .map (some b) := by generalize ca.eval x = q at h1; cases h1; rfl
  obtain ⟨w', r1, r2, r3⟩ := put_run (P := P) he st (wth_get (m := m) i hN hi) ht hke h2 h3 hbig
  rw [wth_set i hN hi] at r2
  exact ⟨.skip, undef, w', lim, _, _, by simp only [execOp, e1, Sem.run_bind, r1]; rfl, .inr ⟨rfl, rfl⟩, r2, r3, h⟩
end
end Go.Aw
namespace Go.Sx
open Go Go.Aw
section
variable {P : Program} {T : Tab} {b0 : List Nat} {fr : SFr} {L : List SObj} {m : AMem} {K : SK}
theorem mins (hT : tabOk P T = true) {κ ν : Type} [DecidableEq κ] {dk : TypeDesc} (kf : κ → AV) {kc : κ → Value} (vf : ν → AV) (he : KeyEnc dk kf kc) (l : List (κ × ν)) (k : κ) (v : ν) {t i : Nat} {ke ve : Nat} {x y z : Operand} {zz : AV} {w : SV} (hM : MpOk T t ke ve dk zz) (hx : opK fr x fun u => u = .mp i) (hi : nth L i = some (.obj (.map (l.map (mapAV kf vf)))))
    (hy : opK fr y fun u => u = .av (kf k)) (hkp : (kf k).plain = kf k) (hz : opK fr z fun u => u = w) (hw : ∀ bs, den bs w = vf v) (hbig : (mput l k v).length ≤ 140737488355328)
    (h : flK (L.set i (.obj (.map ((mput l k v).map (mapAV kf vf))))) fun L' => K fr L' m) : SOp P b0 none (.insert t x y z) fr L m K := ⟨fun new g n ops ty pos af r KK hok hn hK => by
  obtain ⟨u1, u2, z0, z1, z2⟩ := hM.get hT
  obtain ⟨v1, rfl, e1⟩ := opK_sound (b0 ++ new) hx
  obtain ⟨v2, rfl, e2⟩ := opK_sound (b0 ++ new) hy
  obtain ⟨v3, rfl, e3⟩ := opK_sound (b0 ++ new) hz
  simp only [den, hkp] at e1 e2
  rw [nth_eq] at hi
  have hD := denM_get g.len hi
  rw [flK_eq] at h
  refine aopR_sound (stl := []) hok hn ?_
  refine ar_insert (P := P) (ops := ops) (stl := []) (r := []) (K := AOps P n ops r KK) (L := denM (b0 ++ new) L) rfl i kf vf he l k v u1 u2 e1.symm e2.symm (by rw [← e3, hw]) hD g.nodup hbig ?_
  have := hK _ _ _ (b0 ++ new) (List.prefix_append _ _) (g.set i _) h
  have hset : (denM (b0 ++ new) L).set i ((b0 ++ new).getD i 0, AObj.map ((mput l k v).map fun p => (kf p.1, vf p.2))) = denM (b0 ++ new) (L.set i (.obj (.map ((mput l k v).map (mapAV kf vf))))) := by
    rcases denM_set (bs := b0 ++ new) (L := L) (i := i) (o := .obj (.map ((mput l k v).map (mapAV kf vf)))) with h | h
    · exact h
    · exfalso
      have : i < L.length := by
        rcases Nat.lt_or_ge i L.length with h | h
        · exact h
        · rw [List.getElem?_eq_none h] at hi; cases hi
      rw [g.len] at h; omega
  rw [hset]
  exact this⟩
end
end Go.Sx
end
section
namespace Go.Proofs
open Go Go.Aw
theorem Tryz.mixed : Tryz.prog.follows .mixedOrders = true := by kernel_rfl
end Go.Proofs
end
section
namespace Go.Proofs
open Go Go.RowKit
theorem wpList_append_run {P : Program} {ops : Array Oper} {rest : List Oper} {o : Oper} {a : Act} {w : World} {Q : Exit → Act → World → Prop} (hgd : o.guard = none) (sl x : Operand) (t u : TypeId)
    (ho : o.op = .call { callee := .builtin .append, args := #[sl, x], argTypes := #[t, u] }) (v y : Value) (hs : a.eval sl = v) (hx : a.eval x = y) (v' : Value) (w' : World) (hr : (Builtin.append_ #[t, u] o.type #[v, y]).run P w = .ok v' w')
    (h : wpList P ops Q rest (a.put o.dst v') w') : wpList P ops Q (o :: rest) a w := by
  refine wpList_plain hgd fun K hK => ?_
  unfold Oper.wp execOp
  simp only [ho, resolve, invoke, builtin, Sem.run_bind, Sem.run_pure, Result.andThen_ok, List.map_toArray, List.map_cons, List.map_nil, hs, hx, hr]
  exact hK _ _ h
set_option maxHeartbeats 1000000 in
set_option maxRecDepth 100000 in
theorem Tryz.copyCheck_used (b : Nat) (w : World) (h0 : w.cell? ⟨b, 0, none⟩ = some (.pointer (some ⟨b, 0, none⟩))) :
    Calls Tryz.prog 147 #[.pointer (some ⟨b, 0, none⟩)] w fun e w' => e = .returned (.tuple #[]) ∧ w' = w := by
  obtain ⟨j, hj, hjs⟩ : ∃ j, Tryz.prog.info? 112 = some j ∧ j.size = 2 := ⟨_, rfl, rfl⟩
  go_enter Tryz.func147, Tryz.ntmps147
  go_wp2
  rw [Lib.run_neq_ptr_same (tp := 109) (te := 112) w _ Tryz.underlying109 hj]
  go_wp2
  go_end0
  exact ⟨rfl, rfl⟩
set_option maxHeartbeats 1000000 in
set_option maxRecDepth 100000 in
theorem Tryz.copyCheck_fresh (b : Nat) (w : World) (h0 : w.cell? ⟨b, 0, none⟩ = some (.pointer none)) (hsh : w.shape? b = some (112, 2)) (hfz : w.frozen? ⟨b, 0, none⟩ = false) :
    Calls Tryz.prog 147 #[.pointer (some ⟨b, 0, none⟩)] w fun e w' => e = .returned (.tuple #[]) ∧ w' = w.setCell ⟨b, 0, none⟩ (.pointer (some ⟨b, 0, none⟩)) := by
  obtain ⟨j, hj, hjs⟩ : ∃ j, Tryz.prog.info? 112 = some j ∧ j.size = 2 := ⟨_, rfl, rfl⟩
  have hu : Tryz.prog.underlying 259 = some .unsafePointer := by kernel_rfl
  go_enter Tryz.func147, Tryz.ntmps147
  go_wp2
  rw [Lib.run_to_unsafe w ⟨b, 0, none⟩ Tryz.underlying109 hu hj (by rw [hjs]; decide) hsh (Nat.zero_lt_succ 1)]
  simp only [Result.andThen]
  rw [Oper.upon_value]
  go_wp2
  rw [run_callFunc_extern Tryz.func195 (by kernel_rfl) (by kernel_rfl) (by kernel_rfl) (e := Extern.AbiNoEscape.same) (by kernel_rfl)]
  rw [Lib.run_noEscape]
  simp only [Result.andThen]
  rw [Oper.upon_value]
  go_wp2
  rw [Lib.run_from_unsafe w ⟨b, 0, none⟩ hu Tryz.underlying109 hj hsh (by kernel_rfl)]
  simp only [Result.andThen]
  rw [Oper.upon_value]
  go_wp2
  go_end0
  exact ⟨rfl, rfl⟩
set_option maxHeartbeats 2000000 in
set_option maxRecDepth 100000 in
theorem Tryz.WriteString_run (b : Nat) (s : ByteArray) (w w1 w2 : World) (p : Value) (a : Option Addr) (n c : Nat) (a' : Option Addr) (n' c' : Nat) (hb : w.heap[b]? = some (.cells #[p, .slice a n c] 112 (0, 0)))
    (hp : (p = .pointer none ∧ w1 = w.setCell ⟨b, 0, none⟩ (.pointer (some ⟨b, 0, none⟩))) ∨ (p = .pointer (some ⟨b, 0, none⟩) ∧ w1 = w))
    (hA : (Builtin.append_ #[110, 9] 110 #[.slice a n c, .string s]).run Tryz.prog w1 = .ok (.slice a' n' c') w2) (h2 : w2.heap[b]? = some (.cells #[.pointer (some ⟨b, 0, none⟩), .slice a n c] 112 (0, 0))) :
    Calls Tryz.prog 80 #[.pointer (some ⟨b, 0, none⟩), .string s] w fun e w' => e = .returned (.tuple #[.int .i64 s.size, .nilIface]) ∧ w' = w2.setCell ⟨b, 1, none⟩ (.slice a' n' c') := by
  have hcc : Calls Tryz.prog 147 #[.pointer (some ⟨b, 0, none⟩)] w fun e w' => e = .returned (.tuple #[]) ∧ w' = w1 := by
    rcases hp with ⟨rfl, rfl⟩ | ⟨rfl, rfl⟩
    · exact Tryz.copyCheck_fresh b w (by rw [Lib.cell_of_heap hb]; rfl) (by simp [World.shape?, hb]) (Lib.frozen_of_heap hb 0)
    · exact Tryz.copyCheck_used b w1 (by rw [Lib.cell_of_heap hb]; rfl)
  have hb1 : w1.heap[b]? = some (.cells #[.pointer (some ⟨b, 0, none⟩), .slice a n c] 112 (0, 0)) := by
    rcases hp with ⟨rfl, rfl⟩ | ⟨rfl, rfl⟩
    · rw [heap_setCell_same _ b 0 _ 112 _ hb]; rfl
    · exact hb
  go_enter Tryz.func80, Tryz.ntmps80
  go_wp2_with (go_at_call 147; refine hcc.mono ?_)
  rintro e W ⟨rfl, rfl⟩
  have c1 : W.cell? ⟨b, 1, none⟩ = some (.slice a n c) := by rw [Lib.cell_of_heap hb1]; rfl
  have d1 : w2.cell? ⟨b, 1, none⟩ = some (.slice a n c) := by rw [Lib.cell_of_heap h2]; rfl
  have f1 : w2.frozen? ⟨b, 1, none⟩ = false := Lib.frozen_of_heap h2 1
  go_wp2_with (at_builtin; refine wpList_append_run rfl _ _ 110 9 rfl _ _ rfl rfl _ _ hA ?_)
  go_wp2
  go_ret2
  exact ⟨rfl, rfl⟩
set_option maxHeartbeats 2000000 in
set_option maxRecDepth 100000 in
theorem Tryz.String_run (b g c : Nat) (p : Value) (cur : Array Value) (l : List UInt8) (w : World) (h0 : l ≠ []) (hc0 : c ≠ 0) (h63 : l.length ≤ 9223372036854775807) (hb : w.heap[b]? = some (.cells #[p, .slice (some ⟨g, 0, none⟩) l.length c] 112 (0, 0)))
    (hg : w.heap[g]? = some (.cells cur 5 (0, 0))) (hn : l.length ≤ cur.size) (hc : ∀ j x, l[j]? = some x → w.cell? ⟨g, j, none⟩ = some (.int .u8 x.toNat)) :
    Calls Tryz.prog 58 #[.pointer (some ⟨b, 0, none⟩)] w fun e w' => e = .returned (.string ⟨l.toArray⟩) ∧ w' = w.drew.freeze ⟨g, 0, none⟩ l.length := by
  have c1 : w.drew.cell? ⟨b, 1, none⟩ = some (.slice (some ⟨g, 0, none⟩) l.length c) := by
    have : w.drew.heap[b]? = some (.cells #[p, .slice (some ⟨g, 0, none⟩) l.length c] 112 (0, 0)) := hb
    rw [Lib.cell_of_heap this]; rfl
  have hSD : (Builtin.unsafeSliceData_ #[110] 205 #[.slice (some ⟨g, 0, none⟩) l.length c]).run Tryz.prog w.drew = .ok (.pointer (some ⟨g, 0, none⟩)) w.drew :=
    Lib.run_unsafeSliceData_row _ _ _ _ _ _ hc0
  have hUS : (Builtin.unsafeString_ #[205, 3] 9 #[.pointer (some ⟨g, 0, none⟩), .int .i64 l.length]).run Tryz.prog w.drew = .ok (.string ⟨l.toArray⟩) (w.drew.freeze ⟨g, 0, none⟩ l.length) := by
    refine Lib.run_unsafeString_row w.drew 205 3 9 5 Tryz.underlying205 (by kernel_rfl) g cur.size (by have hg' : w.drew.heap[g]? = some (.cells cur 5 (0, 0)) := hg; simp [World.shape?, hg']) l h0 hn h63 ?_
    intro j x hx
    rw [Addr.add_lit, Nat.zero_add]
    exact hc j x hx
  go_enter Tryz.func58, Tryz.ntmps58
  go_wp2
  go_region
  all_goals (go_wp2; go_ret; exact ⟨rfl, rfl⟩)
set_option maxHeartbeats 2000000 in
set_option maxRecDepth 100000 in
theorem Tryz.String_nil (b : Nat) (p : Value) (w : World) (hb : w.heap[b]? = some (.cells #[p, .slice none 0 0] 112 (0, 0))) :
    Calls Tryz.prog 58 #[.pointer (some ⟨b, 0, none⟩)] w fun e w' => e = .returned (.string ⟨#[]⟩) ∧ w' = w.drew := by
  have c1 : w.drew.cell? ⟨b, 1, none⟩ = some (.slice none 0 0) := by
    have : w.drew.heap[b]? = some (.cells #[p, .slice none 0 0] 112 (0, 0)) := hb
    rw [Lib.cell_of_heap this]; rfl
  have hSD : (Builtin.unsafeSliceData_ #[110] 205 #[.slice none 0 0]).run Tryz.prog w.drew = .ok (.pointer none) w.drew := Lib.run_unsafeSliceData_nil _ _ _ _ _
  have hUS : (Builtin.unsafeString_ #[205, 3] 9 #[.pointer none, .int .i64 0]).run Tryz.prog w.drew = .ok (.string .empty) w.drew := Lib.run_unsafeString_none w.drew _ _ _ none
  go_enter Tryz.func58, Tryz.ntmps58
  go_wp2
  go_region
  all_goals (go_wp2; go_ret; exact ⟨rfl, rfl⟩)
end Go.Proofs
end
section
namespace Go.Proofs
open Go.Shelf
def Tryz.lays137_ren : Go.Shelf.Ren := ⟨fun | 137 => 175 | 217 => 213 | 266 => 232 | n => n, fun | 9 => 9 | 5 => 5 | 3 => 3 | n => n, fun | n => n⟩
theorem Tryz.lays137 : Go.Proofs.Lays.n137 Tryz.prog Tryz.lays137_ren := {
  mixed := by kernel_rfl
  f137 := Tryz.func175.trans (congrArg some (by kernel_rfl))
  f217 := Tryz.func213.trans (congrArg some (by kernel_rfl))
  f266 := Tryz.func232.trans (congrArg some (by kernel_rfl))
  t3 := Tryz.underlying3
  a3 := Tryz.isAgg3
  z3 := Tryz.sizeOf3
  v3 := Tryz.zeroValue3
  t5 := Tryz.underlying5
  a5 := Tryz.isAgg5
  z5 := Tryz.sizeOf5
  v5 := Tryz.zeroValue5
  t9 := Tryz.underlying9
  a9 := Tryz.isAgg9
  z9 := Tryz.sizeOf9
  v9 := Tryz.zeroValue9 }
open Go.RowKit in
theorem Tryz.strings_IndexByte (s : ByteArray) (c : Int) (w : World) :
    Calls Tryz.prog 175 #[.string s, .int .u8 c] w fun e w' => e = .returned (.int .i64 (Lib.indexByte s.data.toList c.toNat.toUInt8)) ∧ w' = w := Any.strings_IndexByte Tryz.lays137 s c w
def Tryz.lays172_ren : Go.Shelf.Ren := ⟨fun | 172 => 170 | 244 => 210 | 245 => 211 | 247 => 227 | 279 => 228 | 280 => 229 | 281 => 230 | 282 => 231 | 287 => 239 | 316 => 240 | 171 => 86 | 205 => 241 | 321 => 243 | 322 => 244 | 243 => 157 | 246 => 199 | 283 => 200 | 284 => 201 | 285 => 202 | 286 => 203 | 129 => 219 | 317 => 218 | 318 => 220 | 319 => 221 | 320 => 222 | 337 => 233 | 338 => 234 | n => n, fun | 9 => 9 | 3 => 3 | 75 => 34 | 76 => 159 | 4 => 4 | 5 => 5 | 167 => 287 | 37 => 110 | 0 => 0 | 85 => 288 | 2 => 2 | 168 => 290 | 53 => 173 | 175 => 294 | 46 => 246 | 210 => 297 | 127 => 205 | 145 => 308 | 143 => 306 | 21 => 21 | 171 => 263 | 173 => 266 | 212 => 281 | 51 => 268 | 20 => 20 | 213 => 282 | 232 => 299 | 233 => 300 | 80 => 114 | n => n, fun | 15 => 2 | 16 => 3 | 17 => 1 | 18 => 4 | 19 => 5 | n => n⟩
theorem Tryz.lays172 : Go.Proofs.Lays.n172 Tryz.prog Tryz.lays172_ren := {
  mixed := by kernel_rfl
  f129 := Tryz.func219.trans (congrArg some (by kernel_rfl))
  f171 := Tryz.func86.trans (congrArg some (by kernel_rfl))
  f172 := Tryz.func170.trans (congrArg some (by kernel_rfl))
  f205 := Tryz.func241.trans (congrArg some (by kernel_rfl))
  f243 := Tryz.func157.trans (congrArg some (by kernel_rfl))
  f244 := Tryz.func210.trans (congrArg some (by kernel_rfl))
  f245 := Tryz.func211.trans (congrArg some (by kernel_rfl))
  f246 := Tryz.func199.trans (congrArg some (by kernel_rfl))
  f247 := Tryz.func227.trans (congrArg some (by kernel_rfl))
  f279 := Tryz.func228.trans (congrArg some (by kernel_rfl))
  f280 := Tryz.func229.trans (congrArg some (by kernel_rfl))
  f281 := Tryz.func230.trans (congrArg some (by kernel_rfl))
  f282 := Tryz.func231.trans (congrArg some (by kernel_rfl))
  f283 := Tryz.func200.trans (congrArg some (by kernel_rfl))
  f284 := Tryz.func201.trans (congrArg some (by kernel_rfl))
  f285 := Tryz.func202.trans (congrArg some (by kernel_rfl))
  f286 := Tryz.func203.trans (congrArg some (by kernel_rfl))
  f287 := Tryz.func239.trans (congrArg some (by kernel_rfl))
  f316 := Tryz.func240.trans (congrArg some (by kernel_rfl))
  f317 := Tryz.func218.trans (congrArg some (by kernel_rfl))
  f318 := Tryz.func220.trans (congrArg some (by kernel_rfl))
  f319 := Tryz.func221.trans (congrArg some (by kernel_rfl))
  f320 := Tryz.func222.trans (congrArg some (by kernel_rfl))
  f321 := Tryz.func243.trans (congrArg some (by kernel_rfl))
  f322 := Tryz.func244.trans (congrArg some (by kernel_rfl))
  f337 := Tryz.func233.trans (congrArg some (by kernel_rfl))
  f338 := Tryz.func234.trans (congrArg some (by kernel_rfl))
  t0 := Tryz.underlying0
  a0 := Tryz.isAgg0
  z0 := Tryz.sizeOf0
  v0 := Tryz.zeroValue0
  t2 := Tryz.underlying2
  a2 := Tryz.isAgg2
  z2 := Tryz.sizeOf2
  v2 := Tryz.zeroValue2
  t3 := Tryz.underlying3
  a3 := Tryz.isAgg3
  z3 := Tryz.sizeOf3
  v3 := Tryz.zeroValue3
  t4 := Tryz.underlying4
  a4 := Tryz.isAgg4
  z4 := Tryz.sizeOf4
  v4 := Tryz.zeroValue4
  t5 := Tryz.underlying5
  a5 := Tryz.isAgg5
  z5 := Tryz.sizeOf5
  v5 := Tryz.zeroValue5
  t9 := Tryz.underlying9
  a9 := Tryz.isAgg9
  z9 := Tryz.sizeOf9
  v9 := Tryz.zeroValue9
  t20 := Tryz.underlying20
  a20 := Tryz.isAgg20
  z20 := Tryz.sizeOf20
  v20 := Tryz.zeroValue20
  t21 := Tryz.underlying21
  a21 := Tryz.isAgg21
  z21 := Tryz.sizeOf21
  v21 := Tryz.zeroValue21
  t37 := Tryz.underlying110
  a37 := Tryz.isAgg110
  z37 := Tryz.sizeOf110
  v37 := Tryz.zeroValue110
  t46 := Tryz.underlying246
  a46 := Tryz.isAgg246
  z46 := Tryz.sizeOf246
  v46 := Tryz.zeroValue246
  t51 := Tryz.underlying268
  a51 := Tryz.isAgg268
  z51 := Tryz.sizeOf268
  v51 := Tryz.zeroValue268
  t53 := Tryz.underlying173
  a53 := Tryz.isAgg173
  z53 := Tryz.sizeOf173
  v53 := Tryz.zeroValue173
  t75 := Tryz.underlying34
  a75 := Tryz.isAgg34
  z75 := Tryz.sizeOf34
  v75 := Tryz.zeroValue34
  t76 := Tryz.underlying159
  a76 := Tryz.isAgg159
  z76 := Tryz.sizeOf159
  v76 := Tryz.zeroValue159
  t85 := Tryz.underlying288
  a85 := Tryz.isAgg288
  z85 := Tryz.sizeOf288
  v85 := Tryz.zeroValue288
  t127 := Tryz.underlying205
  a127 := Tryz.isAgg205
  z127 := Tryz.sizeOf205
  v127 := Tryz.zeroValue205
  t143 := Tryz.underlying306
  a143 := Tryz.isAgg306
  z143 := Tryz.sizeOf306
  v143 := Tryz.zeroValue306
  t145 := Tryz.underlying308
  a145 := Tryz.isAgg308
  z145 := Tryz.sizeOf308
  v145 := Tryz.zeroValue308
  t167 := Tryz.underlying287
  a167 := Tryz.isAgg287
  z167 := Tryz.sizeOf287
  v167 := Tryz.zeroValue287
  t168 := Tryz.underlying290
  a168 := Tryz.isAgg290
  z168 := Tryz.sizeOf290
  v168 := Tryz.zeroValue290
  t171 := Tryz.underlying263
  a171 := Tryz.isAgg263
  z171 := Tryz.sizeOf263
  v171 := Tryz.zeroValue263
  t173 := Tryz.underlying266
  a173 := Tryz.isAgg266
  z173 := Tryz.sizeOf266
  v173 := Tryz.zeroValue266
  t175 := Tryz.underlying294
  a175 := Tryz.isAgg294
  z175 := Tryz.sizeOf294
  v175 := Tryz.zeroValue294
  t210 := Tryz.underlying297
  a210 := Tryz.isAgg297
  z210 := Tryz.sizeOf297
  v210 := Tryz.zeroValue297
  t212 := Tryz.underlying281
  a212 := Tryz.isAgg281
  z212 := Tryz.sizeOf281
  v212 := Tryz.zeroValue281
  t213 := Tryz.underlying282
  a213 := Tryz.isAgg282
  z213 := Tryz.sizeOf282
  t232 := Tryz.underlying299
  a232 := Tryz.isAgg299
  z232 := Tryz.sizeOf299
  v232 := Tryz.zeroValue299
  t233 := Tryz.underlying300
  a233 := Tryz.isAgg300
  z233 := Tryz.sizeOf300
  v233 := Tryz.zeroValue300
  g15 := by kernel_rfl
  g16 := by kernel_rfl
  g17 := by kernel_rfl
  g18 := by kernel_rfl
  g19 := by kernel_rfl }
open Go.RowKit in
theorem Tryz.strconv_Atoi (s : ByteArray) (n : Int) (hl : s.size ≤ 18) (h : Lib.atoi s.data.toList = some n) (w : World) :
    Calls Tryz.prog 170 #[.string s] w fun e w' => e = .returned (.tuple #[.int .i64 n, .nilIface]) ∧ ∃ t, w' = Lib.bytesWorld w 5 t := Any.strconv_Atoi Tryz.lays172 s n hl h w
def Tryz.laysM171_ren : Go.Shelf.Ren := ⟨fun | 171 => 86 | 243 => 157 | 246 => 199 | 283 => 200 | 284 => 201 | 285 => 202 | 286 => 203 | 129 => 219 | 317 => 218 | 318 => 220 | 319 => 221 | 320 => 222 | 337 => 233 | 338 => 234 | n => n, fun | 3 => 3 | 9 => 9 | 2 => 2 | 4 => 4 | 171 => 263 | 0 => 0 | 53 => 173 | 37 => 110 | 5 => 5 | 173 => 266 | 212 => 281 | 51 => 268 | 20 => 20 | 213 => 282 | 46 => 246 | 232 => 299 | 233 => 300 | n => n, fun | 17 => 1 | 18 => 4 | 19 => 5 | n => n⟩
theorem Tryz.laysM171 : Go.Proofs.LaysM.n171 Tryz.prog Tryz.laysM171_ren := {
  mixed := by kernel_rfl
  f129 := Tryz.func219.trans (congrArg some (by kernel_rfl))
  f171 := Tryz.func86.trans (congrArg some (by kernel_rfl))
  f243 := Tryz.func157.trans (congrArg some (by kernel_rfl))
  f246 := Tryz.func199.trans (congrArg some (by kernel_rfl))
  f283 := Tryz.func200.trans (congrArg some (by kernel_rfl))
  f284 := Tryz.func201.trans (congrArg some (by kernel_rfl))
  f285 := Tryz.func202.trans (congrArg some (by kernel_rfl))
  f286 := Tryz.func203.trans (congrArg some (by kernel_rfl))
  f317 := Tryz.func218.trans (congrArg some (by kernel_rfl))
  f318 := Tryz.func220.trans (congrArg some (by kernel_rfl))
  f319 := Tryz.func221.trans (congrArg some (by kernel_rfl))
  f320 := Tryz.func222.trans (congrArg some (by kernel_rfl))
  f337 := Tryz.func233.trans (congrArg some (by kernel_rfl))
  f338 := Tryz.func234.trans (congrArg some (by kernel_rfl))
  t0 := Tryz.underlying0
  a0 := Tryz.isAgg0
  z0 := Tryz.sizeOf0
  v0 := Tryz.zeroValue0
  t2 := Tryz.underlying2
  a2 := Tryz.isAgg2
  z2 := Tryz.sizeOf2
  v2 := Tryz.zeroValue2
  t3 := Tryz.underlying3
  a3 := Tryz.isAgg3
  z3 := Tryz.sizeOf3
  v3 := Tryz.zeroValue3
  t4 := Tryz.underlying4
  a4 := Tryz.isAgg4
  z4 := Tryz.sizeOf4
  v4 := Tryz.zeroValue4
  t5 := Tryz.underlying5
  a5 := Tryz.isAgg5
  z5 := Tryz.sizeOf5
  v5 := Tryz.zeroValue5
  t9 := Tryz.underlying9
  a9 := Tryz.isAgg9
  z9 := Tryz.sizeOf9
  v9 := Tryz.zeroValue9
  t20 := Tryz.underlying20
  a20 := Tryz.isAgg20
  z20 := Tryz.sizeOf20
  v20 := Tryz.zeroValue20
  t37 := Tryz.underlying110
  a37 := Tryz.isAgg110
  z37 := Tryz.sizeOf110
  v37 := Tryz.zeroValue110
  t46 := Tryz.underlying246
  a46 := Tryz.isAgg246
  z46 := Tryz.sizeOf246
  v46 := Tryz.zeroValue246
  t51 := Tryz.underlying268
  a51 := Tryz.isAgg268
  z51 := Tryz.sizeOf268
  v51 := Tryz.zeroValue268
  t53 := Tryz.underlying173
  a53 := Tryz.isAgg173
  z53 := Tryz.sizeOf173
  v53 := Tryz.zeroValue173
  t171 := Tryz.underlying263
  a171 := Tryz.isAgg263
  z171 := Tryz.sizeOf263
  v171 := Tryz.zeroValue263
  t173 := Tryz.underlying266
  a173 := Tryz.isAgg266
  z173 := Tryz.sizeOf266
  v173 := Tryz.zeroValue266
  t212 := Tryz.underlying281
  a212 := Tryz.isAgg281
  z212 := Tryz.sizeOf281
  v212 := Tryz.zeroValue281
  t213 := Tryz.underlying282
  a213 := Tryz.isAgg282
  z213 := Tryz.sizeOf282
  t232 := Tryz.underlying299
  a232 := Tryz.isAgg299
  z232 := Tryz.sizeOf299
  v232 := Tryz.zeroValue299
  t233 := Tryz.underlying300
  a233 := Tryz.isAgg300
  z233 := Tryz.sizeOf300
  v233 := Tryz.zeroValue300
  g17 := by kernel_rfl
  g18 := by kernel_rfl
  g19 := by kernel_rfl
  i0 := by kernel_rfl
  i2 := by kernel_rfl
  i3 := by kernel_rfl
  i4 := by kernel_rfl
  i5 := by kernel_rfl
  i9 := by kernel_rfl
  i20 := by kernel_rfl
  i37 := by kernel_rfl
  i46 := by kernel_rfl
  i51 := by kernel_rfl
  i53 := by kernel_rfl
  i171 := by kernel_rfl
  i173 := by kernel_rfl
  i212 := by kernel_rfl
  i232 := by kernel_rfl
  i233 := by kernel_rfl
  m17 := by kernel_rfl
  m18 := by kernel_rfl
  m19 := by kernel_rfl }
open Go.RowKit Go.Sort Go.Lib in
theorem Tryz.strconv_Itoa (n : Int) (h0 : -9223372036854775808 ≤ n) (h1 : n ≤ 9223372036854775807) (w : World) (htab : Lib.TabIs Tryz.prog w "internal/strconv.uint64pow10" .u64 Lib.pow10Tab) :
    Calls Tryz.prog 86 #[.int .i64 n] w fun e w' => e = .returned (.string ⟨(Lib.itoa n).toArray⟩) ∧ ∃ k os, w' = grow (w.drewN k) os := Any.strconv_Itoa Tryz.laysM171 n h0 h1 w htab
def Tryz.laysC172_ren : Go.Shelf.Ren := ⟨fun | 172 => 170 | 244 => 210 | 245 => 211 | 247 => 227 | 279 => 228 | 280 => 229 | 281 => 230 | 282 => 231 | 287 => 239 | 316 => 240 | 171 => 86 | 205 => 241 | 321 => 243 | 322 => 244 | 243 => 157 | 246 => 199 | 283 => 200 | 284 => 201 | 285 => 202 | 286 => 203 | 129 => 219 | 317 => 218 | 318 => 220 | 319 => 221 | 320 => 222 | 337 => 233 | 338 => 234 | n => n, fun | 9 => 9 | 3 => 3 | 75 => 34 | 76 => 159 | 4 => 4 | 5 => 5 | 167 => 287 | 37 => 110 | 0 => 0 | 85 => 288 | 2 => 2 | 168 => 290 | 53 => 173 | 175 => 294 | 46 => 246 | 210 => 297 | 127 => 205 | 145 => 308 | 143 => 306 | 21 => 21 | 171 => 263 | 173 => 266 | 212 => 281 | 51 => 268 | 20 => 20 | 213 => 282 | 232 => 299 | 233 => 300 | 80 => 114 | n => n, fun | 15 => 2 | 16 => 3 | 17 => 1 | 18 => 4 | 19 => 5 | n => n⟩
theorem Tryz.laysC172 : Go.Proofs.LaysC.n172 Tryz.prog Tryz.laysC172_ren := {
  mixed := by kernel_rfl
  f129 := Tryz.func219.trans (congrArg some (by kernel_rfl))
  f171 := Tryz.func86.trans (congrArg some (by kernel_rfl))
  f172 := Tryz.func170.trans (congrArg some (by kernel_rfl))
  f205 := Tryz.func241.trans (congrArg some (by kernel_rfl))
  f243 := Tryz.func157.trans (congrArg some (by kernel_rfl))
  f244 := Tryz.func210.trans (congrArg some (by kernel_rfl))
  f245 := Tryz.func211.trans (congrArg some (by kernel_rfl))
  f246 := Tryz.func199.trans (congrArg some (by kernel_rfl))
  f247 := Tryz.func227.trans (congrArg some (by kernel_rfl))
  f279 := Tryz.func228.trans (congrArg some (by kernel_rfl))
  f280 := Tryz.func229.trans (congrArg some (by kernel_rfl))
  f281 := Tryz.func230.trans (congrArg some (by kernel_rfl))
  f282 := Tryz.func231.trans (congrArg some (by kernel_rfl))
  f283 := Tryz.func200.trans (congrArg some (by kernel_rfl))
  f284 := Tryz.func201.trans (congrArg some (by kernel_rfl))
  f285 := Tryz.func202.trans (congrArg some (by kernel_rfl))
  f286 := Tryz.func203.trans (congrArg some (by kernel_rfl))
  f287 := Tryz.func239.trans (congrArg some (by kernel_rfl))
  f316 := Tryz.func240.trans (congrArg some (by kernel_rfl))
  f317 := Tryz.func218.trans (congrArg some (by kernel_rfl))
  f318 := Tryz.func220.trans (congrArg some (by kernel_rfl))
  f319 := Tryz.func221.trans (congrArg some (by kernel_rfl))
  f320 := Tryz.func222.trans (congrArg some (by kernel_rfl))
  f321 := Tryz.func243.trans (congrArg some (by kernel_rfl))
  f322 := Tryz.func244.trans (congrArg some (by kernel_rfl))
  f337 := Tryz.func233.trans (congrArg some (by kernel_rfl))
  f338 := Tryz.func234.trans (congrArg some (by kernel_rfl))
  t0 := Tryz.underlying0
  a0 := Tryz.isAgg0
  z0 := Tryz.sizeOf0
  v0 := Tryz.zeroValue0
  t2 := Tryz.underlying2
  a2 := Tryz.isAgg2
  z2 := Tryz.sizeOf2
  v2 := Tryz.zeroValue2
  t3 := Tryz.underlying3
  a3 := Tryz.isAgg3
  z3 := Tryz.sizeOf3
  v3 := Tryz.zeroValue3
  t4 := Tryz.underlying4
  a4 := Tryz.isAgg4
  z4 := Tryz.sizeOf4
  v4 := Tryz.zeroValue4
  t5 := Tryz.underlying5
  a5 := Tryz.isAgg5
  z5 := Tryz.sizeOf5
  v5 := Tryz.zeroValue5
  t9 := Tryz.underlying9
  a9 := Tryz.isAgg9
  z9 := Tryz.sizeOf9
  v9 := Tryz.zeroValue9
  t20 := Tryz.underlying20
  a20 := Tryz.isAgg20
  z20 := Tryz.sizeOf20
  v20 := Tryz.zeroValue20
  t21 := Tryz.underlying21
  a21 := Tryz.isAgg21
  z21 := Tryz.sizeOf21
  v21 := Tryz.zeroValue21
  t37 := Tryz.underlying110
  a37 := Tryz.isAgg110
  z37 := Tryz.sizeOf110
  v37 := Tryz.zeroValue110
  t46 := Tryz.underlying246
  a46 := Tryz.isAgg246
  z46 := Tryz.sizeOf246
  v46 := Tryz.zeroValue246
  t51 := Tryz.underlying268
  a51 := Tryz.isAgg268
  z51 := Tryz.sizeOf268
  v51 := Tryz.zeroValue268
  t53 := Tryz.underlying173
  a53 := Tryz.isAgg173
  z53 := Tryz.sizeOf173
  v53 := Tryz.zeroValue173
  t75 := Tryz.underlying34
  a75 := Tryz.isAgg34
  z75 := Tryz.sizeOf34
  v75 := Tryz.zeroValue34
  t76 := Tryz.underlying159
  a76 := Tryz.isAgg159
  z76 := Tryz.sizeOf159
  v76 := Tryz.zeroValue159
  t85 := Tryz.underlying288
  a85 := Tryz.isAgg288
  z85 := Tryz.sizeOf288
  v85 := Tryz.zeroValue288
  t127 := Tryz.underlying205
  a127 := Tryz.isAgg205
  z127 := Tryz.sizeOf205
  v127 := Tryz.zeroValue205
  t143 := Tryz.underlying306
  a143 := Tryz.isAgg306
  z143 := Tryz.sizeOf306
  v143 := Tryz.zeroValue306
  t145 := Tryz.underlying308
  a145 := Tryz.isAgg308
  z145 := Tryz.sizeOf308
  v145 := Tryz.zeroValue308
  t167 := Tryz.underlying287
  a167 := Tryz.isAgg287
  z167 := Tryz.sizeOf287
  v167 := Tryz.zeroValue287
  t168 := Tryz.underlying290
  a168 := Tryz.isAgg290
  z168 := Tryz.sizeOf290
  v168 := Tryz.zeroValue290
  t171 := Tryz.underlying263
  a171 := Tryz.isAgg263
  z171 := Tryz.sizeOf263
  v171 := Tryz.zeroValue263
  t173 := Tryz.underlying266
  a173 := Tryz.isAgg266
  z173 := Tryz.sizeOf266
  v173 := Tryz.zeroValue266
  t175 := Tryz.underlying294
  a175 := Tryz.isAgg294
  z175 := Tryz.sizeOf294
  v175 := Tryz.zeroValue294
  t210 := Tryz.underlying297
  a210 := Tryz.isAgg297
  z210 := Tryz.sizeOf297
  v210 := Tryz.zeroValue297
  t212 := Tryz.underlying281
  a212 := Tryz.isAgg281
  z212 := Tryz.sizeOf281
  v212 := Tryz.zeroValue281
  t213 := Tryz.underlying282
  a213 := Tryz.isAgg282
  z213 := Tryz.sizeOf282
  t232 := Tryz.underlying299
  a232 := Tryz.isAgg299
  z232 := Tryz.sizeOf299
  v232 := Tryz.zeroValue299
  t233 := Tryz.underlying300
  a233 := Tryz.isAgg300
  z233 := Tryz.sizeOf300
  v233 := Tryz.zeroValue300
  g15 := by kernel_rfl
  g16 := by kernel_rfl
  g17 := by kernel_rfl
  g18 := by kernel_rfl
  g19 := by kernel_rfl
  t80 := Tryz.underlying114
  a80 := Tryz.isAgg114
  z80 := Tryz.sizeOf114
  v80 := Tryz.zeroValue114
  i0 := by kernel_rfl
  i2 := by kernel_rfl
  i3 := by kernel_rfl
  i4 := by kernel_rfl
  i5 := by kernel_rfl
  i9 := by kernel_rfl
  i20 := by kernel_rfl
  i21 := by kernel_rfl
  i37 := by kernel_rfl
  i46 := by kernel_rfl
  i51 := by kernel_rfl
  i53 := by kernel_rfl
  i75 := by kernel_rfl
  i76 := by kernel_rfl
  i80 := by kernel_rfl
  i85 := by kernel_rfl
  i127 := by kernel_rfl
  i143 := by kernel_rfl
  i145 := by kernel_rfl
  i167 := by kernel_rfl
  i168 := by kernel_rfl
  i171 := by kernel_rfl
  i173 := by kernel_rfl
  i175 := by kernel_rfl
  i210 := by kernel_rfl
  i212 := by kernel_rfl
  i232 := by kernel_rfl
  i233 := by kernel_rfl
  m15 := by kernel_rfl
  m16 := by kernel_rfl
  m17 := by kernel_rfl
  m18 := by kernel_rfl
  m19 := by kernel_rfl
  c0 := by kernel_rfl
  c2 := by kernel_rfl
  c3 := by kernel_rfl
  c4 := by kernel_rfl
  c5 := by kernel_rfl
  c9 := by kernel_rfl
  c20 := by kernel_rfl
  c21 := by kernel_rfl
  c37 := by kernel_rfl
  c46 := by kernel_rfl
  c51 := by kernel_rfl
  c53 := by kernel_rfl
  c75 := by kernel_rfl
  c76 := by kernel_rfl
  c80 := by kernel_rfl
  c85 := by kernel_rfl
  c127 := by kernel_rfl
  c143 := by kernel_rfl
  c145 := by kernel_rfl
  c167 := by kernel_rfl
  c168 := by kernel_rfl
  c171 := by kernel_rfl
  c173 := by kernel_rfl
  c175 := by kernel_rfl
  c210 := by kernel_rfl
  c212 := by kernel_rfl
  c213 := by kernel_rfl
  c232 := by kernel_rfl
  c233 := by kernel_rfl }
open Go.RowKit in
theorem Tryz.strconv_Atoi_err (s : ByteArray) (hl : s.size ≤ 18) (h : Lib.atoi s.data.toList = none) (ev : Value) (w : World) (hv : w.cell? ⟨2, 0, none⟩ = some ev) (hev : ev = .nilIface ∨ ∃ te pe, ev = .iface te pe) :
    Calls Tryz.prog 170 #[.string s] w fun e w' => ∃ N, e = .returned (.tuple #[.int .i64 0, .iface 290 (.pointer (some ⟨N, 0, none⟩))]) ∧ w.heap.size ≤ N ∧ w'.heap[N]? = some (.cells #[.string ⟨#[65, 116, 111, 105]⟩, .string s, ev] 297 (0, 0)) ∧ Below w.heap.size w w' := Any.strconv_Atoi_err Tryz.laysC172 s hl h ev w hv hev
def Tryz.lays99_ren : Go.Shelf.Ren := ⟨fun | 99 => 174 | 206 => 212 | n => n, fun | 9 => 9 | 4 => 4 | 3 => 3 | n => n, fun | n => n⟩
theorem Tryz.lays99 : Go.Proofs.Lays.n99 Tryz.prog Tryz.lays99_ren := {
  mixed := by kernel_rfl
  f99 := Tryz.func174.trans (congrArg some (by kernel_rfl))
  f206 := Tryz.func212.trans (congrArg some (by kernel_rfl))
  t3 := Tryz.underlying3
  a3 := Tryz.isAgg3
  z3 := Tryz.sizeOf3
  v3 := Tryz.zeroValue3
  t4 := Tryz.underlying4
  a4 := Tryz.isAgg4
  z4 := Tryz.sizeOf4
  v4 := Tryz.zeroValue4
  t9 := Tryz.underlying9
  a9 := Tryz.isAgg9
  z9 := Tryz.sizeOf9
  v9 := Tryz.zeroValue9 }
open Go.RowKit Go.Lib in
theorem Tryz.strings_HasPrefix (s p : ByteArray) (w : World) :
    Calls Tryz.prog 174 #[.string s, .string p] w fun e w' => e = .returned (.bool (Lib.hasPrefix s.data.toList p.data.toList)) ∧ w' = w := Any.strings_HasPrefix Tryz.lays99 s p w
end Go.Proofs
end
section
namespace Go.Proofs
open Go Go.Aw Go.Sx
def tb : Tab := [(3, ⟨.int .i64, 1, 8, [.i .i64]⟩),
  (9, ⟨.str, 1, 16, [.s]⟩),
  (25, ⟨.st [(0, 3), (1, 3), (2, 9), (3, 22), (4, 23)], 5, 80, [.i .i64, .i .i64, .s, .l, .l]⟩),
  (29, ⟨.st [(0, 3), (1, 25), (6, 9), (7, 9), (8, 26), (9, 27)], 10, 168, [.i .i64, .i .i64, .i .i64, .s, .l, .l, .s, .s, .l, .l]⟩),
  (78, ⟨.st [(0, 3), (1, 75), (2, 76), (3, 23)], 4, 80, [.i .i64, .l, .l, .l]⟩),
  (62, ⟨.st [(0, 9), (1, 58), (2, 59), (3, 60)], 4, 88, [.s, .l, .l, .l]⟩),
  (23, ⟨.sl 168, 1, 24, [.l]⟩),
  (26, ⟨.sl 29, 1, 24, [.l]⟩),
  (27, ⟨.sl 9, 1, 24, [.l]⟩),
  (5, ⟨.int .u8, 1, 1, [.i .u8]⟩),
  (142, ⟨.st [(0, 9), (1, 9), (2, 140)], 3, 56, [.s, .s, .l]⟩),
  (165, ⟨.st [(0, 9), (1, 9), (2, 3), (3, 25)], 8, 120, [.s, .s, .i .i64, .i .i64, .i .i64, .s, .l, .l]⟩),
  (22, ⟨.sl 25, 1, 24, [.l]⟩),
  (168, ⟨.st [(0, 9), (1, 25)], 6, 96, [.s, .i .i64, .i .i64, .s, .l, .l]⟩),
  (60, ⟨.sl 145, 1, 24, [.l]⟩),
  (58, ⟨.sl 138, 1, 24, [.l]⟩),
  (59, ⟨.sl 142, 1, 24, [.l]⟩),
  (47, ⟨.sl 62, 1, 24, [.l]⟩),
  (140, ⟨.sl 144, 1, 24, [.l]⟩),
  (76, ⟨.sl 167, 1, 24, [.l]⟩),
  (110, ⟨.sl 5, 1, 24, [.l]⟩),
  (75, ⟨.sl 165, 1, 24, [.l]⟩),
  (34, ⟨.ifc, 1, 16, [.n]⟩),
  (115, ⟨.int .i64, 1, 8, [.i .i64]⟩),
  (51, ⟨.st [(0, 47), (1, 49), (2, 49)], 3, 72, [.l, .l, .l]⟩),
  (49, ⟨.sl 136, 1, 24, [.l]⟩),
  (136, ⟨.sl 3, 1, 24, [.l]⟩),
  (145, ⟨.st [(0, 9), (1, 29)], 11, 184, [.s, .i .i64, .i .i64, .i .i64, .s, .l, .l, .s, .s, .l, .l]⟩),
  (138, ⟨.st [(0, 9), (1, 25)], 6, 96, [.s, .i .i64, .i .i64, .s, .l, .l]⟩),
  (167, ⟨.st [(0, 3), (1, 165), (9, 9)], 10, 144, [.i .i64, .s, .s, .i .i64, .i .i64, .i .i64, .s, .l, .l, .s]⟩),
  (144, ⟨.st [(0, 9), (1, 29)], 11, 184, [.s, .i .i64, .i .i64, .i .i64, .s, .l, .l, .s, .s, .l, .l]⟩),
  (122, ⟨.sl 209, 1, 24, [.l]⟩),
  (127, ⟨.st [(0, 122), (1, 3), (2, 3), (3, 34), (4, 3)], 5, 64, [.l, .i .i64, .i .i64, .n, .i .i64]⟩),
  (134, ⟨.st [(0, 122), (1, 3), (2, 3), (3, 3), (4, 3)], 5, 56, [.l, .i .i64, .i .i64, .i .i64, .i .i64]⟩),
  (173, ⟨.int .u64, 1, 8, [.i .u64]⟩),
  (112, ⟨.st [(0, 109), (1, 110)], 2, 32, []⟩),
  (202, ⟨.st [(0, 9), (1, 9), (2, 9), (3, 3)], 4, 56, [.s, .s, .s, .i .i64]⟩),
  (178, ⟨.mp 9 9, 1, 8, [.m]⟩),
  (84, ⟨.ptr, 1, 8, [.p]⟩),
  (109, ⟨.ptr, 1, 8, [.p]⟩),
  (150, ⟨.st [(0, 51)], 3, 72, [.l, .l, .l]⟩),
  (209, ⟨.st [(0, 3), (1, 3), (2, 9)], 3, 32, [.i .i64, .i .i64, .s]⟩),
  (4, ⟨.bool, 1, 1, [.b]⟩),
  (276, ⟨.st [(0, 49)], 1, 24, [.l]⟩),
  (185, ⟨.sl 184, 1, 24, [.l]⟩),
  (181, ⟨.st [(0, 178), (1, 178), (2, 179), (3, 3), (4, 4), (5, 3)], 6, 64, [.m, .m, .l, .i .i64, .b, .i .i64]⟩),
  (204, ⟨.mp 3 9, 1, 8, [.m]⟩),
  (184, ⟨.oth, 1, 8, [.f]⟩),
  (205, ⟨.ptr, 1, 8, [.p]⟩),
  (179, ⟨.sl 202, 1, 24, [.l]⟩)]
theorem tbOk : tabOk Tryz.prog tb = true := by decide +kernel
end Go.Proofs
end
section
namespace Go.Proofs
open Go Go.Aw Go.Sx
set_option maxRecDepth 100000
abbrev Str := List UInt8
noncomputable def cf (w st jr xs cv bs : List Nat) : Cfg := ⟨Tryz.prog, tb, 115, w, st, jr, xs, cv, bs⟩
theorem take_succ_gI {α : Type} [Inhabited α] {l : List α} {i : Int} (h0 : 0 ≤ i) (hi : i < l.length) : l.take (i + 1).toNat = l.take i.toNat ++ [gI l i] := by
  have e : (i + 1).toNat = i.toNat + 1 := by omega
  have hn : i.toNat < l.length := by omega
  rw [e, List.take_succ_eq_append_getElem hn]
  simp [gI, List.getD_eq_getElem?_getD, hn]
theorem gI_mem {α : Type} [Inhabited α] {l : List α} {i : Int} (h0 : 0 ≤ i) (hi : i < l.length) : gI l i ∈ l := by
  simp only [gI, List.getD_eq_getElem?_getD, List.getElem?_eq_getElem (show i.toNat < l.length by omega), Option.getD_some]
  exact List.getElem_mem _
theorem take_full {α : Type} {l : List α} {i : Int} (hi : l.length ≤ i) : l.take i.toNat = l := List.take_of_length_le (by omega)
inductive Val where
  | mk (kind n : Int) (s : Str) (l : List Val) (f : List (Str × Val))
instance : Inhabited Val := ⟨.mk 0 0 [] [] []⟩
def Val.kind : Val → Int | .mk k _ _ _ _ => k
def Val.n : Val → Int | .mk _ n _ _ _ => n
def Val.s : Val → Str | .mk _ _ s _ _ => s
def Val.l : Val → List Val | .mk _ _ _ l _ => l
def Val.f : Val → List (Str × Val) | .mk _ _ _ _ f => f
mutual
def valIn : Val → AV
  | .mk k n s l f => .agg [.int .i64 k, .int .i64 n, .str s, .slice false (valsIn l), .slice false (fldsIn f)]
def valsIn : List Val → List AV
  | [] => []
  | v :: r => valIn v :: valsIn r
def fldsIn : List (Str × Val) → List AV
  | [] => []
  | (s, .mk k n t l f) :: r => .agg [.str s, .int .i64 k, .int .i64 n, .str t, .slice false (valsIn l), .slice false (fldsIn f)] :: fldsIn r
end
def fldIn (p : Str × Val) : AV := .agg (.str p.1 :: (valIn p.2).cells)
theorem valsIn_eq (l : List Val) : valsIn l = l.map valIn := by
  induction l with
  | nil => rfl
  | cons v r ih => simp only [valsIn, List.map_cons, ih]
theorem fldsIn_eq (l : List (Str × Val)) : fldsIn l = l.map fldIn := by
  induction l with
  | nil => rfl
  | cons v r ih =>
    obtain ⟨s, v⟩ := v
    cases v with
    | mk k n t l f => simp only [fldsIn, List.map_cons, ih, fldIn, valIn, AV.cells]
def valTop (v : Val) : AV := .agg [.int .i64 v.kind, .int .i64 v.n, .str v.s, .slice false (v.l.map valIn), .slice false (v.f.map fldIn)]
def fldTop (p : Str × Val) : AV := .agg [.str p.1, .int .i64 p.2.kind, .int .i64 p.2.n, .str p.2.s, .slice false (p.2.l.map valIn), .slice false (p.2.f.map fldIn)]
theorem valIn_eq (v : Val) : valIn v = valTop v := by
  cases v with
  | mk k n s l f => simp only [valIn, valTop, valsIn_eq, fldsIn_eq, Val.kind, Val.n, Val.s, Val.l, Val.f]
theorem fldIn_eq (p : Str × Val) : fldIn p = fldTop p := by
  rw [fldIn, valIn_eq]; rfl
mutual
def weightV (most : Int) : Val → Int
  | .mk _ _ s l f => weightF most f (weightL most l (1 + s.length))
def weightL (most : Int) : List Val → Int → Int
  | [], n => n
  | v :: r, n => if n ≤ most then weightL most r (IntKind.i64.wrap (n + weightV most v)) else n
def weightF (most : Int) : List (Str × Val) → Int → Int
  | [], n => n
  | (s, .mk _ _ t l f) :: r, n => if n ≤ most then weightF most r (IntKind.i64.wrap (IntKind.i64.wrap (n + s.length) + weightF most f (weightL most l (1 + t.length)))) else n
end
theorem weightV_eq (most : Int) (v : Val) : weightV most v = weightF most v.f (weightL most v.l (1 + v.s.length)) := by
  cases v with
  | mk k n s l f => simp only [weightV, Val.f, Val.l, Val.s]
theorem weightF_cons (most : Int) (p : Str × Val) (r : List (Str × Val)) (n : Int) : weightF most (p :: r) n = if n ≤ most then weightF most r (IntKind.i64.wrap (IntKind.i64.wrap (n + p.1.length) + weightV most p.2)) else n := by
  obtain ⟨s, v⟩ := p
  cases v with
  | mk k n t l f => simp only [weightF, weightV]
theorem weightL_stop (most : Int) (l : List Val) (n : Int) (h : most < n) : weightL most l n = n := by
  cases l with
  | nil => simp only [weightL]
  | cons v r => simp only [weightL]; rw [if_neg (by omega)]
theorem weightF_stop (most : Int) (l : List (Str × Val)) (n : Int) (h : most < n) : weightF most l n = n := by
  cases l with
  | nil => simp only [weightF]
  | cons v r => rw [weightF_cons, if_neg (by omega)]
theorem drop_gI {α : Type} [Inhabited α] {l : List α} {i : Int} (h0 : 0 ≤ i) (hi : i < l.length) : l.drop i.toNat = gI l i :: l.drop (i + 1).toNat := by
  have h : i.toNat < l.length := by omega
  have e : (i + 1).toNat = i.toNat + 1 := by omega
  rw [List.drop_eq_getElem_cons h, e]
  simp [gI, List.getD_eq_getElem?_getD, h]
mutual
def depV : Val → Nat
  | .mk _ _ _ l f => depL l + depF f + 1
def depL : List Val → Nat
  | [] => 0
  | v :: r => depV v + depL r
def depF : List (Str × Val) → Nat
  | [] => 0
  | (_, .mk _ _ _ l f) :: r => depL l + depF f + 1 + depF r
end
theorem depL_mem {l : List Val} {v : Val} (h : v ∈ l) : depV v ≤ depL l := by
  induction l with
  | nil => cases h
  | cons a r ih =>
    simp only [depL]
    rcases List.mem_cons.1 h with rfl | h
    · omega
    · have := ih h; omega
theorem depF_mem {l : List (Str × Val)} {p : Str × Val} (h : p ∈ l) : depV p.2 ≤ depF l := by
  induction l with
  | nil => cases h
  | cons a r ih =>
    obtain ⟨s, v⟩ := a
    cases v with
    | mk k n t l f =>
      simp only [depF]
      rcases List.mem_cons.1 h with rfl | h
      · simp only [depV]; omega
      · have := ih h; omega
theorem depV_eq (v : Val) : depV v = depL v.l + depF v.f + 1 := by
  cases v with
  | mk k n s l f => simp only [depV, Val.l, Val.f]
set_option maxHeartbeats 4000000 in
theorem u_weight1 (v : Val) (most : Int) (ih : ∀ w : Val, depV w < depV v → ∀ (m : AMem) (K : AV → AMem → Prop), K (.int .i64 (weightV most w)) m → ACalls Tryz.prog 71 [valTop w, .int .i64 most] m K) (m : AMem)  (K : AV → AMem → Prop) (hK : K (.int .i64 (weightV most v)) m) : ACalls Tryz.prog 71 [valTop v, .int .i64 most] m K := by
 refine enter (c := cf [32, 53, 62] [0] [3, 7] [] [] []) (vs := [.av (valTop v), .av (.int .i64 most)]) (L := []) (m := m) false tbOk Tryz.mixed Tryz.func71 rfl (k := 2) (by show fnOk [] _ _ _ = true; decide +kernel) rfl (Good.nil m) ?_
 refine ⟨fun F0 => ?_⟩
 have hbd0_2 : v.s.length ≤ 140737488355328 := (F0 0 2 (Nat.le_of_ble_eq_true rfl))
 have hbd0_3 : v.l.length ≤ 140737488355328 := bd_map (F0 0 3 (Nat.le_of_ble_eq_true rfl))
 have hbd0_4 : v.f.length ≤ 140737488355328 := bd_map (F0 0 4 (Nat.le_of_ble_eq_true rfl))
 refine an (by omega) ?_
 refine sq ?_
 refine lp (σ := Int × Int) [] [1, 2, 5, 6] 1 (fun ⟨n_, i⟩ => ([(1, vI most), (2, .loc 0 0), (5, vI n_), (6, vI i)], [.cells [vI v.kind, vI v.n, vS v.s, vL (v.l.map valIn), vL (v.f.map fldIn)]], m)) (fun ⟨n_, i⟩ => 0 ≤ i ∧ i ≤ v.l.length ∧ weightL most v.l (1 + v.s.length) = weightL most (v.l.drop i.toNat) n_) (fun ⟨n_, i⟩ => v.l.length - i.toNat) (1 + (v.s.length : Int), 0) ⟨rfl, rfl⟩ ?_ ?_
 · try dsimp only
   exact ⟨by omega, by omega, rfl⟩
 rintro ⟨n_, i⟩ hI
 dsimp only at hI
 refine sq ?_
 refine mg [1, 2, 5, 6] 21 ((decide (i < (v.l.length : Int))) && (decide (n_ ≤ most))) ?_ ?_
 · repeat' first
    | exact ⟨⟨_, rfl, by grind [SB.val]⟩, rfl⟩
    | refine an (fun _ => ?_) (fun _ => ?_)
    | refine ln ?_
 refine an (fun h1 => ?_) (fun h1 => ?_)
 · replace h1 : (i < (v.l.length : Int)) ∧ (n_ ≤ most) := ⟨(of_decide_eq_true (bandL h1)), (of_decide_eq_true (bandR h1))⟩
   refine sq ?_
   refine ixg valTop valIn_eq (by omega) ?_
   refine call0 (fun _ => ih (gI v.l i) (by have := depV_eq v; first | (have := depL_mem (gI_mem (l := v.l) (i := i) hI.1 h1.1); omega) | (have := depF_mem (gI_mem (l := v.f) (i := k) hI2.1 h2.1); omega))) rfl ?_
   refine an (by omega) ?_
   refine ⟨(IntKind.i64.wrap (n_ + (weightV most (gI v.l i))), i + 1), ⟨rfl, rfl⟩, ?_, ?_⟩
   · try dsimp only
     refine ⟨by omega, by omega, ?_⟩
     rw [hI.2.2, drop_gI hI.1 h1.1]
     simp only [weightL]
     rw [if_pos h1.2]
   try dsimp only
   omega
 replace h1 : ((v.l.length : Int) ≤ i) ∨ (most < n_) := ((bandF h1).imp (fun q => (Int.not_lt.1 (of_decide_eq_false q))) (fun q => (Int.not_le.1 (of_decide_eq_false q))))
 refine sq ?_
 refine lp (σ := Int × Int) [] [1, 2, 5, 7] 1 (fun ⟨n2, k⟩ => ([(1, vI most), (2, .loc 0 0), (5, vI n2), (7, vI k)], [.cells [vI v.kind, vI v.n, vS v.s, vL (v.l.map valIn), vL (v.f.map fldIn)]], m)) (fun ⟨n2, k⟩ => 0 ≤ k ∧ k ≤ v.f.length ∧ weightV most v = weightF most (v.f.drop k.toNat) n2) (fun ⟨n2, k⟩ => v.f.length - k.toNat) (n_, 0) ⟨rfl, rfl⟩ ?_ ?_
 · try dsimp only
   refine ⟨by omega, by omega, ?_⟩
   have e : weightL most (v.l.drop i.toNat) n_ = n_ := by
     by_cases hn : most < n_
     · exact weightL_stop _ _ _ hn
     · have hi : (v.l.length : Int) ≤ i := by
         rcases h1 with h | h <;> omega
       rw [List.drop_eq_nil_of_le (by omega)]; simp only [weightL]
   rw [weightV_eq, hI.2.2, e]; rfl
 rintro ⟨n2, k⟩ hI2
 dsimp only at hI2
 refine sq ?_
 refine mg [1, 2, 5, 7] 42 ((decide (k < (v.f.length : Int))) && (decide (n2 ≤ most))) ?_ ?_
 · repeat' first
    | exact ⟨⟨_, rfl, by grind [SB.val]⟩, rfl⟩
    | refine an (fun _ => ?_) (fun _ => ?_)
    | refine ln ?_
 refine an (fun h2 => ?_) (fun h2 => ?_)
 · replace h2 : (k < (v.f.length : Int)) ∧ (n2 ≤ most) := ⟨(of_decide_eq_true (bandL h2)), (of_decide_eq_true (bandR h2))⟩
   refine sq ?_
   refine ixg fldTop fldIn_eq (by omega) ?_
   refine ixg fldTop fldIn_eq (by omega) ?_
   refine pure0 (fun _ => ih ((gI v.f k).2) (by have := depV_eq v; first | (have := depL_mem (gI_mem (l := v.l) (i := i) hI.1 h1.1); omega) | (have := depF_mem (gI_mem (l := v.f) (i := k) hI2.1 h2.1); omega))) ?_
   refine an (by omega) ?_
   refine ⟨(IntKind.i64.wrap ((IntKind.i64.wrap (n2 + (((gI v.f k).1).length : Int))) + (weightV most ((gI v.f k).2))), k + 1), ⟨rfl, rfl⟩, ?_, ?_⟩
   · try dsimp only
     exact ⟨by omega, by omega, by rw [hI2.2.2, drop_gI hI2.1 h2.1, weightF_cons, if_pos h2.2]⟩
   try dsimp only
   omega
 replace h2 : ((v.f.length : Int) ≤ k) ∨ (most < n2) := ((bandF h2).imp (fun q => (Int.not_lt.1 (of_decide_eq_false q))) (fun q => (Int.not_le.1 (of_decide_eq_false q))))
 refine rt0 rfl fun _ => ?_
 show K (.int .i64 n2) m
 have e : weightV most v = n2 := by
   rw [hI2.2.2]
   by_cases hn : most < n2
   · exact weightF_stop _ _ _ hn
   · have hi : (v.f.length : Int) ≤ k := by
       rcases h2 with h | h <;> omega
     rw [List.drop_eq_nil_of_le (by omega)]; simp only [weightF]
 rw [e] at hK; exact hK
theorem u_weight (most : Int) : ∀ (n : Nat) (v : Val), depV v < n → ∀ (m : AMem) (K : AV → AMem → Prop), K (.int .i64 (weightV most v)) m → ACalls Tryz.prog 71 [valTop v, .int .i64 most] m K
  | 0, _, h => absurd h (Nat.not_lt_zero _)
  | n + 1, v, h => fun m K hK => u_weight1 v most (fun w hw => u_weight most n w (by omega)) m K hK
end Go.Proofs
end
section
namespace Go.Proofs
open Go Go.Aw Go.Sx
set_option maxRecDepth 100000
theorem depL_len (l : List Val) : l.length ≤ depL l := by
  induction l with
  | nil => exact Nat.le_refl _
  | cons v r ih => have := depV_eq v; simp only [depL, List.length_cons]; omega
theorem depF_len (l : List (Str × Val)) : l.length ≤ depF l := by
  induction l with
  | nil => exact Nat.le_refl _
  | cons p r ih =>
    obtain ⟨s, v⟩ := p
    cases v with
    | mk k n t l f => simp only [depF, List.length_cons]; omega
def letC (c : UInt8) : Bool := decide (97 ≤ (c.toNat : Int)) && decide ((c.toNat : Int) ≤ 122)
def digC (c : UInt8) : Bool := decide (48 ≤ (c.toNat : Int)) && decide ((c.toNat : Int) ≤ 57)
def nmF : Str → Bool → Bool
  | [], _ => true
  | c :: r, first => (letC c || (!first && digC c)) && nmF r false
def nameV (s : Str) : Bool := nmF s true && !(s == []) && decide ((s.length : Int) ≤ 12)
theorem nmF_step {s : Str} {i : Int} (h0 : 0 ≤ i) (hi : i < s.length) : nmF (s.drop i.toNat) (i == 0) = ((letC (gI s i) || (!(i == 0) && digC (gI s i))) && nmF (s.drop (i + 1).toNat) (i + 1 == 0)) := by
  have e : (i + 1 == 0) = false := by simp; omega
  rw [drop_gI h0 hi, nmF, e]
set_option maxHeartbeats 2000000 in
theorem u_VName (s : Str) (hs : s.length ≤ 140737488355328) (m : AMem)  (K : AV → AMem → Prop) (hK : K (.bool (nameV s)) m) : ACalls Tryz.prog 77 [.str s] m K := by
 refine enter (c := cf [] [] [5, 8] [] [] []) (vs := [.av (.str s)]) (L := []) (m := m) false tbOk Tryz.mixed Tryz.func77 rfl (k := 1) (by show fnOk [] _ _ _ = true; decide +kernel) rfl (Good.nil m) ?_
 refine sq ?_
 refine lp (σ := Int) [] [0, 6, 7] 0 (fun i => ([(0, vS s), (6, vI (s.length : Int)), (7, vI i)], [], m)) (fun i => 0 ≤ i ∧ i ≤ s.length ∧ nmF s true = nmF (s.drop i.toNat) (i == 0)) (fun i => s.length - i.toNat) (0) ⟨rfl, rfl⟩ ?_ ?_
 · try dsimp only
   exact ⟨by omega, by omega, by simp⟩
 rintro i hI
 refine sq ?_
 refine an (fun h1 => ?_) (fun h1 => ?_)
 · refine sq ?_
   refine an (by omega) ?_
   refine mg [0, 6, 7] 30 (((decide (((gI s i).toNat : Int) < 97)) || (decide (122 < ((gI s i).toNat : Int)))) && (((i == 0) || (decide (((gI s i).toNat : Int) < 48))) || (decide (57 < ((gI s i).toNat : Int))))) ?_ ?_
   · repeat' first
      | exact ⟨⟨_, rfl, by grind [SB.val]⟩, rfl⟩
      | refine an (fun _ => ?_) (fun _ => ?_)
   refine an (fun h2 => ?_) (fun h2 => ?_)
   · replace h2 : ((((gI s i).toNat : Int) < 97) ∨ (122 < ((gI s i).toNat : Int))) ∧ (((i = 0) ∨ (((gI s i).toNat : Int) < 48)) ∨ (57 < ((gI s i).toNat : Int))) := ⟨((borT (bandL h2)).imp (fun q => (of_decide_eq_true q)) (fun q => (of_decide_eq_true q))), ((borT (bandR h2)).imp (fun q => ((borT q).imp (fun q => (eq_of_beq q)) (fun q => (of_decide_eq_true q)))) (fun q => (of_decide_eq_true q)))⟩
     refine rt0 rfl fun _ => K_eq hK ?_
     show AV.bool (nameV s) = AV.bool false
     refine congrArg AV.bool ?_
     have hb : (letC (gI s i) || (!(i == 0) && digC (gI s i))) = false := by
       rw [Bool.eq_false_iff]; intro hh; simp [letC, digC] at hh; omega
     rw [nameV, hI.2.2, nmF_step hI.1 h1, hb]; rfl
   replace h2 : ((97 ≤ ((gI s i).toNat : Int)) ∧ (((gI s i).toNat : Int) ≤ 122)) ∨ (((i ≠ 0) ∧ (48 ≤ ((gI s i).toNat : Int))) ∧ (((gI s i).toNat : Int) ≤ 57)) := ((bandF h2).imp (fun q => ⟨(Int.not_lt.1 (of_decide_eq_false (borL q))), (Int.not_lt.1 (of_decide_eq_false (borR q)))⟩) (fun q => ⟨⟨(ne_of_beq_false (borL (borL q))), (Int.not_lt.1 (of_decide_eq_false (borR (borL q))))⟩, (Int.not_lt.1 (of_decide_eq_false (borR q)))⟩))
   refine an (by omega) ?_
   refine ⟨(i + 1), ⟨rfl, rfl⟩, ?_, ?_⟩
   · try dsimp only
     have hb : (letC (gI s i) || (!(i == 0) && digC (gI s i))) = true := by simp [letC, digC]; omega
     exact ⟨by omega, by omega, by rw [hI.2.2, nmF_step hI.1 h1, hb]; rfl⟩
   try dsimp only
   omega
 refine mg [] 2 ((!(s == ([]))) && (decide ((s.length : Int) ≤ 12))) ?_ ?_
 · repeat' first
    | exact ⟨⟨_, rfl, by grind [SB.val]⟩, rfl⟩
    | refine an (fun _ => ?_) (fun _ => ?_)
 refine rt0 rfl fun _ => K_eq hK ?_
 show AV.bool (nameV s) = AV.bool ((!(s == ([]))) && (decide ((s.length : Int) ≤ 12)))
 refine congrArg AV.bool ?_
 have ha : nmF s true = true := by rw [hI.2.2, List.drop_eq_nil_of_le (by omega)]; rfl
 rw [nameV, ha]; cases s <;> simp
mutual
def okV : Val → Prop
  | .mk _ _ _ l f => (l.length ≤ 1759218604441 ∧ f.length ≤ 1466015503701) ∧ okVL l ∧ okVF f
def okVL : List Val → Prop
  | [] => True
  | v :: r => okV v ∧ okVL r
def okVF : List (Str × Val) → Prop
  | [] => True
  | (_, .mk _ _ _ l f) :: r => ((l.length ≤ 1759218604441 ∧ f.length ≤ 1466015503701) ∧ okVL l ∧ okVF f) ∧ okVF r
end
theorem okV_eq (v : Val) : okV v ↔ (v.l.length ≤ 1759218604441 ∧ v.f.length ≤ 1466015503701) ∧ okVL v.l ∧ okVF v.f := by
  cases v with
  | mk k n s l f => simp only [okV, Val.l, Val.f]
theorem okVL_iff (l : List Val) : okVL l ↔ ∀ v ∈ l, okV v := by
  induction l with
  | nil => simp [okVL]
  | cons v r ih => simp [okVL, ih]
theorem okVF_iff (l : List (Str × Val)) : okVF l ↔ ∀ p ∈ l, okV p.2 := by
  induction l with
  | nil => simp [okVF]
  | cons p r ih =>
    obtain ⟨s, v⟩ := p
    cases v with
    | mk k n t l f => simp [okVF, okV, ih]
theorem okV_iff (v : Val) : okV v ↔ (v.l.length ≤ 1759218604441 ∧ v.f.length ≤ 1466015503701) ∧ (∀ w ∈ v.l, okV w) ∧ ∀ p ∈ v.f, okV p.2 := by
  rw [okV_eq, okVL_iff, okVF_iff]
theorem okV_small : ∀ (n : Nat) (v : Val), depV v < n → depV v ≤ 1000000000 → okV v
  | 0, _, h, _ => absurd h (Nat.not_lt_zero _)
  | n + 1, v, h, hz => by
    have e := depV_eq v
    have h1 := depL_len v.l
    have h2 := depF_len v.f
    rw [okV_iff]
    exact ⟨⟨by omega, by omega⟩, fun w hw => okV_small n w (by have := depL_mem hw; omega) (by have := depL_mem hw; omega), fun p hp => okV_small n p.2 (by have := depF_mem hp; omega) (by have := depF_mem hp; omega)⟩
end Go.Proofs
end
section
namespace Go.Proofs
open Go Go.Aw Go.Sx
set_option maxRecDepth 100000
set_option maxHeartbeats 4000000 in
theorem u_Copy1 (v : Val) (hz : okV v) (ih : ∀ w : Val, depV w < depV v → okV w → ∀ (m : AMem) (K : AV → AMem → Prop), K (valTop w) m → ACalls Tryz.prog 63 [valTop w] m K) (m : AMem)  (K : AV → AMem → Prop) (hK : K (valTop v) m) : ACalls Tryz.prog 63 [valTop v] m K := by
 have hok := (okV_iff v).1 hz
 have hl1 := hok.1.1
 have hf1 := hok.1.2
 refine enter (c := cf [] [] [] [6999, 11999] [6, 11] []) (vs := [.av (valTop v)]) (L := []) (m := m) false tbOk Tryz.mixed Tryz.func63 rfl (k := 1) (by show fnOk [6999, 11999] _ _ _ = true; decide +kernel) rfl (Good.nil m) ?_
 refine sq ?_
 refine ln ?_
 refine lp (σ := Int × (List Val)) [] [1, 2, 4, 15, 16, 17] 2 (fun ⟨i, ol⟩ => ([(1, .loc 0 0), (2, .loc 1 0), (4, vL (v.f.map fldIn)), (15, vL (v.l.map valIn)), (16, vI (v.l.length : Int)), (17, vI i)], [.cells [vI v.kind, vI v.n, vS v.s, .own (ol.map valIn), .own []], .cells [vI 0, vI 0, vS ([]), .own [], .own []]], m)) (fun ⟨i, ol⟩ => 0 ≤ i ∧ i ≤ v.l.length ∧ ol = v.l.take i.toNat) (fun ⟨i, ol⟩ => v.l.length - i.toNat) (0, []) ⟨rfl, rfl⟩ ?_ ?_
 · try dsimp only
   exact ⟨by omega, by omega, rfl⟩
 rintro ⟨i, ol⟩ hI
 dsimp only at hI
 have hol : ol.length ≤ v.l.length := by rw [hI.2.2, List.length_take]; omega
 have hol2 : (ol.length : Int) ≤ i := by rw [hI.2.2, List.length_take]; omega
 refine sq ?_
 refine an (fun h1 => ?_) (fun h1 => ?_)
 · refine sq ?_
   refine ixg valTop valIn_eq (by omega) ?_
   refine rgA tbOk Tryz.mixed (σ := Unit) (.f 0 (.o 1 (.s 2 (.s 3 (.s 4 (.s 5 (.f 6 (.s 7 .d)))))) (.o 2 (.o 1 (.s 3 (.s 4 (.s 5 (.f 6 (.s 7 .d))))) (.o 3 (.o 1 (.s 4 (.s 5 (.f 6 (.s 7 .d)))) (.o 4 (.s 1 (.s 5 (.f 6 (.s 7 .d)))) .z)) .z)) .z))) [] [1, 2, 4, 15, 16, 17] 3 (fun _ => ([(1, .loc 0 0), (2, .loc 1 0), (4, vL (v.f.map fldIn)), (15, vL (v.l.map valIn)), (16, vI (v.l.length : Int)), (17, vI i)], [.cells [vI v.kind, vI v.n, vS v.s, .own ((ol ++ ([(gI v.l i)] : List Val)).map valIn), .own []], .cells [vI 0, vI 0, vS ([]), .own [], .own []], .cells [vI ((gI v.l i).kind), vI ((gI v.l i).n), vS ((gI v.l i).s), vL (((gI v.l i).l).map valIn), vL (((gI v.l i).f).map fldIn)]], m)) (fun _ => True) (by decide +kernel) ?_ ?_
   · rintro _ hy6
     try dsimp only at hy6
     refine an (by omega) ?_
     refine ⟨(i + 1, ol ++ ([(gI v.l i)] : List Val)), ⟨rfl, rfl⟩, ?_, ?_⟩
     · try dsimp only
       exact ⟨by omega, by omega, by rw [take_succ_gI hI.1 (by assumption), ← hI.2.2]⟩
     try dsimp only
     omega
   refine ⟨?_, ?_, trivial⟩
   · refine call0 (fun _ => ih (gI v.l i) (by have := depV_eq v; first | (have := depL_mem (gI_mem (l := v.l) (i := i) hI.1 (by assumption)); omega) | (have := depF_mem (gI_mem (l := v.f) (i := k) hI2.1 (by assumption)); omega)) (by first | exact hok.2.1 _ (gI_mem (l := v.l) (i := i) hI.1 (by assumption)) | exact hok.2.2 _ (gI_mem (l := v.f) (i := k) hI2.1 (by assumption)))) rfl ?_
     refine ap valIn ol ([(gI v.l i)] : List Val) rfl (by simp only [List.map_cons, List.map_nil, valIn_eq]; try rfl) (fun a => by rw [valIn_eq]; exact ⟨rfl, rfl⟩) (by (simp only [List.length_append, List.length_cons, List.length_nil]; omega)) ?_
     refine ⟨(), ⟨rfl, rfl⟩, ?_⟩
     trivial
   · refine ⟨?_, ?_, trivial⟩
     · refine call0 (fun _ => ih (gI v.l i) (by have := depV_eq v; first | (have := depL_mem (gI_mem (l := v.l) (i := i) hI.1 (by assumption)); omega) | (have := depF_mem (gI_mem (l := v.f) (i := k) hI2.1 (by assumption)); omega)) (by first | exact hok.2.1 _ (gI_mem (l := v.l) (i := i) hI.1 (by assumption)) | exact hok.2.2 _ (gI_mem (l := v.f) (i := k) hI2.1 (by assumption)))) rfl ?_
       refine ap valIn ol ([(gI v.l i)] : List Val) rfl (by simp only [List.map_cons, List.map_nil, valIn_eq]; try rfl) (fun a => by rw [valIn_eq]; exact ⟨rfl, rfl⟩) (by (simp only [List.length_append, List.length_cons, List.length_nil]; omega)) ?_
       refine ⟨(), ⟨rfl, rfl⟩, ?_⟩
       trivial
     · refine call0 (fun _ => ih (gI v.l i) (by have := depV_eq v; first | (have := depL_mem (gI_mem (l := v.l) (i := i) hI.1 (by assumption)); omega) | (have := depF_mem (gI_mem (l := v.f) (i := k) hI2.1 (by assumption)); omega)) (by first | exact hok.2.1 _ (gI_mem (l := v.l) (i := i) hI.1 (by assumption)) | exact hok.2.2 _ (gI_mem (l := v.f) (i := k) hI2.1 (by assumption)))) rfl ?_
       refine ⟨?_, ?_, trivial⟩
       · refine ap valIn ol ([(gI v.l i)] : List Val) rfl (by simp only [List.map_cons, List.map_nil, valIn_eq]; try rfl) (fun a => by rw [valIn_eq]; exact ⟨rfl, rfl⟩) (by (simp only [List.length_append, List.length_cons, List.length_nil]; omega)) ?_
         refine ⟨(), ⟨rfl, rfl⟩, ?_⟩
         trivial
       · refine ap valIn ol ([(gI v.l i)] : List Val) rfl (by simp only [List.map_cons, List.map_nil, valIn_eq]; try rfl) (fun a => by rw [valIn_eq]; exact ⟨rfl, rfl⟩) (by (simp only [List.length_append, List.length_cons, List.length_nil]; omega)) ?_
         refine ⟨(), ⟨rfl, rfl⟩, ?_⟩
         trivial
 refine sq ?_
 refine ln ?_
 refine lp (σ := Int × (List (Str × Val))) [] [1, 2, 29, 30, 31] 2 (fun ⟨k, of⟩ => ([(1, .loc 0 0), (2, .loc 1 0), (29, vL (v.f.map fldIn)), (30, vI (v.f.length : Int)), (31, vI k)], [.cells [vI v.kind, vI v.n, vS v.s, .own (ol.map valIn), .own (of.map fldIn)], .cells [vI 0, vI 0, vS ([]), .own [], .own []]], m)) (fun ⟨k, of⟩ => 0 ≤ k ∧ k ≤ v.f.length ∧ of = v.f.take k.toNat) (fun ⟨k, of⟩ => v.f.length - k.toNat) (0, []) ⟨rfl, rfl⟩ ?_ ?_
 · try dsimp only
   exact ⟨by omega, by omega, rfl⟩
 rintro ⟨k, of⟩ hI2
 dsimp only at hI2
 have hof : of.length ≤ v.f.length := by rw [hI2.2.2, List.length_take]; omega
 have hof2 : (of.length : Int) ≤ k := by rw [hI2.2.2, List.length_take]; omega
 refine sq ?_
 refine an (fun h2 => ?_) (fun h2 => ?_)
 · refine sq ?_
   refine ixg fldTop fldIn_eq (by omega) ?_
   refine rgA tbOk Tryz.mixed (σ := Unit) (.f 0 (.f 2 (.f 4 (.o 1 (.o 3 (.s 5 (.s 6 (.s 7 (.s 8 (.s 9 (.f 10 (.s 11 .d))))))) (.o 5 (.o 3 (.s 6 (.s 7 (.s 8 (.s 9 (.f 10 (.s 11 .d)))))) (.o 6 (.s 3 (.s 7 (.s 8 (.s 9 (.f 10 (.s 11 .d)))))) .z)) .z)) (.o 3 (.o 1 (.s 5 (.s 6 (.s 7 (.s 8 (.s 9 (.f 10 (.s 11 .d))))))) (.o 5 (.o 1 (.s 6 (.s 7 (.s 8 (.s 9 (.f 10 (.s 11 .d)))))) (.o 6 (.o 1 (.s 7 (.s 8 (.s 9 (.f 10 (.s 11 .d))))) (.o 7 (.o 1 (.s 8 (.s 9 (.f 10 (.s 11 .d)))) (.o 8 (.s 1 (.s 9 (.f 10 (.s 11 .d)))) .z)) .z)) .z)) .z)) (.o 5 (.o 1 (.o 3 (.s 6 (.s 7 (.s 8 (.s 9 (.f 10 (.s 11 .d)))))) (.o 6 (.s 3 (.s 7 (.s 8 (.s 9 (.f 10 (.s 11 .d)))))) .z)) (.o 3 (.o 1 (.s 6 (.s 7 (.s 8 (.s 9 (.f 10 (.s 11 .d)))))) (.o 6 (.o 1 (.s 7 (.s 8 (.s 9 (.f 10 (.s 11 .d))))) (.o 7 (.o 1 (.s 8 (.s 9 (.f 10 (.s 11 .d)))) (.o 8 (.s 1 (.s 9 (.f 10 (.s 11 .d)))) .z)) .z)) .z)) (.o 6 (.o 1 (.s 3 (.s 7 (.s 8 (.s 9 (.f 10 (.s 11 .d)))))) (.o 3 (.o 1 (.s 7 (.s 8 (.s 9 (.f 10 (.s 11 .d))))) (.o 7 (.o 1 (.s 8 (.s 9 (.f 10 (.s 11 .d)))) (.o 8 (.s 1 (.s 9 (.f 10 (.s 11 .d)))) .z)) .z)) .z)) .z))) .z)))))) [] [1, 2, 29, 30, 31] 3 (fun _ => ([(1, .loc 0 0), (2, .loc 1 0), (29, vL (v.f.map fldIn)), (30, vI (v.f.length : Int)), (31, vI k)], [.cells [vI v.kind, vI v.n, vS v.s, .own (ol.map valIn), .own ((of ++ ([(gI v.f k)] : List (Str × Val))).map fldIn)], .cells [vI 0, vI 0, vS ([]), .own [], .own []], .cells [vS ((gI v.f k).1), vI (((gI v.f k).2).kind), vI (((gI v.f k).2).n), vS (((gI v.f k).2).s), vL ((((gI v.f k).2).l).map valIn), vL ((((gI v.f k).2).f).map fldIn)]], m)) (fun _ => True) (by decide +kernel) ?_ ?_
   · rintro _ hy11
     try dsimp only at hy11
     refine an (by omega) ?_
     refine ⟨(k + 1, of ++ ([(gI v.f k)] : List (Str × Val))), ⟨rfl, rfl⟩, ?_, ?_⟩
     · try dsimp only
       exact ⟨by omega, by omega, by rw [take_succ_gI hI2.1 (by assumption), ← hI2.2.2]⟩
     try dsimp only
     omega
   refine ⟨?_, ?_, ?_, trivial⟩
   · refine ⟨?_, ?_, trivial⟩
     · refine call0 (fun _ => ih ((gI v.f k).2) (by have := depV_eq v; first | (have := depL_mem (gI_mem (l := v.l) (i := i) hI.1 (by assumption)); omega) | (have := depF_mem (gI_mem (l := v.f) (i := k) hI2.1 (by assumption)); omega)) (by first | exact hok.2.1 _ (gI_mem (l := v.l) (i := i) hI.1 (by assumption)) | exact hok.2.2 _ (gI_mem (l := v.f) (i := k) hI2.1 (by assumption)))) rfl ?_
       refine ap fldIn of ([(gI v.f k)] : List (Str × Val)) rfl (by simp only [List.map_cons, List.map_nil, fldIn_eq]; try rfl) (fun a => by rw [fldIn_eq]; exact ⟨rfl, rfl⟩) (by (simp only [List.length_append, List.length_cons, List.length_nil]; omega)) ?_
       refine ⟨(), ⟨rfl, rfl⟩, ?_⟩
       trivial
     · refine ⟨?_, ?_, trivial⟩
       · refine call0 (fun _ => ih ((gI v.f k).2) (by have := depV_eq v; first | (have := depL_mem (gI_mem (l := v.l) (i := i) hI.1 (by assumption)); omega) | (have := depF_mem (gI_mem (l := v.f) (i := k) hI2.1 (by assumption)); omega)) (by first | exact hok.2.1 _ (gI_mem (l := v.l) (i := i) hI.1 (by assumption)) | exact hok.2.2 _ (gI_mem (l := v.f) (i := k) hI2.1 (by assumption)))) rfl ?_
         refine ap fldIn of ([(gI v.f k)] : List (Str × Val)) rfl (by simp only [List.map_cons, List.map_nil, fldIn_eq]; try rfl) (fun a => by rw [fldIn_eq]; exact ⟨rfl, rfl⟩) (by (simp only [List.length_append, List.length_cons, List.length_nil]; omega)) ?_
         refine ⟨(), ⟨rfl, rfl⟩, ?_⟩
         trivial
       · refine call0 (fun _ => ih ((gI v.f k).2) (by have := depV_eq v; first | (have := depL_mem (gI_mem (l := v.l) (i := i) hI.1 (by assumption)); omega) | (have := depF_mem (gI_mem (l := v.f) (i := k) hI2.1 (by assumption)); omega)) (by first | exact hok.2.1 _ (gI_mem (l := v.l) (i := i) hI.1 (by assumption)) | exact hok.2.2 _ (gI_mem (l := v.f) (i := k) hI2.1 (by assumption)))) rfl ?_
         refine ap fldIn of ([(gI v.f k)] : List (Str × Val)) rfl (by simp only [List.map_cons, List.map_nil, fldIn_eq]; try rfl) (fun a => by rw [fldIn_eq]; exact ⟨rfl, rfl⟩) (by (simp only [List.length_append, List.length_cons, List.length_nil]; omega)) ?_
         refine ⟨(), ⟨rfl, rfl⟩, ?_⟩
         trivial
   · refine ⟨?_, ?_, trivial⟩
     · refine call0 (fun _ => ih ((gI v.f k).2) (by have := depV_eq v; first | (have := depL_mem (gI_mem (l := v.l) (i := i) hI.1 (by assumption)); omega) | (have := depF_mem (gI_mem (l := v.f) (i := k) hI2.1 (by assumption)); omega)) (by first | exact hok.2.1 _ (gI_mem (l := v.l) (i := i) hI.1 (by assumption)) | exact hok.2.2 _ (gI_mem (l := v.f) (i := k) hI2.1 (by assumption)))) rfl ?_
       refine ap fldIn of ([(gI v.f k)] : List (Str × Val)) rfl (by simp only [List.map_cons, List.map_nil, fldIn_eq]; try rfl) (fun a => by rw [fldIn_eq]; exact ⟨rfl, rfl⟩) (by (simp only [List.length_append, List.length_cons, List.length_nil]; omega)) ?_
       refine ⟨(), ⟨rfl, rfl⟩, ?_⟩
       trivial
     · refine ⟨?_, ?_, trivial⟩
       · refine call0 (fun _ => ih ((gI v.f k).2) (by have := depV_eq v; first | (have := depL_mem (gI_mem (l := v.l) (i := i) hI.1 (by assumption)); omega) | (have := depF_mem (gI_mem (l := v.f) (i := k) hI2.1 (by assumption)); omega)) (by first | exact hok.2.1 _ (gI_mem (l := v.l) (i := i) hI.1 (by assumption)) | exact hok.2.2 _ (gI_mem (l := v.f) (i := k) hI2.1 (by assumption)))) rfl ?_
         refine ap fldIn of ([(gI v.f k)] : List (Str × Val)) rfl (by simp only [List.map_cons, List.map_nil, fldIn_eq]; try rfl) (fun a => by rw [fldIn_eq]; exact ⟨rfl, rfl⟩) (by (simp only [List.length_append, List.length_cons, List.length_nil]; omega)) ?_
         refine ⟨(), ⟨rfl, rfl⟩, ?_⟩
         trivial
       · refine call0 (fun _ => ih ((gI v.f k).2) (by have := depV_eq v; first | (have := depL_mem (gI_mem (l := v.l) (i := i) hI.1 (by assumption)); omega) | (have := depF_mem (gI_mem (l := v.f) (i := k) hI2.1 (by assumption)); omega)) (by first | exact hok.2.1 _ (gI_mem (l := v.l) (i := i) hI.1 (by assumption)) | exact hok.2.2 _ (gI_mem (l := v.f) (i := k) hI2.1 (by assumption)))) rfl ?_
         refine ⟨?_, ?_, trivial⟩
         · refine ap fldIn of ([(gI v.f k)] : List (Str × Val)) rfl (by simp only [List.map_cons, List.map_nil, fldIn_eq]; try rfl) (fun a => by rw [fldIn_eq]; exact ⟨rfl, rfl⟩) (by (simp only [List.length_append, List.length_cons, List.length_nil]; omega)) ?_
           refine ⟨(), ⟨rfl, rfl⟩, ?_⟩
           trivial
         · refine ⟨?_, ?_, trivial⟩
           · refine ap fldIn of ([(gI v.f k)] : List (Str × Val)) rfl (by simp only [List.map_cons, List.map_nil, fldIn_eq]; try rfl) (fun a => by rw [fldIn_eq]; exact ⟨rfl, rfl⟩) (by (simp only [List.length_append, List.length_cons, List.length_nil]; omega)) ?_
             refine ⟨(), ⟨rfl, rfl⟩, ?_⟩
             trivial
           · refine ap fldIn of ([(gI v.f k)] : List (Str × Val)) rfl (by simp only [List.map_cons, List.map_nil, fldIn_eq]; try rfl) (fun a => by rw [fldIn_eq]; exact ⟨rfl, rfl⟩) (by (simp only [List.length_append, List.length_cons, List.length_nil]; omega)) ?_
             refine ⟨(), ⟨rfl, rfl⟩, ?_⟩
             trivial
   · refine ⟨?_, ?_, ?_, trivial⟩
     · refine ⟨?_, ?_, trivial⟩
       · refine call0 (fun _ => ih ((gI v.f k).2) (by have := depV_eq v; first | (have := depL_mem (gI_mem (l := v.l) (i := i) hI.1 (by assumption)); omega) | (have := depF_mem (gI_mem (l := v.f) (i := k) hI2.1 (by assumption)); omega)) (by first | exact hok.2.1 _ (gI_mem (l := v.l) (i := i) hI.1 (by assumption)) | exact hok.2.2 _ (gI_mem (l := v.f) (i := k) hI2.1 (by assumption)))) rfl ?_
         refine ap fldIn of ([(gI v.f k)] : List (Str × Val)) rfl (by simp only [List.map_cons, List.map_nil, fldIn_eq]; try rfl) (fun a => by rw [fldIn_eq]; exact ⟨rfl, rfl⟩) (by (simp only [List.length_append, List.length_cons, List.length_nil]; omega)) ?_
         refine ⟨(), ⟨rfl, rfl⟩, ?_⟩
         trivial
       · refine call0 (fun _ => ih ((gI v.f k).2) (by have := depV_eq v; first | (have := depL_mem (gI_mem (l := v.l) (i := i) hI.1 (by assumption)); omega) | (have := depF_mem (gI_mem (l := v.f) (i := k) hI2.1 (by assumption)); omega)) (by first | exact hok.2.1 _ (gI_mem (l := v.l) (i := i) hI.1 (by assumption)) | exact hok.2.2 _ (gI_mem (l := v.f) (i := k) hI2.1 (by assumption)))) rfl ?_
         refine ap fldIn of ([(gI v.f k)] : List (Str × Val)) rfl (by simp only [List.map_cons, List.map_nil, fldIn_eq]; try rfl) (fun a => by rw [fldIn_eq]; exact ⟨rfl, rfl⟩) (by (simp only [List.length_append, List.length_cons, List.length_nil]; omega)) ?_
         refine ⟨(), ⟨rfl, rfl⟩, ?_⟩
         trivial
     · refine ⟨?_, ?_, trivial⟩
       · refine call0 (fun _ => ih ((gI v.f k).2) (by have := depV_eq v; first | (have := depL_mem (gI_mem (l := v.l) (i := i) hI.1 (by assumption)); omega) | (have := depF_mem (gI_mem (l := v.f) (i := k) hI2.1 (by assumption)); omega)) (by first | exact hok.2.1 _ (gI_mem (l := v.l) (i := i) hI.1 (by assumption)) | exact hok.2.2 _ (gI_mem (l := v.f) (i := k) hI2.1 (by assumption)))) rfl ?_
         refine ap fldIn of ([(gI v.f k)] : List (Str × Val)) rfl (by simp only [List.map_cons, List.map_nil, fldIn_eq]; try rfl) (fun a => by rw [fldIn_eq]; exact ⟨rfl, rfl⟩) (by (simp only [List.length_append, List.length_cons, List.length_nil]; omega)) ?_
         refine ⟨(), ⟨rfl, rfl⟩, ?_⟩
         trivial
       · refine call0 (fun _ => ih ((gI v.f k).2) (by have := depV_eq v; first | (have := depL_mem (gI_mem (l := v.l) (i := i) hI.1 (by assumption)); omega) | (have := depF_mem (gI_mem (l := v.f) (i := k) hI2.1 (by assumption)); omega)) (by first | exact hok.2.1 _ (gI_mem (l := v.l) (i := i) hI.1 (by assumption)) | exact hok.2.2 _ (gI_mem (l := v.f) (i := k) hI2.1 (by assumption)))) rfl ?_
         refine ⟨?_, ?_, trivial⟩
         · refine ap fldIn of ([(gI v.f k)] : List (Str × Val)) rfl (by simp only [List.map_cons, List.map_nil, fldIn_eq]; try rfl) (fun a => by rw [fldIn_eq]; exact ⟨rfl, rfl⟩) (by (simp only [List.length_append, List.length_cons, List.length_nil]; omega)) ?_
           refine ⟨(), ⟨rfl, rfl⟩, ?_⟩
           trivial
         · refine ⟨?_, ?_, trivial⟩
           · refine ap fldIn of ([(gI v.f k)] : List (Str × Val)) rfl (by simp only [List.map_cons, List.map_nil, fldIn_eq]; try rfl) (fun a => by rw [fldIn_eq]; exact ⟨rfl, rfl⟩) (by (simp only [List.length_append, List.length_cons, List.length_nil]; omega)) ?_
             refine ⟨(), ⟨rfl, rfl⟩, ?_⟩
             trivial
           · refine ap fldIn of ([(gI v.f k)] : List (Str × Val)) rfl (by simp only [List.map_cons, List.map_nil, fldIn_eq]; try rfl) (fun a => by rw [fldIn_eq]; exact ⟨rfl, rfl⟩) (by (simp only [List.length_append, List.length_cons, List.length_nil]; omega)) ?_
             refine ⟨(), ⟨rfl, rfl⟩, ?_⟩
             trivial
     · refine call0 (fun _ => ih ((gI v.f k).2) (by have := depV_eq v; first | (have := depL_mem (gI_mem (l := v.l) (i := i) hI.1 (by assumption)); omega) | (have := depF_mem (gI_mem (l := v.f) (i := k) hI2.1 (by assumption)); omega)) (by first | exact hok.2.1 _ (gI_mem (l := v.l) (i := i) hI.1 (by assumption)) | exact hok.2.2 _ (gI_mem (l := v.f) (i := k) hI2.1 (by assumption)))) rfl ?_
       refine ⟨?_, ?_, trivial⟩
       · refine ap fldIn of ([(gI v.f k)] : List (Str × Val)) rfl (by simp only [List.map_cons, List.map_nil, fldIn_eq]; try rfl) (fun a => by rw [fldIn_eq]; exact ⟨rfl, rfl⟩) (by (simp only [List.length_append, List.length_cons, List.length_nil]; omega)) ?_
         refine ⟨(), ⟨rfl, rfl⟩, ?_⟩
         trivial
       · refine ⟨?_, ?_, trivial⟩
         · refine ap fldIn of ([(gI v.f k)] : List (Str × Val)) rfl (by simp only [List.map_cons, List.map_nil, fldIn_eq]; try rfl) (fun a => by rw [fldIn_eq]; exact ⟨rfl, rfl⟩) (by (simp only [List.length_append, List.length_cons, List.length_nil]; omega)) ?_
           refine ⟨(), ⟨rfl, rfl⟩, ?_⟩
           trivial
         · refine ⟨?_, ?_, trivial⟩
           · refine ap fldIn of ([(gI v.f k)] : List (Str × Val)) rfl (by simp only [List.map_cons, List.map_nil, fldIn_eq]; try rfl) (fun a => by rw [fldIn_eq]; exact ⟨rfl, rfl⟩) (by (simp only [List.length_append, List.length_cons, List.length_nil]; omega)) ?_
             refine ⟨(), ⟨rfl, rfl⟩, ?_⟩
             trivial
           · refine ap fldIn of ([(gI v.f k)] : List (Str × Val)) rfl (by simp only [List.map_cons, List.map_nil, fldIn_eq]; try rfl) (fun a => by rw [fldIn_eq]; exact ⟨rfl, rfl⟩) (by (simp only [List.length_append, List.length_cons, List.length_nil]; omega)) ?_
             refine ⟨(), ⟨rfl, rfl⟩, ?_⟩
             trivial
 refine rt0 rfl fun _ => ?_
 show K (.agg [.int .i64 v.kind, .int .i64 v.n, .str v.s, .slice false (ol.map valIn), .slice false (of.map fldIn)]) m
 have q1 : ol = v.l := by have := hI.2.2; rwa [take_full (by omega)] at this
 have q2 : of = v.f := by have := hI2.2.2; rwa [take_full (by omega)] at this
 rw [q1, q2]
 exact hK
theorem u_Copy2 : ∀ (n : Nat) (v : Val), depV v < n → okV v → ∀ (m : AMem) (K : AV → AMem → Prop), K (valTop v) m → ACalls Tryz.prog 63 [valTop v] m K
  | 0, _, h, _ => absurd h (Nat.not_lt_zero _)
  | n + 1, v, h, hz => fun m K hK => u_Copy1 v hz (fun w hw hw2 => u_Copy2 n w (by omega) hw2) m K hK
theorem u_Copy (v : Val) (hz : okV v) (m : AMem) (K : AV → AMem → Prop) (hK : K (valTop v) m) : ACalls Tryz.prog 63 [valTop v] m K := u_Copy2 (depV v + 1) v (Nat.lt_succ_self _) hz m K hK
end Go.Proofs
end
