/- TopLocks: for every argument the law returns true, and the argument reads afterwards as it did; the listed variables are those that the program's text lays. -/
import Derived.Test.YtkgpejbkiacbmaaDoorRows
import Derived.Test.YtkgpejbkiacbmaaDoorCards
import Derived.Test.YtkgpejbkiacbmaaDoorTie
import Derived.Test.YtkgpejbkiacbmaaDoorChecked
import Derived.Test.YtkgpejbkiacbmaaDoorRd
import Derived.Test.YtkgpejbkiacbmaaDoorWwS
import Derived.Test.YtkgpejbkiacbmaaDoorWxf
import Derived.ProofKit
import Derived.SizedLaws
import Derived.LaidMore
import Derived.Lay
import Derived.OpenShut
import Derived.Stop.Joined
import Derived.Lib.LaidTab
import Derived.Stop.LaidErr
import Derived.SevenTiedAt
namespace Go.Proofs.YtkgpejbkiacbmaaDoor
open Go Go.ChangeShapes Go.WideShapes Go.ChangeAt Go.RowKit Go.Aw Go.ChangeMaps
theorem rowOwn : ownKnob Tryd.prog.godebug = none := by kernel_rfl
theorem rowLaid : laidOutB Tryd.prog = true := by kernel_rfl
theorem powName : Tryd.prog.globalNamed "internal/strconv.uint64pow10" = some 2 := by kernel_rfl
theorem synName : Tryd.prog.globalNamed "strconv.ErrSyntax" = some 0 := by kernel_rfl
theorem rngName : Tryd.prog.globalNamed "strconv.ErrRange" = some 1 := by kernel_rfl
theorem synType : (Tryd.prog.globals[0]?).map (·.type) = some 38 := by kernel_rfl
theorem rngType : (Tryd.prog.globals[1]?).map (·.type) = some 38 := by kernel_rfl
theorem tabType : (Tryd.prog.globals[2]?).map (·.type) = some 128 := by kernel_rfl
theorem tabCells : Tryd.prog.cellsOf 128 = 20 := by kernel_rfl
theorem u64Cells : Tryd.prog.cellsOf 101 = 1 := by kernel_rfl
theorem esCells : Tryd.prog.cellsOf 134 = 1 := by kernel_rfl
theorem strCells : Tryd.prog.cellsOf 9 = 1 := by kernel_rfl
theorem star : "*" ++ "errors.errorString" = "*errors.errorString" := by decide
theorem row132 (u : TypeId) (h : Tryd.prog.typeName? 3 u = some "*errors.errorString") : u = 132 :=
  typeName_ptr_named (nm := "errors.errorString") (by rw [star]; kernel_rfl) (by kernel_rfl) (by decide) u (by rw [star]; exact h)
theorem laidTabEq {H : Type} : (Rows.laid_internal_strconv_uint64pow10 : DataW H) = Lib.tabData .u64 Lib.pow10Tab := rfl
theorem tables {W : World} (h : laidMetH Tryd.prog Rows.topLocksRow.laid W) : ∃ e z e2 z2 tp p e3 z3 tp3 p3, W.heap[2]? = some (.cells (Lib.pow10Tab.map (Value.int .u64)).toArray e z) ∧ W.heap[0]? = some (.cells #[.iface tp p] e2 z2) ∧ W.heap[1]? = some (.cells #[.iface tp3 p3] e3 z3) := by
  have h1 : laidMet Tryd.prog Rows.topLocksRow.laid W := by rwa [MakeChecks.laidMetH_plain _ _ _ (by kernel_rfl)] at h
  have h2 : Lib.TabIs Tryd.prog W "internal/strconv.uint64pow10" .u64 Lib.pow10Tab :=
    Lib.tabIs_of_head powName tabType Tryd.underlying128 Tryd.underlying101 u64Cells tabCells h1.tail.tail
  obtain ⟨a, s, h3, _, _, _⟩ := laid_sentinel h1.tail.tail.tail.tail synName synType Tryd.underlying38 row132 Tryd.underlying132 Tryd.underlying134 rfl rfl Tryd.underlying9 esCells strCells
  obtain ⟨a', s', h4, _, _, _⟩ := laid_sentinel h1.tail.tail.tail rngName rngType Tryd.underlying38 row132 Tryd.underlying132 Tryd.underlying134 rfl rfl Tryd.underlying9 esCells strCells
  simp only [Lib.TabIs, World.var?, powName, Option.bind_some] at h2
  simp only [World.var?, synName, Option.bind_some] at h3
  simp only [World.var?, rngName, Option.bind_some] at h4
  split at h2
  · rename_i cs e z hh
    simp only [Option.some.injEq] at h2
    rw [h2] at hh
    split at h3
    · rename_i cs2 e2 z2 hh2
      simp only [Option.some.injEq] at h3
      rw [h3] at hh2
      split at h4
      · rename_i cs3 e3 z3 hh3
        simp only [Option.some.injEq] at h4
        rw [h4] at hh3
        exact ⟨e, z, e2, z2, _, _, e3, z3, _, _, hh, hh2, hh3⟩
      · cases h4
    · cases h3
  · cases h2
def tabs (e : TypeId) (z : Nat × Nat) (e2 : TypeId) (z2 : Nat × Nat) (tp : TypeId) (p : Value) (e3 : TypeId) (z3 : Nat × Nat) (tp3 : TypeId) (p3 : Value) : Nat → Option TabG := fun b =>
  if b = 2 then some ⟨e, z, (Lib.pow10Tab.map (Value.int .u64)).toArray⟩ else if b = 0 then some ⟨e2, z2, #[.iface tp p]⟩ else if b = 1 then some ⟨e3, z3, #[.iface tp3 p3]⟩ else none
set_option maxRecDepth 100000 in
theorem lifted (os : Os) (started : os.Started) (H : Type) (enc : TypeId × Value → H) :
    ReturnsInHanded {} Tryd.checked os 4 .any (fun w args => (Rows.topLocksSpec.pre enc Tryd.prog Tryd.f4 [] false w args ∧ laidMetH Tryd.prog Rows.topLocksRow.laid w) ∧ sizedMet enc Tryd.prog Tryd.f4 (OpenSpec.ofChange Rows.topLocksSpec) false w args)
      (Rows.topLocksSpec.post enc Tryd.prog Tryd.f4 false true false false) := by
  refine returnsInHanded_of_change_and (C := Tryd.checked) (X := fun w _ => laidMetH Tryd.prog Rows.topLocksRow.laid w) (fun _ _ _ hh h => h.of_heap hh) rowOwn started (by kernel_rfl) Tryd.func4
    (ChangeSpec.witness_shaped (enc := enc) (C := Tryd.checked) (os := os) (X := fun w _ => laidMetH Tryd.prog Rows.topLocksRow.laid w) false (World.laidAll Tryd.prog os Rows.topLocksRow.laid) #[.slice none 0 0] 8 (World.laidAll_os _ _ _)
      (World.shaped_of_ZipB (by kernel_rfl) (by kernel_rfl)) (by kernel_rfl) (by kernel_rfl) (by kernel_rfl)
      (by rw [MakeChecks.laidMetH_plain _ _ _ (by kernel_rfl)]; exact laidMet_laidAll _ (by kernel_rfl) (by kernel_rfl))) ?_
  intro W base args ds gs before hval0 hW hcnd hsz hL hx9
  have hval : ∀ (j : Nat) t v, Tryd.f4.params[j]? = some t → args[j]? = some v → Value.okWide Tryd.prog W .any base t v := hval0
  have hW' := hW
  obtain ⟨p, q, hA0, hV, rfl, hfz, hnd⟩ := hW
  have hA : DataW.TrodAll enc Tryd.prog W 0 (fun _ => true) true Tryd.f4.params.toList args.toList ds p := hA0
  rw [Tryd.params4] at hA hval
  obtain ⟨v0, vs0, d0, ds0, p0, q0, e0, f0, rfl, h0, r0⟩ := trodAll_cons hA
  obtain ⟨e1, f1, rfl⟩ := trodAll_nil r0
  subst f1
  subst f0
  obtain rfl : args = #[v0] := by
    cases args
    simp_all
  clear e0 e1
  obtain ⟨rfl, rfl⟩ := trodVars_none hV
  obtain ⟨w0, l0, c0, rfl⟩ := okWide_slice (by rfl) (hval 0 22 v0 rfl rfl)
  obtain ⟨x0, hx0⟩ := Rd.arg (f := (lstAV actAV)) (fun _ => rd_slice (by rfl) (by rfl) (by decide) (by decide) (fun _ => rfl) (fun _ _ => rd_act _)) (fun _ => rfl) rfl h0 (sized_arg (P := Tryd.prog) (t := 22) hsz (j := 0) (by rw [Tryd.params4]; rfl) rfl)
  clear hA0 hval0
  simp only [List.append_nil, List.append_assoc] at hW'
  obtain ⟨e, z, e2, z2, tp, pp, e3, z3, tp3, p3, hT, hT2, hT3⟩ := tables hL
  refine (law_trueG (W := W) (G := tabs e z e2 z2 tp pp e3 z3 tp3 p3) (avs := [(lstAV actAV) x0]) (cargs := #[.slice w0 l0 c0])
    (u_TopLocks x0 _ _ ⟨e, z, e2, z2, tp, pp, e3, z3, tp3, p3, rfl, rfl, rfl⟩ ⟨rfl, fun b t hb => by unfold memG; rw [hb]; rfl⟩) rfl (fun b t hb => ?_) (fun i hi => ?_) ?_).mono fun e W' ⟨he, hb⟩ => ?_
  · unfold tabs at hb
    split at hb
    · obtain rfl := Option.some.inj hb
      subst b
      refine ⟨hT, fun v hv => ?_⟩
      obtain ⟨n, _, rfl⟩ := List.mem_map.1 hv
      exact .u64 n
    · split at hb
      · obtain rfl := Option.some.inj hb
        subst b
        refine ⟨hT2, fun v hv => ?_⟩
        rw [List.mem_singleton.1 (show v ∈ [Value.iface tp pp] from hv)]
        exact .iface _ _
      · split at hb
        · obtain rfl := Option.some.inj hb
          subst b
          refine ⟨hT3, fun v hv => ?_⟩
          rw [List.mem_singleton.1 (show v ∈ [Value.iface tp3 p3] from hv)]
          exact .iface _ _
        · cases hb
  · match i, hi with
    | 0, _ => exact hx0
    | _ + 1, hi => exact absurd hi (by simp)
  · intro x hx
    rw [List.mem_singleton.1 hx]
    exact okT_acts x0
  · subst he
    exact ⟨_, rfl, law_post (tb := 4) rfl rfl Tryd.underlying4 rowLaid (by kernel_rfl) hW' rfl hb⟩
theorem said : Rows.TopLocksSaid :=
  OpenClaim.holds_of_wide 4 Tryd.f4 rfl rfl rfl rfl rfl rfl rfl ⟨rfl, rfl, rfl, rfl, rfl⟩ rfl rfl rfl rfl rfl (by kernel_rfl) Tryd.func4 (by kernel_rfl)
    (of_decide_eq_true (by kernel_rfl)) (by unfold Func.isWrapper; first | (rw [if_pos (by decide +kernel)]; kernel_rfl) | (rw [if_neg (by decide +kernel)]; exact ⟨rfl, rfl⟩))
    (fun os started H enc _ => lifted os started H enc)
theorem plain (f : FuncId) (fn : Func) (hf : Tryd.pinned.checked.prog.funcNamed "wavewright/wavewrighttop.TopLocks" = some f) (hfn : Tryd.pinned.checked.prog.funcs[f]? = some fn) :
    true = Tryd.pinned.checked.prog.looks [] ∧ ∀ (j : Nat) t, fn.params[j]? = some t → Tryd.pinned.checked.prog.wantsStandIn t = false := by
  obtain rfl : f = 4 := Option.some.inj ((show Tryd.prog.funcNamed "wavewright/wavewrighttop.TopLocks" = some 4 by kernel_rfl).symm.trans hf) |>.symm
  obtain rfl : fn = Tryd.f4 := (Option.some.inj (Tryd.func4.symm.trans hfn)).symm
  refine ⟨by kernel_rfl, fun j t ht => ?_⟩
  rw [Tryd.params4] at ht
  have hm := Array.mem_of_getElem? ht
  simp only [List.mem_toArray, List.mem_cons, List.not_mem_nil, or_false] at hm
  subst hm
  exact (show Tryd.prog.wantsStandIn 22 = false by kernel_rfl)
theorem topLocksCard_holds : Rows.TopLocksCardSaid :=
  Claim7.holds_tied_plain_at .later [] _ _ _ _ said (fun _ h => by cases h) (by kernel_rfl) (fun _ h => by cases h) topLocks_row_tie rfl ⟨rfl, rfl⟩ (by kernel_rfl) rfl plain (by kernel_rfl)
end Go.Proofs.YtkgpejbkiacbmaaDoor
