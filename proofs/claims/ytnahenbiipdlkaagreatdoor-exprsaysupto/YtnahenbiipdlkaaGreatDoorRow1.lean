/- ExprSays, where what it reads is of bulk at most 1048576: the law returns true, and the arguments read afterwards as they did; the listed variables are those that the program's text lays. -/
import Derived.Test.YtnahenbiipdlkaaGreatDoorRows
import Derived.Test.YtnahenbiipdlkaaGreatDoorCards
import Derived.Test.YtnahenbiipdlkaaGreatDoorTie
import Derived.Test.YtnahenbiipdlkaaGreatDoorChecked
import Derived.Test.YtnahenbiipdlkaaGreatDoorRdb
import Derived.Test.YtnahenbiipdlkaaGreatDoorSv3
import Derived.Test.YtnahenbiipdlkaaGreatDoorWxz
import Derived.ProofKit
import Derived.SizedLaws
import Derived.LaidMore
import Derived.Lay
import Derived.OpenShut
import Derived.JoinedCond
import Derived.Deep.CondSized
import Derived.Deep.DeepHandedRow
import Derived.Lib.LaidTab
import Derived.Stop.LaidErr
import Derived.SevenTiedAt
namespace Go.Proofs.YtnahenbiipdlkaaGreatDoor
open Go Go.ChangeShapes Go.WideShapes Go.ChangeAt Go.RowKit Go.Aw Go.ChangeMaps
theorem rowOwn : ownKnob Tryz.prog.godebug = none := by kernel_rfl
theorem rowLaid : laidOutB Tryz.prog = true := by kernel_rfl
theorem powName : Tryz.prog.globalNamed "internal/strconv.uint64pow10" = some 1 := by kernel_rfl
theorem synName : Tryz.prog.globalNamed "strconv.ErrSyntax" = some 2 := by kernel_rfl
theorem synType : (Tryz.prog.globals[2]?).map (·.type) = some 34 := by kernel_rfl
theorem tabType : (Tryz.prog.globals[1]?).map (·.type) = some 281 := by kernel_rfl
theorem tabCells : Tryz.prog.cellsOf 281 = 20 := by kernel_rfl
theorem u64Cells : Tryz.prog.cellsOf 173 = 1 := by kernel_rfl
theorem esCells : Tryz.prog.cellsOf 308 = 1 := by kernel_rfl
theorem strCells : Tryz.prog.cellsOf 9 = 1 := by kernel_rfl
theorem star : "*" ++ "errors.errorString" = "*errors.errorString" := by decide
theorem row306 (u : TypeId) (h : Tryz.prog.typeName? 3 u = some "*errors.errorString") : u = 306 :=
  typeName_ptr_named (nm := "errors.errorString") (by rw [star]; kernel_rfl) (by kernel_rfl) (by decide) u (by rw [star]; exact h)
theorem laidTabEq {H : Type} : (Rows.laid_internal_strconv_uint64pow10 : DataW H) = Lib.tabData .u64 Lib.pow10Tab := rfl
theorem tables {W : World} (h : laidMetH Tryz.prog Rows.exprSaysUptoRow.laid W) : ∃ e z e2 z2 tp p, W.heap[1]? = some (.cells (Lib.pow10Tab.map (Value.int .u64)).toArray e z) ∧ W.heap[2]? = some (.cells #[.iface tp p] e2 z2) := by
  have h1 : laidMet Tryz.prog Rows.exprSaysUptoRow.laid W := by rwa [MakeChecks.laidMetH_plain _ _ _ (by kernel_rfl)] at h
  have h2 : Lib.TabIs Tryz.prog W "internal/strconv.uint64pow10" .u64 Lib.pow10Tab :=
    Lib.tabIs_of_head powName tabType Tryz.underlying281 Tryz.underlying173 u64Cells tabCells h1.tail.tail
  obtain ⟨a, s, h3, _, _, _⟩ := laid_sentinel h1.tail.tail.tail.tail synName synType Tryz.underlying34 row306 Tryz.underlying306 Tryz.underlying308 rfl rfl Tryz.underlying9 esCells strCells
  simp only [Lib.TabIs, World.var?, powName, Option.bind_some] at h2
  simp only [World.var?, synName, Option.bind_some] at h3
  split at h2
  · rename_i cs e z hh
    simp only [Option.some.injEq] at h2
    rw [h2] at hh
    split at h3
    · rename_i cs2 e2 z2 hh2
      simp only [Option.some.injEq] at h3
      rw [h3] at hh2
      exact ⟨e, z, e2, z2, _, _, hh, hh2⟩
    · cases h3
  · cases h2
theorem rowBulk : BulkOk (bk := @Rows.uptoBulk) (bkA := @Rows.uptoBulkAll) where
  cons d l := by simp only [Rows.uptoBulkAll]
  slice e s := by simp only [Rows.uptoBulk]; omega
  agg p := by simp only [Rows.uptoBulk]; omega
theorem rowOne {H : Type} (d : DataW H) : 1 ≤ Rows.uptoBulk d := by
  unfold Rows.uptoBulk; split <;> omega
def tabs (e : TypeId) (z : Nat × Nat) (e2 : TypeId) (z2 : Nat × Nat) (tp : TypeId) (p : Value) : Nat → Option TabG := fun b =>
  if b = 1 then some ⟨e, z, (Lib.pow10Tab.map (Value.int .u64)).toArray⟩ else if b = 2 then some ⟨e2, z2, #[.iface tp p]⟩ else none
set_option maxRecDepth 100000 in
theorem lifted (os : Os) (started : os.Started) (H : Type) (enc : TypeId × Value → H) (F : Stop.Interp) :
    ReturnsInHanded {} Tryz.checked os 3 .any ((Rows.OpenSpec.upto Rows.exprSaysSpec).preRow enc Tryz.prog Tryz.f3 Rows.exprSaysUptoRow.domain false Rows.exprSaysUptoRow.laid) (((Rows.OpenSpec.upto Rows.exprSaysSpec).at F).post enc Tryz.prog Tryz.f3 false true false false) := by
  have hreads : ∃ places, DataW.whole enc Tryz.prog ((World.laidAll Tryz.prog os Rows.exprSaysUptoRow.laid).forCall (fun _ _ => 0) ⟨#[], #[.agg #[.int .i64 0, .int .i64 0, .int .i64 0, .string ByteArray.empty, .slice none 0 0, .slice none 0 0, .string ByteArray.empty, .string ByteArray.empty, .slice none 0 0, .slice none 0 0], .string ByteArray.empty], []⟩).memory Tryz.f3.params.toList Rows.exprSaysSpec.vars false #[Value.agg #[.int .i64 0, .int .i64 0, .int .i64 0, .string ByteArray.empty, .slice none 0 0, .slice none 0 0, .string ByteArray.empty, .string ByteArray.empty, .slice none 0 0, .slice none 0 0], .string ByteArray.empty].toList 8 = some ([.agg [.lit (.int .i64 0), .agg [.lit (.int .i64 0), .lit (.int .i64 0), .lit (.string []), .nil, .nil], .lit (.string []), .lit (.string []), .nil, .nil], .lit (.string [])], [], places) := ⟨[], by kernel_rfl⟩
  obtain ⟨places, hx⟩ := hreads
  refine returnsInHanded_of_row (C := Tryz.checked) (s := Rows.OpenSpec.upto Rows.exprSaysSpec) rowOwn started (by kernel_rfl) Tryz.func3
    (witness_row_at (enc := enc) (C := Tryz.checked) false (World.laidAll Tryz.prog os Rows.exprSaysUptoRow.laid) _ (World.laidAll_os _ _ _) (by kernel_rfl) (by kernel_rfl) (by kernel_rfl)
      (OpenSpec.preRow_of_cond 8 hx (by kernel_rfl) (fun k hk => by cases hk; kernel_rfl) (by kernel_rfl) (laidMet_laidAll _ (by kernel_rfl) (by kernel_rfl)))) ?_
  intro W base args ds gs before hval0 hW hcnd hk hsz hL _ _
  have hk := hk _ rfl
  have hval : ∀ (j : Nat) t v, Tryz.f3.params[j]? = some t → args[j]? = some v → Value.okWide Tryz.prog W .any base t v := hval0
  have hW' := hW
  obtain ⟨p, q, hA0, hV, rfl, hfz, hnd⟩ := hW
  have hA : DataW.TrodAll enc Tryz.prog W 0 (fun _ => true) true Tryz.f3.params.toList args.toList ds p := hA0
  rw [Tryz.params3] at hA hval
  obtain ⟨v0, vs0, d0, ds0, p0, q0, e0, f0, rfl, h0, r0⟩ := trodAll_cons hA
  obtain ⟨v1, vs1, d1, ds1, p1, q1, e1, f1, rfl, h1, r1⟩ := trodAll_cons r0
  obtain ⟨e2, f2, rfl⟩ := trodAll_nil r1
  subst f2
  subst f1
  subst f0
  obtain rfl : args = #[v0, v1] := by
    cases args
    simp_all
  clear e0 e1 e2
  obtain ⟨rfl, rfl⟩ := trodVars_none hV
  obtain ⟨w0, rfl, _⟩ := okWide_struct (by rfl) (hval 0 29 v0 rfl rfl)
  obtain ⟨x0, z0, hx0⟩ := RdB.argS (bk := @Rows.uptoBulk) (f := expIn) (fun _ => rdB_exp rowBulk rowOne _) expIn_agg h0 (sized_arg (P := Tryz.prog) (t := 29) hsz (j := 0) (by rw [Tryz.params3]; rfl) rfl)
  obtain ⟨w1, rfl⟩ := okWide_string (by rfl) (hval 1 9 v1 rfl rfl)
  obtain ⟨x1, hx1⟩ := Rd.arg (f := strAV) (fun _ => rd_string (by rfl)) (fun _ => rfl) rfl h1 (sized_arg (P := Tryz.prog) (t := 9) hsz (j := 1) (by rw [Tryz.params3]; rfl) rfl)
  have hq := of_decide_eq_true hk
  simp only [List.append_nil, Rows.uptoBulkAll] at hq
  have okT0 := okT_exp x0
  rw [expIn_eq] at hx0 okT0
  clear hA0 hval0
  simp only [List.append_nil, List.append_assoc] at hW'
  obtain ⟨e, z, e2, z2, tp, pp, hT, hT2⟩ := tables hL
  refine (law_trueG (W := W) (G := tabs e z e2 z2 tp pp) (avs := [expTop x0, strAV x1]) (cargs := #[.agg w0, .string w1])
    (u_ExprSays x0 x1 (by omega) _ _ ⟨e, z, e2, z2, tp, pp, rfl, rfl⟩ ⟨rfl, fun b t hb => by unfold memG; rw [hb]; rfl⟩) rfl (fun b t hb => ?_) (fun i hi => ?_) ?_).mono fun e W' ⟨he, hb⟩ => ?_
  · unfold tabs at hb
    split at hb
    · obtain rfl := Option.some.inj hb
      subst b
      refine ⟨hT, fun v hv => ?_⟩
      obtain ⟨n, _, rfl⟩ := List.mem_map.1 hv
      exact .u64 n
    · split at hb
      · obtain rfl := Option.some.inj hb
        subst b
        refine ⟨hT2, fun v hv => ?_⟩
        rw [List.mem_singleton.1 (show v ∈ [Value.iface tp pp] from hv)]
        exact .iface _ _
      · cases hb
  · match i, hi with
    | 0, _ => exact hx0
    | 1, _ => exact hx1
    | _ + 2, hi => exact absurd hi (by simp)
  · intro x hx
    simp only [List.mem_cons, List.not_mem_nil, or_false] at hx
    rcases hx with rfl | rfl
    · exact okT0
    · exact .str _
  · subst he
    exact ⟨_, rfl, law_post (tb := 4) rfl rfl Tryz.underlying4 rowLaid (by kernel_rfl) hW' rfl hb⟩
theorem saidUpto : Rows.ExprSaysUptoSaid :=
  OpenClaim.holds_of_cond 3 Tryz.f3 rfl rfl rfl rfl rfl rfl rfl ⟨rfl, rfl, rfl, rfl, rfl⟩ rfl rfl rfl rfl rfl (by kernel_rfl) Tryz.func3 (by kernel_rfl)
    (of_decide_eq_true (by kernel_rfl)) (by unfold Func.isWrapper; first | (rw [if_pos (by decide +kernel)]; kernel_rfl) | (rw [if_neg (by decide +kernel)]; exact ⟨rfl, rfl⟩))
    (fun os started H enc _ F => by rw [OpenClaim.pre_eq_preRow]; exact lifted os started H enc F)
theorem plain (f : FuncId) (fn : Func) (hf : Tryz.pinned.checked.prog.funcNamed "wavewright/wavewrightlaw.ExprSays" = some f) (hfn : Tryz.pinned.checked.prog.funcs[f]? = some fn) :
    true = Tryz.pinned.checked.prog.looks [] ∧ ∀ (j : Nat) t, fn.params[j]? = some t → Tryz.pinned.checked.prog.wantsStandIn t = false := by
  obtain rfl : f = 3 := Option.some.inj ((show Tryz.prog.funcNamed "wavewright/wavewrightlaw.ExprSays" = some 3 by kernel_rfl).symm.trans hf) |>.symm
  obtain rfl : fn = Tryz.f3 := (Option.some.inj (Tryz.func3.symm.trans hfn)).symm
  refine ⟨by kernel_rfl, fun j t ht => ?_⟩
  rw [Tryz.params3] at ht
  have hm := Array.mem_of_getElem? ht
  simp only [List.mem_toArray, List.mem_cons, List.not_mem_nil, or_false] at hm
  rcases hm with rfl | rfl
  · exact (show Tryz.prog.wantsStandIn 29 = false by kernel_rfl)
  · exact (show Tryz.prog.wantsStandIn 9 = false by kernel_rfl)
theorem exprSaysUptoCard_holds : Rows.ExprSaysUptoCardSaid :=
  Claim7.holds_tied_plain_at .later [] _ _ _ _ saidUpto (fun _ h => by cases h) (by kernel_rfl) (fun _ h => by cases h) exprSaysUpto_row_tie rfl ⟨rfl, rfl⟩ (by kernel_rfl) rfl plain (by kernel_rfl)
end Go.Proofs.YtnahenbiipdlkaaGreatDoor
