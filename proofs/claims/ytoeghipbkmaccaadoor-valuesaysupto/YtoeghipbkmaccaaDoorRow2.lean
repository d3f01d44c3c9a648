/- ValueSays, where what it reads is of bulk at most 1048576: the law returns true, and the arguments read afterwards as they did; the listed variables are those that the program's text lays. -/
import Derived.Test.YtoeghipbkmaccaaDoorRows
import Derived.Test.YtoeghipbkmaccaaDoorCards
import Derived.Test.YtoeghipbkmaccaaDoorTie
import Derived.Test.YtoeghipbkmaccaaDoorChecked
import Derived.Test.YtoeghipbkmaccaaDoorRdb
import Derived.Test.YtoeghipbkmaccaaDoorSv2
import Derived.Test.YtoeghipbkmaccaaDoorWxn
import Derived.ProofKit
import Derived.SizedLaws
import Derived.LaidMore
import Derived.Lay
import Derived.OpenShut
import Derived.JoinedCond
import Derived.Deep.CondSized
import Derived.Deep.DeepHandedRow
import Derived.Lib.LaidTab
import Derived.Stop.LaidErr
import Derived.SevenTiedAt
namespace Go.Proofs.YtoeghipbkmaccaaDoor
open Go Go.ChangeShapes Go.WideShapes Go.ChangeAt Go.RowKit Go.Aw Go.ChangeMaps
theorem rowOwn : ownKnob Tryd.prog.godebug = none := by kernel_rfl
theorem rowLaid : laidOutB Tryd.prog = true := by kernel_rfl
theorem tabType : (Tryd.prog.globals[2]?).map (·.type) = some 155 := by kernel_rfl
theorem tabCells : Tryd.prog.cellsOf 155 = 20 := by kernel_rfl
theorem u64Cells : Tryd.prog.cellsOf 48 = 1 := by kernel_rfl
theorem laidTabEq {H : Type} : (Rows.laid_internal_strconv_uint64pow10 : DataW H) = Lib.tabData .u64 Lib.pow10Tab := rfl
theorem table {W : World} (h : laidMetH Tryd.prog Rows.valueSaysUptoRow.laid W) : ∃ e z, W.heap[2]? = some (.cells (Lib.pow10Tab.map (Value.int .u64)).toArray e z) := by
  have h1 : laidMet Tryd.prog Rows.valueSaysUptoRow.laid W := by rwa [MakeChecks.laidMetH_plain _ _ _ (by kernel_rfl)] at h
  have h2 : Lib.TabIs Tryd.prog W "internal/strconv.uint64pow10" .u64 Lib.pow10Tab :=
    Lib.tabIs_of_head (rest := []) tabName tabType Tryd.underlying155 Tryd.underlying48 u64Cells tabCells h1.tail.tail
  simp only [Lib.TabIs, World.var?, tabName, Option.bind_some] at h2
  split at h2
  · rename_i cs e z hh
    simp only [Option.some.injEq] at h2
    rw [h2] at hh
    exact ⟨e, z, hh⟩
  · cases h2
theorem rowBulk : BulkOk (bk := @Rows.uptoBulk) (bkA := @Rows.uptoBulkAll) where
  cons d l := by simp only [Rows.uptoBulkAll]
  slice e s := by simp only [Rows.uptoBulk]; omega
  agg p := by simp only [Rows.uptoBulk]; omega
set_option maxRecDepth 100000 in
theorem lifted (os : Os) (started : os.Started) (H : Type) (enc : TypeId × Value → H) (F : Stop.Interp) :
    ReturnsInHanded {} Tryd.checked os 4 .any ((Rows.OpenSpec.upto Rows.valueSaysSpec).preRow enc Tryd.prog Tryd.f4 Rows.valueSaysUptoRow.domain false Rows.valueSaysUptoRow.laid) (((Rows.OpenSpec.upto Rows.valueSaysSpec).at F).post enc Tryd.prog Tryd.f4 false true false false) := by
  have hreads : ∃ places, DataW.whole enc Tryd.prog ((World.laidAll Tryd.prog os Rows.valueSaysUptoRow.laid).forCall (fun _ _ => 0) ⟨#[], #[.agg #[.int .i64 0, .int .i64 0, .string ByteArray.empty, .slice none 0 0, .slice none 0 0], .agg #[.int .i64 0, .int .i64 0, .string ByteArray.empty, .slice none 0 0, .slice none 0 0], .string ByteArray.empty, .slice none 0 0], []⟩).memory Tryd.f4.params.toList Rows.valueSaysSpec.vars false #[Value.agg #[.int .i64 0, .int .i64 0, .string ByteArray.empty, .slice none 0 0, .slice none 0 0], .agg #[.int .i64 0, .int .i64 0, .string ByteArray.empty, .slice none 0 0, .slice none 0 0], .string ByteArray.empty, .slice none 0 0].toList 8 = some ([.agg [.lit (.int .i64 0), .lit (.int .i64 0), .lit (.string []), .nil, .nil], .agg [.lit (.int .i64 0), .lit (.int .i64 0), .lit (.string []), .nil, .nil], .lit (.string []), .nil], [], places) := ⟨[], by kernel_rfl⟩
  obtain ⟨places, hx⟩ := hreads
  refine returnsInHanded_of_row (C := Tryd.checked) (s := Rows.OpenSpec.upto Rows.valueSaysSpec) rowOwn started (by kernel_rfl) Tryd.func4
    (witness_row_at (enc := enc) (C := Tryd.checked) false (World.laidAll Tryd.prog os Rows.valueSaysUptoRow.laid) _ (World.laidAll_os _ _ _) (by kernel_rfl) (by kernel_rfl) (by kernel_rfl)
      (OpenSpec.preRow_of_cond 8 hx (by kernel_rfl) (fun k hk => by cases hk; kernel_rfl) (by kernel_rfl) (laidMet_laidAll _ (by kernel_rfl) (by kernel_rfl)))) ?_
  intro W base args ds gs before hval0 hW hcnd hk hsz hL _ _
  have hk := hk _ rfl
  have hval : ∀ (j : Nat) t v, Tryd.f4.params[j]? = some t → args[j]? = some v → Value.okWide Tryd.prog W .any base t v := hval0
  have hW' := hW
  obtain ⟨p, q, hA0, hV, rfl, hfz, hnd⟩ := hW
  have hA : DataW.TrodAll enc Tryd.prog W 0 (fun _ => true) true Tryd.f4.params.toList args.toList ds p := hA0
  rw [Tryd.params4] at hA hval
  obtain ⟨v0, vs0, d0, ds0, p0, q0, e0, f0, rfl, h0, r0⟩ := trodAll_cons hA
  obtain ⟨v1, vs1, d1, ds1, p1, q1, e1, f1, rfl, h1, r1⟩ := trodAll_cons r0
  obtain ⟨v2, vs2, d2, ds2, p2, q2, e2, f2, rfl, h2, r2⟩ := trodAll_cons r1
  obtain ⟨v3, vs3, d3, ds3, p3, q3, e3, f3, rfl, h3, r3⟩ := trodAll_cons r2
  obtain ⟨e4, f4, rfl⟩ := trodAll_nil r3
  subst f4
  subst f3
  subst f2
  subst f1
  subst f0
  obtain rfl : args = #[v0, v1, v2, v3] := by
    cases args
    simp_all
  clear e0 e1 e2 e3 e4
  obtain ⟨rfl, rfl⟩ := trodVars_none hV
  obtain ⟨w0, rfl, _⟩ := okWide_struct (by rfl) (hval 0 34 v0 rfl rfl)
  obtain ⟨x0, z0, hx0⟩ := RdB.argS (bk := @Rows.uptoBulk) (f := valIn) (fun _ => rdB_val rowBulk _) valIn_agg h0 (sized_arg (P := Tryd.prog) (t := 34) hsz (j := 0) (by rw [Tryd.params4]; rfl) rfl)
  obtain ⟨w1, rfl, _⟩ := okWide_struct (by rfl) (hval 1 34 v1 rfl rfl)
  obtain ⟨x1, z1, hx1⟩ := RdB.argS (bk := @Rows.uptoBulk) (f := valIn) (fun _ => rdB_val rowBulk _) valIn_agg h1 (sized_arg (P := Tryd.prog) (t := 34) hsz (j := 1) (by rw [Tryd.params4]; rfl) rfl)
  obtain ⟨w2, rfl⟩ := okWide_string (by rfl) (hval 2 9 v2 rfl rfl)
  obtain ⟨x2, hx2⟩ := Rd.arg (f := strAV) (fun _ => rd_string (by rfl)) (fun _ => rfl) rfl h2 (sized_arg (P := Tryd.prog) (t := 9) hsz (j := 2) (by rw [Tryd.params4]; rfl) rfl)
  obtain ⟨w3, l3, c3, rfl⟩ := okWide_slice (by rfl) (hval 3 32 v3 rfl rfl)
  obtain ⟨x3, z3, hx3⟩ := RdB.arg (bk := @Rows.uptoBulk) (f := (lstAV fldIn)) (fun _ => rdB_slice rowBulk (by rfl) (by rfl) (by decide) (by decide) fldIn_len (fun _ _ => rdB_fld rowBulk (fun _ _ => rdB_val rowBulk _))) (fun _ => rfl) rfl h3 (sized_arg (P := Tryd.prog) (t := 32) hsz (j := 3) (by rw [Tryd.params4]; rfl) rfl)
  have hq := of_decide_eq_true hk
  simp only [List.append_nil, Rows.uptoBulkAll] at hq
  have hb3 : ∀ a ∈ x3, depV a.2 ≤ 1000000000 := fun a ha => by
    have h2 : depV a.2 ≤ (x3.map fun a : Str × Val => depV a.2).sum := mem_sum (fun a : Str × Val => depV a.2) ha
    have h3 : (x3.map fun a : Str × Val => depV a.2).sum ≤ Rows.uptoBulk d3 := z3
    omega
  have okT0 := okT_val x0
  have okT1 := okT_val x1
  rw [valIn_eq] at hx0 hx1 okT0 okT1
  clear hA0 hval0
  simp only [List.append_nil, List.append_assoc] at hW'
  obtain ⟨e, z, hT⟩ := table hL
  refine (law_trueT (W := W) (bT := 2) (zs := Lib.pow10Tab) (e := e) (z := z) (avs := [valTop x0, valTop x1, strAV x2, (lstAV fldIn) x3]) (cargs := #[.agg w0, .agg w1, .string w2, .slice w3 l3 c3])
    (u_ValueSays x0 x1 x2 x3 (by omega) (by omega) hb3 _ _ ⟨e, z, by simp [AMem.upd]⟩ ⟨rfl, by simp [AMem.upd]⟩) rfl hT (fun i hi => ?_) ?_).mono fun e W' ⟨he, hb⟩ => ?_
  · match i, hi with
    | 0, _ => exact hx0
    | 1, _ => exact hx1
    | 2, _ => exact hx2
    | 3, _ => exact hx3
    | _ + 4, hi => exact absurd hi (by simp)
  · intro x hx
    simp only [List.mem_cons, List.not_mem_nil, or_false] at hx
    rcases hx with rfl | rfl | rfl | rfl
    · exact okT0
    · exact okT1
    · exact .str _
    · exact okT_flds x3
  · subst he
    exact ⟨_, rfl, law_post (tb := 4) rfl rfl Tryd.underlying4 rowLaid (by kernel_rfl) hW' rfl hb⟩
theorem saidUpto : Rows.ValueSaysUptoSaid :=
  OpenClaim.holds_of_cond 4 Tryd.f4 rfl rfl rfl rfl rfl rfl rfl ⟨rfl, rfl, rfl, rfl, rfl⟩ rfl rfl rfl rfl rfl (by kernel_rfl) Tryd.func4 (by kernel_rfl)
    (of_decide_eq_true (by kernel_rfl)) (by unfold Func.isWrapper; first | (rw [if_pos (by decide +kernel)]; kernel_rfl) | (rw [if_neg (by decide +kernel)]; exact ⟨rfl, rfl⟩))
    (fun os started H enc _ F => by rw [OpenClaim.pre_eq_preRow]; exact lifted os started H enc F)
theorem plain (f : FuncId) (fn : Func) (hf : Tryd.pinned.checked.prog.funcNamed "wavewright/wavewrightlaw.ValueSays" = some f) (hfn : Tryd.pinned.checked.prog.funcs[f]? = some fn) :
    true = Tryd.pinned.checked.prog.looks [] ∧ ∀ (j : Nat) t, fn.params[j]? = some t → Tryd.pinned.checked.prog.wantsStandIn t = false := by
  obtain rfl : f = 4 := Option.some.inj ((show Tryd.prog.funcNamed "wavewright/wavewrightlaw.ValueSays" = some 4 by kernel_rfl).symm.trans hf) |>.symm
  obtain rfl : fn = Tryd.f4 := (Option.some.inj (Tryd.func4.symm.trans hfn)).symm
  refine ⟨by kernel_rfl, fun j t ht => ?_⟩
  rw [Tryd.params4] at ht
  have hm := Array.mem_of_getElem? ht
  simp only [List.mem_toArray, List.mem_cons, List.not_mem_nil, or_false] at hm
  rcases hm with rfl | rfl | rfl | rfl
  · exact (show Tryd.prog.wantsStandIn 34 = false by kernel_rfl)
  · exact (show Tryd.prog.wantsStandIn 34 = false by kernel_rfl)
  · exact (show Tryd.prog.wantsStandIn 9 = false by kernel_rfl)
  · exact (show Tryd.prog.wantsStandIn 32 = false by kernel_rfl)
theorem valueSaysUptoCard_holds : Rows.ValueSaysUptoCardSaid :=
  Claim7.holds_tied_plain_at .later [] _ _ _ _ saidUpto (fun _ h => by cases h) (by kernel_rfl) (fun _ h => by cases h) valueSaysUpto_row_tie rfl ⟨rfl, rfl⟩ (by kernel_rfl) rfl plain (by kernel_rfl)
end Go.Proofs.YtoeghipbkmaccaaDoor
