/- EvalSays, where what it reads is of bulk at most 1048576: the law returns true, and the arguments read afterwards as they did; the listed variables are those that the program's text lays. -/
import Derived.Test.YtnahenbiipdlkaaDoorRows
import Derived.Test.YtnahenbiipdlkaaDoorCards
import Derived.Test.YtnahenbiipdlkaaDoorTie
import Derived.Test.YtnahenbiipdlkaaDoorChecked
import Derived.Test.YtnahenbiipdlkaaDoorRdb
import Derived.Test.YtnahenbiipdlkaaDoorSv4
import Derived.Test.YtnahenbiipdlkaaDoorWxz
import Derived.ProofKit
import Derived.SizedLaws
import Derived.LaidMore
import Derived.Lay
import Derived.OpenShut
import Derived.JoinedCond
import Derived.Deep.CondSized
import Derived.Deep.DeepHandedRow
import Derived.Lib.LaidTab
import Derived.Stop.LaidErr
import Derived.SevenTiedAt
namespace Go.Proofs.YtnahenbiipdlkaaDoor
open Go Go.ChangeShapes Go.WideShapes Go.ChangeAt Go.RowKit Go.Aw Go.ChangeMaps
theorem rowOwn : ownKnob Tryd.prog.godebug = none := by kernel_rfl
theorem rowLaid : laidOutB Tryd.prog = true := by kernel_rfl
theorem powName : Tryd.prog.globalNamed "internal/strconv.uint64pow10" = some 0 := by kernel_rfl
theorem synName : Tryd.prog.globalNamed "strconv.ErrSyntax" = some 2 := by kernel_rfl
theorem synType : (Tryd.prog.globals[2]?).map (·.type) = some 41 := by kernel_rfl
theorem tabType : (Tryd.prog.globals[0]?).map (·.type) = some 161 := by kernel_rfl
theorem tabCells : Tryd.prog.cellsOf 161 = 20 := by kernel_rfl
theorem u64Cells : Tryd.prog.cellsOf 153 = 1 := by kernel_rfl
theorem esCells : Tryd.prog.cellsOf 183 = 1 := by kernel_rfl
theorem strCells : Tryd.prog.cellsOf 9 = 1 := by kernel_rfl
theorem star : "*" ++ "errors.errorString" = "*errors.errorString" := by decide
theorem row181 (u : TypeId) (h : Tryd.prog.typeName? 3 u = some "*errors.errorString") : u = 181 :=
  typeName_ptr_named (nm := "errors.errorString") (by rw [star]; kernel_rfl) (by kernel_rfl) (by decide) u (by rw [star]; exact h)
theorem laidTabEq {H : Type} : (Rows.laid_internal_strconv_uint64pow10 : DataW H) = Lib.tabData .u64 Lib.pow10Tab := rfl
theorem tables {W : World} (h : laidMetH Tryd.prog Rows.evalSaysUptoRow.laid W) : ∃ e z e2 z2 tp p, W.heap[0]? = some (.cells (Lib.pow10Tab.map (Value.int .u64)).toArray e z) ∧ W.heap[2]? = some (.cells #[.iface tp p] e2 z2) := by
  have h1 : laidMet Tryd.prog Rows.evalSaysUptoRow.laid W := by rwa [MakeChecks.laidMetH_plain _ _ _ (by kernel_rfl)] at h
  have h2 : Lib.TabIs Tryd.prog W "internal/strconv.uint64pow10" .u64 Lib.pow10Tab :=
    Lib.tabIs_of_head powName tabType Tryd.underlying161 Tryd.underlying153 u64Cells tabCells h1.tail.tail
  obtain ⟨a, s, h3, _, _, _⟩ := laid_sentinel h1.tail.tail.tail.tail synName synType Tryd.underlying41 row181 Tryd.underlying181 Tryd.underlying183 rfl rfl Tryd.underlying9 esCells strCells
  simp only [Lib.TabIs, World.var?, powName, Option.bind_some] at h2
  simp only [World.var?, synName, Option.bind_some] at h3
  split at h2
  · rename_i cs e z hh
    simp only [Option.some.injEq] at h2
    rw [h2] at hh
    split at h3
    · rename_i cs2 e2 z2 hh2
      simp only [Option.some.injEq] at h3
      rw [h3] at hh2
      exact ⟨e, z, e2, z2, _, _, hh, hh2⟩
    · cases h3
  · cases h2
theorem rowBulk : BulkOk (bk := @Rows.uptoBulk) (bkA := @Rows.uptoBulkAll) where
  cons d l := by simp only [Rows.uptoBulkAll]
  slice e s := by simp only [Rows.uptoBulk]; omega
  agg p := by simp only [Rows.uptoBulk]; omega
theorem rowOne {H : Type} (d : DataW H) : 1 ≤ Rows.uptoBulk d := by
  unfold Rows.uptoBulk; split <;> omega
def tabs (e : TypeId) (z : Nat × Nat) (e2 : TypeId) (z2 : Nat × Nat) (tp : TypeId) (p : Value) : Nat → Option TabG := fun b =>
  if b = 0 then some ⟨e, z, (Lib.pow10Tab.map (Value.int .u64)).toArray⟩ else if b = 2 then some ⟨e2, z2, #[.iface tp p]⟩ else none
set_option maxRecDepth 100000 in
theorem lifted (os : Os) (started : os.Started) (H : Type) (enc : TypeId × Value → H) (F : Stop.Interp) :
    ReturnsInHanded {} Tryd.checked os 3 .any ((Rows.OpenSpec.upto Rows.evalSaysSpec).preRow enc Tryd.prog Tryd.f3 Rows.evalSaysUptoRow.domain false Rows.evalSaysUptoRow.laid) (((Rows.OpenSpec.upto Rows.evalSaysSpec).at F).post enc Tryd.prog Tryd.f3 false true false false) := by
  have hreads : ∃ places, DataW.whole enc Tryd.prog ((World.laidAll Tryd.prog os Rows.evalSaysUptoRow.laid).forCall (fun _ _ => 0) ⟨#[], #[.agg #[.int .i64 0, .int .i64 0, .int .i64 0, .string ByteArray.empty, .slice none 0 0, .slice none 0 0, .string ByteArray.empty, .string ByteArray.empty, .slice none 0 0, .slice none 0 0], .slice none 0 0, .slice none 0 0, .slice none 0 0], []⟩).memory Tryd.f3.params.toList Rows.evalSaysSpec.vars false #[Value.agg #[.int .i64 0, .int .i64 0, .int .i64 0, .string ByteArray.empty, .slice none 0 0, .slice none 0 0, .string ByteArray.empty, .string ByteArray.empty, .slice none 0 0, .slice none 0 0], .slice none 0 0, .slice none 0 0, .slice none 0 0].toList 8 = some ([.agg [.lit (.int .i64 0), .agg [.lit (.int .i64 0), .lit (.int .i64 0), .lit (.string []), .nil, .nil], .lit (.string []), .lit (.string []), .nil, .nil], .nil, .nil, .nil], [], places) := ⟨[], by kernel_rfl⟩
  obtain ⟨places, hx⟩ := hreads
  refine returnsInHanded_of_row (C := Tryd.checked) (s := Rows.OpenSpec.upto Rows.evalSaysSpec) rowOwn started (by kernel_rfl) Tryd.func3
    (witness_row_at (enc := enc) (C := Tryd.checked) false (World.laidAll Tryd.prog os Rows.evalSaysUptoRow.laid) _ (World.laidAll_os _ _ _) (by kernel_rfl) (by kernel_rfl) (by kernel_rfl)
      (OpenSpec.preRow_of_cond 8 hx (by kernel_rfl) (fun k hk => by cases hk; kernel_rfl) (by kernel_rfl) (laidMet_laidAll _ (by kernel_rfl) (by kernel_rfl)))) ?_
  intro W base args ds gs before hval0 hW hcnd hk hsz hL _ _
  have hk := hk _ rfl
  have hval : ∀ (j : Nat) t v, Tryd.f3.params[j]? = some t → args[j]? = some v → Value.okWide Tryd.prog W .any base t v := hval0
  have hW' := hW
  obtain ⟨p, q, hA0, hV, rfl, hfz, hnd⟩ := hW
  have hA : DataW.TrodAll enc Tryd.prog W 0 (fun _ => true) true Tryd.f3.params.toList args.toList ds p := hA0
  rw [Tryd.params3] at hA hval
  obtain ⟨v0, vs0, d0, ds0, p0, q0, e0, f0, rfl, h0, r0⟩ := trodAll_cons hA
  obtain ⟨v1, vs1, d1, ds1, p1, q1, e1, f1, rfl, h1, r1⟩ := trodAll_cons r0
  obtain ⟨v2, vs2, d2, ds2, p2, q2, e2, f2, rfl, h2, r2⟩ := trodAll_cons r1
  obtain ⟨v3, vs3, d3, ds3, p3, q3, e3, f3, rfl, h3, r3⟩ := trodAll_cons r2
  obtain ⟨e4, f4, rfl⟩ := trodAll_nil r3
  subst f4
  subst f3
  subst f2
  subst f1
  subst f0
  obtain rfl : args = #[v0, v1, v2, v3] := by
    cases args
    simp_all
  clear e0 e1 e2 e3 e4
  obtain ⟨rfl, rfl⟩ := trodVars_none hV
  obtain ⟨w0, rfl, _⟩ := okWide_struct (by rfl) (hval 0 29 v0 rfl rfl)
  obtain ⟨x0, z0, hx0⟩ := RdB.argS (bk := @Rows.uptoBulk) (f := expIn) (fun _ => rdB_exp rowBulk rowOne _) expIn_agg h0 (sized_arg (P := Tryd.prog) (t := 29) hsz (j := 0) (by rw [Tryd.params3]; rfl) rfl)
  obtain ⟨w1, l1, c1, rfl⟩ := okWide_slice (by rfl) (hval 1 23 v1 rfl rfl)
  obtain ⟨x1, z1, hx1⟩ := RdB.arg (bk := @Rows.uptoBulk) (f := (lstAV fldIn)) (fun _ => rdB_slice rowBulk (by rfl) (by rfl) (by decide) (by decide) fldIn_len (fun _ _ => rdB_fld rowBulk (fun _ _ => rdB_val rowBulk _))) (fun _ => rfl) rfl h1 (sized_arg (P := Tryd.prog) (t := 23) hsz (j := 1) (by rw [Tryd.params3]; rfl) rfl)
  obtain ⟨w2, l2, c2, rfl⟩ := okWide_slice (by rfl) (hval 2 23 v2 rfl rfl)
  obtain ⟨x2, z2, hx2⟩ := RdB.arg (bk := @Rows.uptoBulk) (f := (lstAV fldIn)) (fun _ => rdB_slice rowBulk (by rfl) (by rfl) (by decide) (by decide) fldIn_len (fun _ _ => rdB_fld rowBulk (fun _ _ => rdB_val rowBulk _))) (fun _ => rfl) rfl h2 (sized_arg (P := Tryd.prog) (t := 23) hsz (j := 2) (by rw [Tryd.params3]; rfl) rfl)
  obtain ⟨w3, l3, c3, rfl⟩ := okWide_slice (by rfl) (hval 3 23 v3 rfl rfl)
  obtain ⟨x3, z3, hx3⟩ := RdB.arg (bk := @Rows.uptoBulk) (f := (lstAV fldIn)) (fun _ => rdB_slice rowBulk (by rfl) (by rfl) (by decide) (by decide) fldIn_len (fun _ _ => rdB_fld rowBulk (fun _ _ => rdB_val rowBulk _))) (fun _ => rfl) rfl h3 (sized_arg (P := Tryd.prog) (t := 23) hsz (j := 3) (by rw [Tryd.params3]; rfl) rfl)
  have hq := of_decide_eq_true hk
  simp only [List.append_nil, Rows.uptoBulkAll] at hq
  replace z1 : (x1.map fun p => depV p.2).sum ≤ Rows.uptoBulk d1 := z1
  rw [sum_depF] at z1
  replace z2 : (x2.map fun p => depV p.2).sum ≤ Rows.uptoBulk d2 := z2
  rw [sum_depF] at z2
  replace z3 : (x3.map fun p => depV p.2).sum ≤ Rows.uptoBulk d3 := z3
  rw [sum_depF] at z3
  have okT0 := okT_exp x0
  rw [expIn_eq] at hx0 okT0
  clear hA0 hval0
  simp only [List.append_nil, List.append_assoc] at hW'
  obtain ⟨e, z, e2, z2, tp, pp, hT, hT2⟩ := tables hL
  refine (law_trueG (W := W) (G := tabs e z e2 z2 tp pp) (avs := [expTop x0, (lstAV fldIn) x1, (lstAV fldIn) x2, (lstAV fldIn) x3]) (cargs := #[.agg w0, .slice w1 l1 c1, .slice w2 l2 c2, .slice w3 l3 c3])
    (u_EvalSays x0 x1 x2 x3 (by omega) (by omega) (by omega) (by omega) _ _ ⟨e, z, e2, z2, tp, pp, rfl, rfl⟩ ⟨rfl, fun b t hb => by unfold memG; rw [hb]; rfl⟩) rfl (fun b t hb => ?_) (fun i hi => ?_) ?_).mono fun e W' ⟨he, hb⟩ => ?_
  · unfold tabs at hb
    split at hb
    · obtain rfl := Option.some.inj hb
      subst b
      refine ⟨hT, fun v hv => ?_⟩
      obtain ⟨n, _, rfl⟩ := List.mem_map.1 hv
      exact .u64 n
    · split at hb
      · obtain rfl := Option.some.inj hb
        subst b
        refine ⟨hT2, fun v hv => ?_⟩
        rw [List.mem_singleton.1 (show v ∈ [Value.iface tp pp] from hv)]
        exact .iface _ _
      · cases hb
  · match i, hi with
    | 0, _ => exact hx0
    | 1, _ => exact hx1
    | 2, _ => exact hx2
    | 3, _ => exact hx3
    | _ + 4, hi => exact absurd hi (by simp)
  · intro x hx
    simp only [List.mem_cons, List.not_mem_nil, or_false] at hx
    rcases hx with rfl | rfl | rfl | rfl
    · exact okT0
    · exact okT_flds x1
    · exact okT_flds x2
    · exact okT_flds x3
  · subst he
    exact ⟨_, rfl, law_post (tb := 4) rfl rfl Tryd.underlying4 rowLaid (by kernel_rfl) hW' rfl hb⟩
theorem saidUpto : Rows.EvalSaysUptoSaid :=
  OpenClaim.holds_of_cond 3 Tryd.f3 rfl rfl rfl rfl rfl rfl rfl ⟨rfl, rfl, rfl, rfl, rfl⟩ rfl rfl rfl rfl rfl (by kernel_rfl) Tryd.func3 (by kernel_rfl)
    (of_decide_eq_true (by kernel_rfl)) (by unfold Func.isWrapper; first | (rw [if_pos (by decide +kernel)]; kernel_rfl) | (rw [if_neg (by decide +kernel)]; exact ⟨rfl, rfl⟩))
    (fun os started H enc _ F => by rw [OpenClaim.pre_eq_preRow]; exact lifted os started H enc F)
theorem plain (f : FuncId) (fn : Func) (hf : Tryd.pinned.checked.prog.funcNamed "wavewright/wavewrightlaw.EvalSays" = some f) (hfn : Tryd.pinned.checked.prog.funcs[f]? = some fn) :
    true = Tryd.pinned.checked.prog.looks [] ∧ ∀ (j : Nat) t, fn.params[j]? = some t → Tryd.pinned.checked.prog.wantsStandIn t = false := by
  obtain rfl : f = 3 := Option.some.inj ((show Tryd.prog.funcNamed "wavewright/wavewrightlaw.EvalSays" = some 3 by kernel_rfl).symm.trans hf) |>.symm
  obtain rfl : fn = Tryd.f3 := (Option.some.inj (Tryd.func3.symm.trans hfn)).symm
  refine ⟨by kernel_rfl, fun j t ht => ?_⟩
  rw [Tryd.params3] at ht
  have hm := Array.mem_of_getElem? ht
  simp only [List.mem_toArray, List.mem_cons, List.not_mem_nil, or_false] at hm
  rcases hm with rfl | rfl | rfl | rfl
  · exact (show Tryd.prog.wantsStandIn 29 = false by kernel_rfl)
  · exact (show Tryd.prog.wantsStandIn 23 = false by kernel_rfl)
  · exact (show Tryd.prog.wantsStandIn 23 = false by kernel_rfl)
  · exact (show Tryd.prog.wantsStandIn 23 = false by kernel_rfl)
theorem evalSaysUptoCard_holds : Rows.EvalSaysUptoCardSaid :=
  Claim7.holds_tied_plain_at .later [] _ _ _ _ saidUpto (fun _ h => by cases h) (by kernel_rfl) (fun _ h => by cases h) evalSaysUpto_row_tie rfl ⟨rfl, rfl⟩ (by kernel_rfl) rfl plain (by kernel_rfl)
end Go.Proofs.YtnahenbiipdlkaaDoor
