/- TopEval: for every argument the law returns true, and the arguments read afterwards as they did. -/
import Derived.Test.YtbpdfkladkcagaaRows
import Derived.Test.YtbpdfkladkcagaaChecked
import Derived.Test.YtbpdfkladkcagaaEv5
import Derived.Test.YtbpdfkladkcagaaRd
import Derived.Test.YtbpdfkladkcagaaWxf
import Derived.Test.YtbpdfkladkcagaaWl4
import Derived.ProofKit
import Derived.SizedLaws
namespace Go.Proofs.Ytbpdfkladkcagaa
open Go.ChangeShapes Go.WideShapes Go.ChangeAt Go.RowKit Go.Aw Go.ChangeMaps

theorem rowOwn : ownKnob Try.prog.godebug = none := by kernel_rfl
theorem rowLaid : laidOutB Try.prog = true := by kernel_rfl

set_option maxRecDepth 100000 in
theorem topEval_lifted (os : Os) (started : os.Started) (H : Type) (enc : TypeId × Value → H) :
    ReturnsInHanded {} Try.checked os 3 .any (Rows.topEvalSpec.pre6 enc Try.prog Try.f3 Rows.topEvalRow.domain false) (Rows.topEvalSpec.post enc Try.prog Try.f3 false true false false) := by
  refine returnsInHanded_of_change_sized (C := Try.checked) rowOwn started (by kernel_rfl) Try.func3
    (ChangeSpec.witness6 (enc := enc) (C := Try.checked) false ⟨#[], #[.agg #[.int .i64 0, .int .i64 0, .int .i64 0, .string ByteArray.empty, .slice none 0 0, .slice none 0 0, .string ByteArray.empty, .string ByteArray.empty, .slice none 0 0, .slice none 0 0], .slice none 0 0, .string ByteArray.empty, .agg #[.int .i64 0, .int .i64 0, .string ByteArray.empty, .slice none 0 0, .slice none 0 0]], []⟩ 8 (by kernel_rfl) (by kernel_rfl) (by kernel_rfl) (by kernel_rfl)) ?_
  intro W base args ds gs before hval0 hW hcnd hsz _
  have hval : ∀ (j : Nat) t v, Try.f3.params[j]? = some t → args[j]? = some v → Value.okWide Try.prog W .any base t v := hval0
  have hW' := hW
  obtain ⟨p, q, hA0, hV, rfl, hfz, hnd⟩ := hW
  have hA : DataW.TrodAll enc Try.prog W 0 (fun _ => true) true Try.f3.params.toList args.toList ds p := hA0
  rw [Try.params3] at hA hval
  obtain ⟨v0, vs0, d0, ds0, p0, q0, e0, f0, rfl, h0, r0⟩ := trodAll_cons hA
  obtain ⟨v1, vs1, d1, ds1, p1, q1, e1, f1, rfl, h1, r1⟩ := trodAll_cons r0
  obtain ⟨v2, vs2, d2, ds2, p2, q2, e2, f2, rfl, h2, r2⟩ := trodAll_cons r1
  obtain ⟨v3, vs3, d3, ds3, p3, q3, e3, f3, rfl, h3, r3⟩ := trodAll_cons r2
  obtain ⟨e4, f4, rfl⟩ := trodAll_nil r3
  subst f4
  subst f3
  subst f2
  subst f1
  subst f0
  obtain rfl : args = #[v0, v1, v2, v3] := by
    cases args
    simp_all
  clear e0 e1 e2 e3 e4
  obtain ⟨rfl, rfl⟩ := trodVars_none hV
  obtain ⟨w0, rfl, _⟩ := okWide_struct (by rfl) (hval 0 29 v0 rfl rfl)
  obtain ⟨x0, ok0, hx0⟩ := RdP.argS (f := expIn) (fun _ => rdP_exp _) expIn_agg h0 (sized_arg (P := Try.prog) (t := 29) hsz (j := 0) (by rw [Try.params3]; rfl) rfl)
  rw [expIn_eq] at hx0
  obtain ⟨w1, l1, c1, rfl⟩ := okWide_slice (by rfl) (hval 1 23 v1 rfl rfl)
  obtain ⟨x1, ok1, hx1⟩ := RdP.arg1 (f := (lstAV fldIn)) (fun _ => rdP_flds _ (by rfl)) (fun _ => rfl) rfl h1 (sized_arg (P := Try.prog) (t := 23) hsz (j := 1) (by rw [Try.params3]; rfl) rfl)
  obtain ⟨w2, rfl⟩ := okWide_string (by rfl) (hval 2 9 v2 rfl rfl)
  obtain ⟨x2, hx2⟩ := Rd.arg (f := strAV) (fun _ => rd_string (by rfl)) (fun _ => rfl) rfl h2 (sized_arg (P := Try.prog) (t := 9) hsz (j := 2) (by rw [Try.params3]; rfl) rfl)
  obtain ⟨w3, rfl, _⟩ := okWide_struct (by rfl) (hval 3 25 v3 rfl rfl)
  obtain ⟨x3, ok3, hx3⟩ := RdP.argS (f := valIn) (fun _ => rdP_val _) valIn_agg h3 (sized_arg (P := Try.prog) (t := 25) hsz (j := 3) (by rw [Try.params3]; rfl) rfl)
  rw [valIn_eq] at hx3
  clear hA0 hval0
  simp only [List.append_nil, List.append_assoc] at hW'
  refine (law_true (W := W) (avs := [expTop x0, (lstAV fldIn) x1, strAV x2, valTop x3]) (cargs := #[.agg w0, .slice w1 l1 c1, .string w2, .agg w3]) (u_TopEval x0 x1 x2 x3 ok0 ⟨by have := ok1.1; omega, ok1.2⟩ ok3 _ _ rfl) rfl (fun i hi => ?_)).mono fun e W' ⟨he, hb⟩ => ?_
  · match i, hi with
    | 0, _ => exact hx0
    | 1, _ => exact hx1
    | 2, _ => exact hx2
    | 3, _ => exact hx3
    | _ + 4, hi => exact absurd hi (by simp)
  · subst he
    exact ⟨_, rfl, law_post (tb := 4) rfl rfl Try.underlying4 rowLaid (by kernel_rfl) hW' rfl hb⟩

theorem topEval_holds : Rows.TopEvalSaid :=
  OpenClaim.holds_of_wide 3 Try.f3 rfl rfl rfl rfl rfl rfl rfl ⟨rfl, rfl, rfl, rfl, rfl⟩ rfl rfl rfl rfl rfl (by kernel_rfl) Try.func3 (by kernel_rfl)
    (of_decide_eq_true (by kernel_rfl)) (by unfold Func.isWrapper; first | (rw [if_neg (by decide +kernel)]; exact ⟨rfl, rfl⟩))
    (fun os started H enc _ => topEval_lifted os started H enc)
end Go.Proofs.Ytbpdfkladkcagaa
