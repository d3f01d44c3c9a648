/- TopCheck: for every argument the law returns true, and the argument reads afterwards as it did. -/
import Derived.Test.YtaeknjhnpmhcmaaRows
import Derived.Test.YtaeknjhnpmhcmaaChecked
import Derived.Test.YtaeknjhnpmhcmaaRd
import Derived.Test.YtaeknjhnpmhcmaaWxz
import Derived.ProofKit
import Derived.SizedLaws
namespace Go.Proofs.Ytaeknjhnpmhcmaa
open Go Go.ChangeShapes Go.WideShapes Go.ChangeAt Go.RowKit Go.Aw Go.ChangeMaps
theorem rowOwn : ownKnob Try.prog.godebug = none := by kernel_rfl
theorem rowLaid : laidOutB Try.prog = true := by kernel_rfl
theorem u_TopCheck (l : List StkT) : ∀ m K, K (.bool true) m → ACalls Try.prog 3 [lstAV stkAV l] m K := fun m K hK =>
  if hE : chkE l = 0 then u_TopCheck0 l hE m K hK else u_TopCheckE l hE m K hK
set_option maxRecDepth 100000 in
theorem topCheck_lifted (os : Os) (started : os.Started) (H : Type) (enc : TypeId × Value → H) :
    ReturnsInHanded {} Try.checked os 3 .any (Rows.topCheckSpec.pre6 enc Try.prog Try.f3 Rows.topCheckRow.domain false) (Rows.topCheckSpec.post enc Try.prog Try.f3 false true false false) := by
  refine returnsInHanded_of_change_sized (C := Try.checked) rowOwn started (by kernel_rfl) Try.func3
    (ChangeSpec.witness6 (enc := enc) (C := Try.checked) false ⟨#[], #[.slice none 0 0], []⟩ 8 (by kernel_rfl) (by kernel_rfl) (by kernel_rfl) (by kernel_rfl)) ?_
  intro W base args ds gs before hval0 hW hcnd hsz _
  have hval : ∀ (j : Nat) t v, Try.f3.params[j]? = some t → args[j]? = some v → Value.okWide Try.prog W .any base t v := hval0
  have hW' := hW
  obtain ⟨p, q, hA0, hV, rfl, hfz, hnd⟩ := hW
  have hA : DataW.TrodAll enc Try.prog W 0 (fun _ => true) true Try.f3.params.toList args.toList ds p := hA0
  rw [Try.params3] at hA hval
  obtain ⟨v0, vs0, d0, ds0, p0, q0, e0, f0, rfl, h0, r0⟩ := trodAll_cons hA
  obtain ⟨e1, f1, rfl⟩ := trodAll_nil r0
  subst f1
  subst f0
  obtain rfl : args = #[v0] := by
    cases args
    simp_all
  clear e0 e1
  obtain ⟨rfl, rfl⟩ := trodVars_none hV
  obtain ⟨w0, l0, c0, rfl⟩ := okWide_slice (by rfl) (hval 0 22 v0 rfl rfl)
  obtain ⟨x0, hx0⟩ := Rd.arg (f := (lstAV stkAV)) (fun _ => rd_slice (by rfl) (by rfl) (by decide) (by decide) (fun _ => rfl) (fun _ _ => rd_stk _)) (fun _ => rfl) rfl h0 (sized_arg (P := Try.prog) (t := 22) hsz (j := 0) (by rw [Try.params3]; rfl) rfl)
  clear hA0 hval0
  simp only [List.append_nil, List.append_assoc] at hW'
  refine (law_true (W := W) (avs := [(lstAV stkAV) x0]) (cargs := #[.slice w0 l0 c0]) (u_TopCheck x0 _ _ rfl) rfl (fun i hi => ?_)).mono fun e W' ⟨he, hb⟩ => ?_
  · match i, hi with
    | 0, _ => exact hx0
    | _ + 1, hi => exact absurd hi (by simp)
  · subst he
    exact ⟨_, rfl, law_post (tb := 4) rfl rfl Try.underlying4 rowLaid (by kernel_rfl) hW' rfl hb⟩
theorem topCheck_holds : Rows.TopCheckSaid :=
  OpenClaim.holds_of_wide 3 Try.f3 rfl rfl rfl rfl rfl rfl rfl ⟨rfl, rfl, rfl, rfl, rfl⟩ rfl rfl rfl rfl rfl (by kernel_rfl) Try.func3 (by kernel_rfl)
    (of_decide_eq_true (by kernel_rfl)) (by unfold Func.isWrapper; first | (rw [if_neg (by decide +kernel)]; exact ⟨rfl, rfl⟩))
    (fun os started H enc _ => topCheck_lifted os started H enc)
end Go.Proofs.Ytaeknjhnpmhcmaa
