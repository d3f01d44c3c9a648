/- TopDisk: for every argument the law returns true, and the arguments read afterwards as they did. -/
import Derived.Test.YtoeghipbkmaccaaRows
import Derived.Test.YtoeghipbkmaccaaChecked
import Derived.Test.YtoeghipbkmaccaaRd
import Derived.Test.YtoeghipbkmaccaaWxf
import Derived.ProofKit
import Derived.SizedLaws
namespace Go.Proofs.Ytoeghipbkmaccaa
open Go.ChangeShapes Go.WideShapes Go.ChangeAt Go.RowKit Go.Aw Go.ChangeMaps

theorem rowOwn : ownKnob Try.prog.godebug = none := by kernel_rfl
theorem rowLaid : laidOutB Try.prog = true := by kernel_rfl

set_option maxRecDepth 100000 in
theorem topDisk_lifted (os : Os) (started : os.Started) (H : Type) (enc : TypeId × Value → H) :
    ReturnsInHanded {} Try.checked os 7 .any (Rows.topDiskSpec.pre6 enc Try.prog Try.f7 Rows.topDiskRow.domain false) (Rows.topDiskSpec.post enc Try.prog Try.f7 false true false false) := by
  refine returnsInHanded_of_change_sized (C := Try.checked) rowOwn started (by kernel_rfl) Try.func7
    (ChangeSpec.witness6 (enc := enc) (C := Try.checked) false ⟨#[], #[.slice none 0 0, .slice none 0 0, .int .i64 0], []⟩ 8 (by kernel_rfl) (by kernel_rfl) (by kernel_rfl) (by kernel_rfl)) ?_
  intro W base args ds gs before hval0 hW hcnd hsz _
  have hval : ∀ (j : Nat) t v, Try.f7.params[j]? = some t → args[j]? = some v → Value.okWide Try.prog W .any base t v := hval0
  have hW' := hW
  obtain ⟨p, q, hA0, hV, rfl, hfz, hnd⟩ := hW
  have hA : DataW.TrodAll enc Try.prog W 0 (fun _ => true) true Try.f7.params.toList args.toList ds p := hA0
  rw [Try.params7] at hA hval
  obtain ⟨v0, vs0, d0, ds0, p0, q0, e0, f0, rfl, h0, r0⟩ := trodAll_cons hA
  obtain ⟨v1, vs1, d1, ds1, p1, q1, e1, f1, rfl, h1, r1⟩ := trodAll_cons r0
  obtain ⟨v2, vs2, d2, ds2, p2, q2, e2, f2, rfl, h2, r2⟩ := trodAll_cons r1
  obtain ⟨e3, f3, rfl⟩ := trodAll_nil r2
  subst f3
  subst f2
  subst f1
  subst f0
  obtain rfl : args = #[v0, v1, v2] := by
    cases args
    simp_all
  clear e0 e1 e2 e3
  obtain ⟨rfl, rfl⟩ := trodVars_none hV
  obtain ⟨w0, l0, c0, rfl⟩ := okWide_slice (by rfl) (hval 0 22 v0 rfl rfl)
  obtain ⟨x0, hx0⟩ := Rd.arg (f := (lstAV actAV)) (fun _ => rd_slice (by rfl) (by rfl) (by decide) (by decide) (fun _ => rfl) (fun _ _ => rd_act _)) (fun _ => rfl) rfl h0 (sized_arg (P := Try.prog) (t := 22) hsz (j := 0) (by rw [Try.params7]; rfl) rfl)
  obtain ⟨w1, l1, c1, rfl⟩ := okWide_slice (by rfl) (hval 1 22 v1 rfl rfl)
  obtain ⟨x1, hx1⟩ := Rd.arg (f := (lstAV actAV)) (fun _ => rd_slice (by rfl) (by rfl) (by decide) (by decide) (fun _ => rfl) (fun _ _ => rd_act _)) (fun _ => rfl) rfl h1 (sized_arg (P := Try.prog) (t := 22) hsz (j := 1) (by rw [Try.params7]; rfl) rfl)
  obtain ⟨w2, rfl⟩ := okWide_int (by rfl) (hval 2 3 v2 rfl rfl)
  obtain ⟨x2, hx2⟩ := Rd.arg (f := intAV) (fun _ => rd_int (by rfl)) (fun _ => rfl) rfl h2 (sized_arg (P := Try.prog) (t := 3) hsz (j := 2) (by rw [Try.params7]; rfl) rfl)
  clear hA0 hval0
  simp only [List.append_nil, List.append_assoc] at hW'
  refine (law_true (W := W) (avs := [(lstAV actAV) x0, (lstAV actAV) x1, intAV x2]) (cargs := #[.slice w0 l0 c0, .slice w1 l1 c1, .int .i64 w2]) (u_TopDisk x0 x1 x2 _ _ rfl) rfl (fun i hi => ?_)).mono fun e W' ⟨he, hb⟩ => ?_
  · match i, hi with
    | 0, _ => exact hx0
    | 1, _ => exact hx1
    | 2, _ => exact hx2
    | _ + 3, hi => exact absurd hi (by simp)
  · subst he
    exact ⟨_, rfl, law_post (tb := 4) rfl rfl Try.underlying4 rowLaid (by kernel_rfl) hW' rfl hb⟩

theorem topDisk_holds : Rows.TopDiskSaid :=
  OpenClaim.holds_of_wide 7 Try.f7 rfl rfl rfl rfl rfl rfl rfl ⟨rfl, rfl, rfl, rfl, rfl⟩ rfl rfl rfl rfl rfl (by kernel_rfl) Try.func7 (by kernel_rfl)
    (of_decide_eq_true (by kernel_rfl)) (by unfold Func.isWrapper; first | (rw [if_neg (by decide +kernel)]; exact ⟨rfl, rfl⟩))
    (fun os started H enc _ => topDisk_lifted os started H enc)
end Go.Proofs.Ytoeghipbkmaccaa
