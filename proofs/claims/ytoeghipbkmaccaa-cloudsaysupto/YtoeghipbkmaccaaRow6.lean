/- CloudSays, where what it reads is of bulk at most 1048576: the law returns true, and the arguments read afterwards as they did. -/
import Derived.Test.YtoeghipbkmaccaaRows
import Derived.Test.YtoeghipbkmaccaaChecked
import Derived.Test.YtoeghipbkmaccaaCl16
import Derived.Test.YtoeghipbkmaccaaRdb
import Derived.Test.YtoeghipbkmaccaaWxc
import Derived.ProofKit
import Derived.SizedLaws
import Derived.JoinedCond
import Derived.Deep.CondSized
namespace Go.Proofs.Ytoeghipbkmaccaa
open Go.ChangeShapes Go.WideShapes Go.ChangeAt Go.RowKit Go.Aw Go.ChangeMaps
theorem rowOwn : ownKnob Try.prog.godebug = none := by kernel_rfl
theorem rowLaid : laidOutB Try.prog = true := by kernel_rfl
theorem rowBulk : BulkOk (bk := @Rows.uptoBulk) (bkA := @Rows.uptoBulkAll) where
  cons d l := by simp only [Rows.uptoBulkAll]
  slice e s := by simp only [Rows.uptoBulk]; omega
  agg p := by simp only [Rows.uptoBulk]; omega
set_option maxRecDepth 100000 in
theorem cloudSays_lifted (os : Os) (started : os.Started) (H : Type) (enc : TypeId × Value → H) (F : Stop.Interp) :
    ReturnsInHanded {} Try.checked os 5 .any ((Rows.OpenSpec.upto Rows.cloudSaysSpec).pre6 enc Try.prog Try.f5 Rows.cloudSaysUptoRow.domain false) (((Rows.OpenSpec.upto Rows.cloudSaysSpec).at F).post enc Try.prog Try.f5 false true false false) := by
  refine returnsInHanded_of_cond_sized (C := Try.checked) (s := Rows.OpenSpec.upto Rows.cloudSaysSpec) (k := Rows.uptoSmall) rfl rowOwn started (by kernel_rfl) Try.func5
    (OpenSpec.witness (enc := enc) (C := Try.checked) (s := Rows.OpenSpec.upto Rows.cloudSaysSpec) (k := Rows.uptoSmall) rfl false ⟨#[], #[.int .i64 0, .slice none 0 0], []⟩ 8 (by kernel_rfl) (by kernel_rfl) (by kernel_rfl)
      (x := ([.lit (.int .i64 0), .nil], [], [])) (by kernel_rfl) rfl (by kernel_rfl)) ?_
  intro W base args ds gs before hval0 hW hcnd hk hsz _
  have hval : ∀ (j : Nat) t v, Try.f5.params[j]? = some t → args[j]? = some v → Value.okWide Try.prog W .any base t v := hval0
  have hW' := hW
  obtain ⟨p, q, hA0, hV, rfl, hfz, hnd⟩ := hW
  have hA : DataW.TrodAll enc Try.prog W 0 (fun _ => true) true Try.f5.params.toList args.toList ds p := hA0
  rw [Try.params5] at hA hval
  obtain ⟨v0, vs0, d0, ds0, p0, q0, e0, f0, rfl, h0, r0⟩ := trodAll_cons hA
  obtain ⟨v1, vs1, d1, ds1, p1, q1, e1, f1, rfl, h1, r1⟩ := trodAll_cons r0
  obtain ⟨e2, f2, rfl⟩ := trodAll_nil r1
  subst f2
  subst f1
  subst f0
  obtain rfl : args = #[v0, v1] := by
    cases args
    simp_all
  clear e0 e1 e2
  obtain ⟨rfl, rfl⟩ := trodVars_none hV
  obtain ⟨w0, rfl⟩ := okWide_int (by rfl) (hval 0 3 v0 rfl rfl)
  obtain ⟨x0, hx0⟩ := Rd.arg (f := intAV) (fun _ => rd_int (by rfl)) (fun _ => rfl) rfl h0 (sized_arg (P := Try.prog) (t := 3) hsz (j := 0) (by rw [Try.params5]; rfl) rfl)
  obtain ⟨w1, l1, c1, rfl⟩ := okWide_slice (by rfl) (hval 1 22 v1 rfl rfl)
  obtain ⟨x1, hz1, hx1⟩ := RdB.arg (bk := @Rows.uptoBulk) (f := (lstAV actAV)) (fun _ => rdB_slice rowBulk (by rfl) (by rfl) (by decide) (by decide) (fun _ => rfl) (fun _ _ => rdB_act rowBulk _)) (fun _ => rfl) rfl h1 (sized_arg (P := Try.prog) (t := 22) hsz (j := 1) (by rw [Try.params5]; rfl) rfl)
  have hbv : ∀ a ∈ x1, depV a.v ≤ 1000000000000 := fun a ha => by
    have hq := of_decide_eq_true hk
    simp only [List.append_nil, Rows.uptoBulkAll] at hq
    have h2 : depV a.v ≤ (x1.map fun a : ActT => depV a.v).sum := mem_sum (fun a : ActT => depV a.v) ha
    have h3 : (x1.map fun a : ActT => depV a.v).sum ≤ Rows.uptoBulk d1 := hz1
    omega
  clear hA0 hval0
  simp only [List.append_nil, List.append_assoc] at hW'
  refine (law_true (W := W) (avs := [intAV x0, (lstAV actAV) x1]) (cargs := #[.int .i64 w0, .slice w1 l1 c1]) (u_CloudSays x0 x1 hbv _ _ rfl) rfl (fun i hi => ?_)).mono fun e W' ⟨he, hb⟩ => ?_
  · match i, hi with
    | 0, _ => exact hx0
    | 1, _ => exact hx1
    | _ + 2, hi => exact absurd hi (by simp)
  · subst he
    exact ⟨_, rfl, law_post (tb := 4) rfl rfl Try.underlying4 rowLaid (by kernel_rfl) hW' rfl hb⟩
theorem cloudSaysUpto_holds : Rows.CloudSaysUptoSaid :=
  OpenClaim.holds_of_cond 5 Try.f5 rfl rfl rfl rfl rfl rfl rfl ⟨rfl, rfl, rfl, rfl, rfl⟩ rfl rfl rfl rfl rfl (by kernel_rfl) Try.func5 (by kernel_rfl)
    (of_decide_eq_true (by kernel_rfl)) (by unfold Func.isWrapper; first | (rw [if_pos (by decide +kernel)]; kernel_rfl) | (rw [if_neg (by decide +kernel)]; exact ⟨rfl, rfl⟩))
    (fun os started H enc _ F => cloudSays_lifted os started H enc F)
end Go.Proofs.Ytoeghipbkmaccaa
