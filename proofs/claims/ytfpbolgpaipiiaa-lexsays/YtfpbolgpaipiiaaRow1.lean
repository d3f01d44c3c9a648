/- LexSays: for every text the law returns true, and the text reads afterwards as it did. -/
import Derived.Test.YtfpbolgpaipiiaaRows
import Derived.Test.YtfpbolgpaipiiaaChecked
import Derived.Test.YtfpbolgpaipiiaaLx6
import Derived.Test.YtfpbolgpaipiiaaWwS
import Derived.ProofKit
import Derived.SizedLaws
namespace Go.Proofs.Ytfpbolgpaipiiaa
open Go.ChangeShapes Go.WideShapes Go.ChangeAt Go.RowKit Go.Aw Go.ChangeMaps

theorem rowOwn : ownKnob Try.prog.godebug = none := by kernel_rfl
theorem rowLaid : laidOutB Try.prog = true := by kernel_rfl

set_option maxRecDepth 100000 in
theorem lexSays_lifted (os : Os) (started : os.Started) (H : Type) (enc : TypeId × Value → H) :
    ReturnsInHanded {} Try.checked os 4 .any (Rows.lexSaysSpec.pre6 enc Try.prog Try.f4 Rows.lexSaysRow.domain false) (Rows.lexSaysSpec.post enc Try.prog Try.f4 false true false false) := by
  refine returnsInHanded_of_change_sized (C := Try.checked) rowOwn started (by kernel_rfl) Try.func4
    (ChangeSpec.witness6 (enc := enc) (C := Try.checked) false ⟨#[], #[.string ByteArray.empty], []⟩ 8 (by kernel_rfl) (by kernel_rfl) (by kernel_rfl) (by kernel_rfl)) ?_
  intro W base args ds gs before hval0 hW hcnd hsz _
  have hval : ∀ (j : Nat) t v, Try.f4.params[j]? = some t → args[j]? = some v → Value.okWide Try.prog W .any base t v := hval0
  have hW' := hW
  obtain ⟨p, q, hA0, hV, rfl, hfz, hnd⟩ := hW
  have hA : DataW.TrodAll enc Try.prog W 0 (fun _ => true) true Try.f4.params.toList args.toList ds p := hA0
  rw [Try.params4] at hA hval
  obtain ⟨v0, d0, rfl, rfl, h0⟩ := trodAll_one hA
  obtain ⟨rfl, rfl⟩ := trodVars_none hV
  obtain ⟨s, rfl, rfl, rfl, hs⟩ := open_string Try.underlying9 (hval 0 9 v0 rfl rfl) h0
  have hsz' : s.data.toList.length ≤ reachBytes := sized_string (P := Try.prog) (H := H) hsz (j := 0) (t := 9) (by rw [Try.params4]; rfl) rfl
  clear hA0 hval0
  simp only [List.append_nil] at hW'
  refine (law_true (W := W) (cargs := #[.string s]) (u_LexSays s.data.toList _ _ rfl) rfl (fun i hi => ?_)).mono fun e W' ⟨he, hb⟩ => ?_
  · obtain rfl : i = 0 := by simpa using hi
    exact .str s (by unfold reachBytes at hsz'; simp at hsz'; omega)
  · subst he
    exact ⟨_, rfl, law_post (tb := 4) rfl rfl Try.underlying4 rowLaid (by kernel_rfl) hW' rfl hb⟩

theorem lexSays_holds : Rows.LexSaysSaid :=
  OpenClaim.holds_of_wide 4 Try.f4 rfl rfl rfl rfl rfl rfl rfl ⟨rfl, rfl, rfl, rfl, rfl⟩ rfl rfl rfl rfl rfl (by kernel_rfl) Try.func4 (by kernel_rfl)
    (of_decide_eq_true (by kernel_rfl)) (by unfold Func.isWrapper; first | (rw [if_neg (by decide +kernel)]; exact ⟨rfl, rfl⟩))
    (fun os started H enc _ => lexSays_lifted os started H enc)
end Go.Proofs.Ytfpbolgpaipiiaa
