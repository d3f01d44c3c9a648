/-
  DERIVED: LAID BY THE SHELF's contract.sh OFF ITS TEMPLATE 'strings.HasPrefix' FOR THE PROGRAM 'Try' (the function's number there: 39). THE LIBRARY's OWN TEXT IS WALKED: nothing is assumed of it. Behind the contract: ONE FALSE NEIGHBOUR, a contract that says a little too much, REFUTED.
-/
import Derived.Test.YtfpbolgpaipiiaaChecked
import Derived.Lib.Strings
import Derived.Lib.Slices
import Derived.Lib.Walk
namespace Go.Proofs

set_option maxHeartbeats 1000000 in
/-- strings.HasPrefix: "HasPrefix reports whether the string s begins with prefix.": IT RETURNS 'Lib.hasPrefix s prefix'; the world is as it was. -/
theorem Try.strings_HasPrefix (s p : ByteArray) (w : World) :
    Calls Try.prog 39 #[.string s, .string p] w fun e w' => e = .returned (.bool (Lib.hasPrefix s.data.toList p.data.toList)) ∧ w' = w := by
  rw [← Lib.hasPrefix_of_take, ← Lib.size_eq, ← Lib.size_eq]
  go_enter Try.func39, Try.ntmps39
  go_wp2
  · rename_i h
    go_ret
    refine ⟨?_, rfl⟩
    show Ending.returned (Value.bool ((s.extract 0 p.size).toList == p.toList)) = _
    rw [Lib.extract_toList, Lib.toList_data]
    simp [h]
  · rename_i h
    go_ret
    refine ⟨?_, rfl⟩
    show Ending.returned (Value.bool false) = _
    simp [h]

/-- A LITTLE TOO MUCH: 'true wherever prefix is not longer than s': falls at "ab", "b". -/
theorem Try.strings_HasPrefix_not : ¬ ∀ (s p : ByteArray) (w : World),
    Calls Try.prog 39 #[.string s, .string p] w fun e w' => e = .returned (.bool (decide (p.data.toList.length ≤ s.data.toList.length))) ∧ w' = w := by
  intro h
  have e := Lib.agree (by kernel_rfl) (Try.strings_HasPrefix ⟨#[97, 98]⟩ ⟨#[98]⟩ default) (h ⟨#[97, 98]⟩ ⟨#[98]⟩ default)
  injection e with e
  revert e
  decide

end Go.Proofs
