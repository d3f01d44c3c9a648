/- Names: the tied card: the law returns true; the listed variables are those that the program's text lays. -/
import Derived.Test.YtoeghipbkmaccaaDoorRow1
import Derived.Test.YtoeghipbkmaccaaDoorTie
import Derived.Test.YtoeghipbkmaccaaDoorCards
import Derived.SevenTiedAt
namespace Go.Proofs.YtoeghipbkmaccaaDoor
open Go

theorem namesCard_holds : Rows.NamesCardSaid :=
  Claim7.holds_tied_plain_at .later [] [.data, .data, .data] true (true, "3f13b78746c6cf27368319f2942fcf3b682d20fcf68ebfed2d0408c2e3824c45") true
    names_holds (fun _ h => by cases h) (by kernel_rfl) (fun _ h => by cases h) names_row_tie rfl ⟨rfl, rfl⟩ (by kernel_rfl) rfl
    (fun f fn hf hfn => by
      obtain rfl : f = 3 := Option.some.inj ((show Tryd.prog.funcNamed "wavewright/wavewrightlaw.Names" = some 3 by kernel_rfl).symm.trans hf) |>.symm
      obtain rfl : fn = Tryd.f3 := (Option.some.inj (Tryd.func3.symm.trans hfn)).symm
      exact ⟨by kernel_rfl, fun j t ht => by
        rw [Tryd.params3] at ht
        simp at ht⟩)
    (by kernel_rfl)
end Go.Proofs.YtoeghipbkmaccaaDoor
