/- People that the stream makes, up to twelve. Conditions: as each theorem says. -/
import Derived.Test.YtfbegdcmnfkhgaaGreatDoorRxStD
set_option linter.unusedSimpArgs false
set_option linter.unusedVariables false
namespace Go.Proofs.YtfbegdcmnfkhgaaGreatDoor
open Go Go.RowKit

theorem digit2_size : ∀ j : Fin 100, (⟨(Lib.decDigits j.val).toArray⟩ : ByteArray).size ≤ 2 := by decide +kernel
theorem digit2_any (j : Nat) (hj : j < 100) (w : World) :
    Calls Tryz.prog 33 #[.int .i64 j] w fun e w' => ∃ d : ByteArray, d.size ≤ 2 ∧ e = .returned (.string d) ∧ w = w' :=
  (Tryz.strconv_Itoa_small j hj w).mono fun e w' h => ⟨_, digit2_size ⟨j, hj⟩, h.1, h.2.symm⟩
end Go.Proofs.YtfbegdcmnfkhgaaGreatDoor
