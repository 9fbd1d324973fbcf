/- How many singers a set of parts needs more than can sing one of them, by the document. Conditions: sizes. How many singers are lacking, by the document. Conditions: sizes. -/
import Derived.Test.YthhbhjppljblnaaGreatDoorLiGiN
set_option linter.unusedSimpArgs false
set_option linter.unusedVariables false
namespace Go.Proofs.YthhbhjppljblnaaGreatDoor
open Go Go.RowKit

end Go.Proofs.YthhbhjppljblnaaGreatDoor

namespace Go.Proofs.YthhbhjppljblnaaGreatDoor
open Go Go.RowKit

def needV (V : List VoiceV) (t : Int) (P : List PartV) (set : Nat) : Int := needF (canC (comL V t P)) (lstP P) P.length (comL V t P).length (bitX set)
theorem lackV_max (V : List VoiceV) (t : Int) (P : List PartV) : lackV V P t = maxF (needV V t P) (2 ^ P.length) := rfl
theorem needV_le {V : List VoiceV} {t : Int} {P : List PartV} (hP : P.length ≤ 12) (hV : V.length ≤ 200) (hN : ∀ x ∈ P, 0 ≤ x.least ∧ x.least ≤ 1000) (set : Nat) : -200 ≤ needV V t P set ∧ needV V t P set ≤ 12000 := by
  have h1 := needN_le hN (bitX set) P.length (Nat.le_refl _)
  have h2 := canN_le (canC (comL V t P)) P.length (bitX set) (comL V t P).length
  have h3 : (comL V t P).length ≤ V.length := by rw [comL_len]; exact singers_len V t
  unfold needV needF
  omega
/-! ### the least set, by the document -/
end Go.Proofs.YthhbhjppljblnaaGreatDoor
