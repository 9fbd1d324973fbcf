/- Sets of parts as numbers: their members, in order; how many singers they lack, by the program. Conditions: sizes. By how many fewer singers can sing one of some parts than they need, by the program. Conditions: the choir lies in memory. How many bits a small set has; lists of numbers compared. Conditions: sizes. How many singers are lacking, and which parts are short, by the program. Conditions: sizes; at most three parts. Plain mathematics: the least set of parts that lacks as many, by both texts. Conditions: sets below 8. -/
import Derived.Test.YtcdjkgfdhngmeaaGreatDoorSdGiF
set_option linter.unusedSimpArgs false
set_option linter.unusedVariables false
namespace Go.Proofs.YtcdjkgfdhngmeaaGreatDoor
open Go Go.RowKit

end Go.Proofs.YtcdjkgfdhngmeaaGreatDoor

namespace Go.Proofs.YtcdjkgfdhngmeaaGreatDoor
open Go Go.RowKit

end Go.Proofs.YtcdjkgfdhngmeaaGreatDoor

namespace Go.Proofs.YtcdjkgfdhngmeaaGreatDoor
open Go Go.RowKit

end Go.Proofs.YtcdjkgfdhngmeaaGreatDoor

namespace Go.Proofs.YtcdjkgfdhngmeaaGreatDoor
open Go Go.RowKit

/-- What is wrong with a question for a moment. -/
def errL (V : List VoiceV) (P : List PartV) (t : Int) : Int := if bothF V P = 0 then (if momB t then 0 else 1) else bothF V P
theorem errL_zero {V : List VoiceV} {P : List PartV} {t : Int} : errL V P t = 0 ↔ voicesF V = 0 ∧ partsF P = 0 ∧ momB t = true := by
  unfold errL bothF
  by_cases h1 : voicesF V = 0
  · rw [if_pos h1]
    by_cases h2 : partsF P = 0
    · rw [if_pos h2]
      cases momB t <;> simp [h1, h2]
    · rw [if_neg h2]
      exact ⟨fun e => absurd e h2, fun e => absurd e.2.1 h2⟩
  · rw [if_neg h1, if_neg h1]
    exact ⟨fun e => absurd e h1, fun e => absurd e.1 h1⟩
theorem parts_need {P : List PartV} (h : partsF P = 0) : P.length ≤ 12 ∧ ∀ x ∈ P, 0 ≤ x.least ∧ x.least ≤ 1000 := by
  obtain ⟨h1, h2⟩ := partsF_right h
  refine ⟨h1, fun x hx => ?_⟩
  have h3 := (h2 x hx).2
  unfold rightP at h3
  simp only [Bool.and_eq_true] at h3
  have h4 := inB_iff.1 h3.1.2
  have h5 := of_decide_eq_true h3.2
  omega
section
variable {w : World} {vp pp : Option Addr} {vc pc : Nat} {V : List VoiceV} {P : List PartV}
theorem mom_call (t : Int) : ∀ u g ty cap, Blk u g ty #[.int .i64 t] → Calls Tryz.prog 52 #[.slice (some ⟨g, 0, none⟩) 1 cap] u fun e w' => e = .returned (.int .i64 (if momB t then 0 else 1)) ∧ Ext u w' := fun u g ty cap hB => momentFault1_any t g ty cap u hB
end
end Go.Proofs.YtcdjkgfdhngmeaaGreatDoor

namespace Go.Proofs.YtcdjkgfdhngmeaaGreatDoor

section
variable (can : Nat → Nat → Bool) (lst : Nat → Nat) (n m : Nat)
end
end Go.Proofs.YtcdjkgfdhngmeaaGreatDoor
