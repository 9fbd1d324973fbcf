/- Numbers in texts, by kit. Conditions: the string's size; at most 15 digits. Numbers in texts: kit.Number reads what strconv.Itoa writes, and nothing else. Plain mathematics. Conditions: as each theorem says. Texts of lines and words, plain. Conditions: as each theorem says. -/
import Derived.Test.YtkjhbofbcmelgaaGreatDoorFzJ6
import Derived.Test.YtkjhbofbcmelgaaGreatDoorFzFactsB
import Derived.Lib.SlTrimSet
import Derived.Outline
import Derived.Test.YtkjhbofbcmelgaaGreatDoorFzJ0
import Derived.Test.YtkjhbofbcmelgaaGreatDoorFzJ3
set_option linter.unusedSimpArgs false
set_option linter.unusedVariables false
namespace Go.Proofs.YtkjhbofbcmelgaaGreatDoor
open Go Go.RowKit
end Go.Proofs.YtkjhbofbcmelgaaGreatDoor
namespace Go.Proofs.YtkjhbofbcmelgaaGreatDoor
open Go Go.Lib
theorem ba_eq {s t : ByteArray} (h : s.data.toList = t.data.toList) : s = t := by
 cases s; cases t
 simp only at h
 congr 1
 exact Array.ext' h
end Go.Proofs.YtkjhbofbcmelgaaGreatDoor
namespace Go.Proofs.YtkjhbofbcmelgaaGreatDoor
open Go Go.Lib Go.RowKit
theorem empty_ba {s : ByteArray} (h : s.toList.isEmpty = true) : s = ⟨#[]⟩ := by
 rw [Lib.toList_data] at h
 exact ba_eq (List.isEmpty_iff.1 h)
theorem scan_first {f : Nat → Int} : ∀ n, (∃ i, i < n ∧ f i ≠ 0) → ∃ k, k < n ∧ Zeros f k ∧ f k ≠ 0
 | 0, ⟨i, hi, _⟩ => by omega
 | n + 1, ⟨i, hi, hx⟩ => by
   by_cases h : ∃ i, i < n ∧ f i ≠ 0
   ·obtain ⟨k, hk, h1, h2⟩ := scan_first n h
    exact ⟨k, by omega, h1, h2⟩
   ·refine ⟨n, by omega, fun j hj => Classical.byContradiction fun e => h ⟨j, hj, e⟩, ?_⟩
    obtain rfl : i = n := Classical.byContradiction fun e => h ⟨i, by omega, hx⟩
    exact hx
end Go.Proofs.YtkjhbofbcmelgaaGreatDoor
