/- The closed facts of a row, each by itself (all at once they want more memory than the kernel has). Conditions: none. Texts of lines and words: cut at one byte, joined again. Plain mathematics. Conditions: as each theorem says. Decimal numbers: what is written is read as it was; what is read is written so. Plain mathematics. Conditions: as each theorem says. -/
import Derived.Test.YtkjhbofbcmelgaaGreatDoorRows
import Derived.JoinedOf
import Derived.Lib.SplitLaws
import Derived.Lib.Join
import Derived.Lib.Atoi
import Derived.Lib.ItoaMem
set_option linter.unusedSimpArgs false
set_option linter.unusedVariables false
namespace Go.Proofs.YtkjhbofbcmelgaaGreatDoor
open Go
set_option maxHeartbeats 6400000 in
theorem closedFact : joinedFacts Tryz.prog 4 Tryz.f4 Rows.debtsCountedSpec Rows.debtsCountedRow = true := by
 unfold joinedFacts
 simp only [Bool.and_eq_true]
 repeat' apply And.intro
 all_goals as_aux_lemma => kernel_rfl
end Go.Proofs.YtkjhbofbcmelgaaGreatDoor
namespace Go.Proofs.YtkjhbofbcmelgaaGreatDoor
open Go Go.Lib
end Go.Proofs.YtkjhbofbcmelgaaGreatDoor
namespace Go.Proofs.YtkjhbofbcmelgaaGreatDoor
open Go Go.Lib
theorem digitVal_ofNat {d : Nat} (h : d < 10) : digitVal (UInt8.ofNat (48 + d)) = some d := by
 unfold digitVal
 have e : (UInt8.ofNat (48 + d)).toNat = 48 + d := by simp [UInt8.toNat_ofNat]; omega
 rw [e, if_pos ⟨by omega, by omega⟩]
 congr 1; omega
theorem decFrom_append : ∀ (l r : List UInt8) (acc : Nat), decFrom acc (l ++ r) = (decFrom acc l).bind fun a => decFrom a r
 | [], r, acc => rfl
 | b :: l, r, acc => by
   show (match digitVal b with | some d => decFrom (acc * 10 + d) (l ++ r) | none => none) = (match digitVal b with | some d => decFrom (acc * 10 + d) l | none => none).bind fun a => decFrom a r
   cases digitVal b with
   | none => rfl
   | some d => exact decFrom_append l r _
/-- What is written is read as it was. -/
theorem dec_read (n : Nat) : decFrom 0 (decDigits n) = some n := by
 induction n using Nat.strongRecOn with
 | ind n ih =>
   by_cases h : n < 10
   ·rw [decDigits, dif_pos h]
    show (match digitVal (UInt8.ofNat (48 + n)) with | some d => decFrom (0 * 10 + d) [] | none => none) = some n
    rw [digitVal_ofNat h]
    show some (0 * 10 + n) = some n
    rw [Nat.zero_mul, Nat.zero_add]
   ·rw [decDigits, dif_neg h, decFrom_append, ih (n / 10) (by omega)]
    show (match digitVal (UInt8.ofNat (48 + n % 10)) with | some d => decFrom (n / 10 * 10 + d) [] | none => none) = some n
    rw [digitVal_ofNat (by omega)]
    show some (n / 10 * 10 + n % 10) = some n
    congr 1; omega
theorem dec_ne (n : Nat) : decDigits n ≠ [] := by
 rw [decDigits]; split <;> simp
theorem dec_digit (n : Nat) : ∀ b ∈ decDigits n, 48 ≤ b.toNat ∧ b.toNat ≤ 57 := by
 induction n using Nat.strongRecOn with
 | ind n ih =>
   intro b hb
   have one : ∀ d, d < 10 → b = UInt8.ofNat (48 + d) → 48 ≤ b.toNat ∧ b.toNat ≤ 57 := fun d hd e => by
    have e2 : b.toNat = 48 + d := by rw [e]; simp [UInt8.toNat_ofNat]; omega
    omega
   by_cases h : n < 10
   ·rw [decDigits, dif_pos h] at hb
    exact one n h (List.mem_singleton.1 hb)
   ·rw [decDigits, dif_neg h] at hb
    rcases List.mem_append.1 hb with h2 | h2
    ·exact ih (n / 10) (by omega) b h2
    ·exact one (n % 10) (by omega) (List.mem_singleton.1 h2)
/-- No zero stands ahead, but for the one digit. -/
theorem dec_head (n : Nat) : 1 ≤ n → (decDigits n).head? ≠ some 48 := by
 induction n using Nat.strongRecOn with
 | ind n ih =>
   intro h1
   by_cases h : n < 10
   ·rw [decDigits, dif_pos h]
    simp only [List.head?_cons, ne_eq, Option.some.injEq]
    intro e
    have := congrArg UInt8.toNat e
    simp [UInt8.toNat_ofNat] at this
    omega
   ·rw [decDigits, dif_neg h]
    obtain ⟨b, r, e⟩ : ∃ b r, decDigits (n / 10) = b :: r := by
     cases hd : decDigits (n / 10) with
     | nil => exact absurd hd (dec_ne _)
     | cons b r => exact ⟨b, r, rfl⟩
    have := ih (n / 10) (by omega) (by omega)
    rw [e] at this ⊢
    exact this
theorem dec_small {n m : Nat} (h : n < 10 ^ m) (hm : 1 ≤ m) : (decDigits n).length ≤ m := by
 induction n using Nat.strongRecOn generalizing m with
 | ind n ih =>
   by_cases h10 : n < 10
   ·rw [decDigits, dif_pos h10]; exact hm
   ·rw [decDigits, dif_neg h10, List.length_append, List.length_singleton]
    have h2 : 2 ≤ m := by
     rcases m with _ | _ | m
     ·omega
     ·simp at h; omega
     ·omega
    obtain ⟨k, rfl⟩ : ∃ k, m = k + 1 := ⟨m - 1, by omega⟩
    have := @ih (n / 10) (by omega) k (by rw [Nat.pow_succ] at h; omega) (by omega)
    omega
end Go.Proofs.YtkjhbofbcmelgaaGreatDoor
