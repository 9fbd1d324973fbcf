/- Decimal numbers: what is written is read as it was; what is read is written so. Plain mathematics. Conditions: as each theorem says. -/
import Derived.Lib.Atoi
import Derived.Lib.ItoaMem
set_option linter.unusedSimpArgs false
set_option linter.unusedVariables false
namespace Go.Proofs.YtboplnogfjmpnaaGreatDoor
open Go Go.Lib

theorem digitVal_ofNat {d : Nat} (h : d < 10) : digitVal (UInt8.ofNat (48 + d)) = some d := by
  unfold digitVal
  have e : (UInt8.ofNat (48 + d)).toNat = 48 + d := by simp [UInt8.toNat_ofNat]; omega
  rw [e, if_pos ⟨by omega, by omega⟩]
  congr 1; omega
theorem digitVal_inv {b : UInt8} {d : Nat} (h : digitVal b = some d) : d < 10 ∧ b = UInt8.ofNat (48 + d) := by
  unfold digitVal at h
  split at h
  · rename_i hb
    cases h
    refine ⟨by omega, ?_⟩
    rw [show 48 + (b.toNat - 48) = b.toNat by omega]
    exact UInt8.ofNat_toNat.symm
  · cases h
theorem decFrom_append : ∀ (l r : List UInt8) (acc : Nat), decFrom acc (l ++ r) = (decFrom acc l).bind fun a => decFrom a r
  | [], r, acc => rfl
  | b :: l, r, acc => by
    show (match digitVal b with | some d => decFrom (acc * 10 + d) (l ++ r) | none => none) = (match digitVal b with | some d => decFrom (acc * 10 + d) l | none => none).bind fun a => decFrom a r
    cases digitVal b with
    | none => rfl
    | some d => exact decFrom_append l r _
/-- What is written is read as it was. -/
theorem dec_read (n : Nat) : decFrom 0 (decDigits n) = some n := by
  induction n using Nat.strongRecOn with
  | ind n ih =>
    by_cases h : n < 10
    · rw [decDigits, dif_pos h]
      show (match digitVal (UInt8.ofNat (48 + n)) with | some d => decFrom (0 * 10 + d) [] | none => none) = some n
      rw [digitVal_ofNat h]
      show some (0 * 10 + n) = some n
      rw [Nat.zero_mul, Nat.zero_add]
    · rw [decDigits, dif_neg h, decFrom_append, ih (n / 10) (by omega)]
      show (match digitVal (UInt8.ofNat (48 + n % 10)) with | some d => decFrom (n / 10 * 10 + d) [] | none => none) = some n
      rw [digitVal_ofNat (by omega)]
      show some (n / 10 * 10 + n % 10) = some n
      congr 1; omega
theorem dec_ne (n : Nat) : decDigits n ≠ [] := by
  rw [decDigits]; split <;> simp
theorem dec_digit (n : Nat) : ∀ b ∈ decDigits n, 48 ≤ b.toNat ∧ b.toNat ≤ 57 := by
  induction n using Nat.strongRecOn with
  | ind n ih =>
    intro b hb
    have one : ∀ d, d < 10 → b = UInt8.ofNat (48 + d) → 48 ≤ b.toNat ∧ b.toNat ≤ 57 := fun d hd e => by
      have e2 : b.toNat = 48 + d := by rw [e]; simp [UInt8.toNat_ofNat]; omega
      omega
    by_cases h : n < 10
    · rw [decDigits, dif_pos h] at hb
      exact one n h (List.mem_singleton.1 hb)
    · rw [decDigits, dif_neg h] at hb
      rcases List.mem_append.1 hb with h2 | h2
      · exact ih (n / 10) (by omega) b h2
      · exact one (n % 10) (by omega) (List.mem_singleton.1 h2)
/-- No zero stands ahead, but for the one digit. -/
theorem dec_head (n : Nat) : 1 ≤ n → (decDigits n).head? ≠ some 48 := by
  induction n using Nat.strongRecOn with
  | ind n ih =>
    intro h1
    by_cases h : n < 10
    · rw [decDigits, dif_pos h]
      simp only [List.head?_cons, ne_eq, Option.some.injEq]
      intro e
      have := congrArg UInt8.toNat e
      simp [UInt8.toNat_ofNat] at this
      omega
    · rw [decDigits, dif_neg h]
      obtain ⟨b, r, e⟩ : ∃ b r, decDigits (n / 10) = b :: r := by
        cases hd : decDigits (n / 10) with
        | nil => exact absurd hd (dec_ne _)
        | cons b r => exact ⟨b, r, rfl⟩
      have := ih (n / 10) (by omega) (by omega)
      rw [e] at this ⊢
      exact this
theorem dec_small {n m : Nat} (h : n < 10 ^ m) (hm : 1 ≤ m) : (decDigits n).length ≤ m := by
  induction n using Nat.strongRecOn generalizing m with
  | ind n ih =>
    by_cases h10 : n < 10
    · rw [decDigits, dif_pos h10]; exact hm
    · rw [decDigits, dif_neg h10, List.length_append, List.length_singleton]
      have h2 : 2 ≤ m := by
        rcases m with _ | _ | m
        · omega
        · simp at h; omega
        · omega
      obtain ⟨k, rfl⟩ : ∃ k, m = k + 1 := ⟨m - 1, by omega⟩
      have := @ih (n / 10) (by omega) k (by rw [Nat.pow_succ] at h; omega) (by omega)
      omega
theorem snoc_of {α : Type} : ∀ {l : List α}, l ≠ [] → ∃ r x, l = r ++ [x]
  | [], h => absurd rfl h
  | [x], _ => ⟨[], x, rfl⟩
  | x :: y :: l, _ => by
    obtain ⟨r, z, e⟩ := snoc_of (l := y :: l) (by simp)
    exact ⟨x :: r, z, by rw [e]; rfl⟩
/-- What is read is written so. -/
theorem dec_write : ∀ (n : Nat) {l : List UInt8} {v : Nat}, l.length = n → l ≠ [] → decFrom 0 l = some v → (l.length = 1 ∨ l.head? ≠ some 48) → decDigits v = l
  | 0, l, v, hn, hne, _, _ => absurd (List.eq_nil_of_length_eq_zero hn) hne
  | n + 1, l, v, hn, hne, hd, hz => by
    obtain ⟨r, x, rfl⟩ := snoc_of hne
    rw [decFrom_append] at hd
    cases hr : decFrom 0 r with
    | none => rw [hr] at hd; cases hd
    | some a =>
      rw [hr] at hd
      change (match digitVal x with | some d => decFrom (a * 10 + d) [] | none => none) = some v at hd
      cases hx : digitVal x with
      | none => rw [hx] at hd; cases hd
      | some d =>
        rw [hx] at hd
        change some (a * 10 + d) = some v at hd
        cases hd
        obtain ⟨hd10, rfl⟩ := digitVal_inv hx
        by_cases hre : r = []
        · subst hre
          cases hr
          rw [Nat.zero_mul, Nat.zero_add, decDigits, dif_pos hd10]; rfl
        · have hl2 : r.length ≠ 0 := fun e => hre (List.eq_nil_of_length_eq_zero e)
          have hh : r.head? ≠ some 48 := by
            rcases hz with h1 | h1
            · rw [List.length_append, List.length_singleton] at h1; omega
            · obtain ⟨b, t, rfl⟩ : ∃ b t, r = b :: t := by
                cases r with
                | nil => exact absurd rfl hre
                | cons b t => exact ⟨b, t, rfl⟩
              exact h1
          have ih := dec_write n (l := r) (v := a) (by rw [List.length_append, List.length_singleton] at hn; omega) hre hr (.inr hh)
          have ha : 1 ≤ a := by
            refine Nat.pos_of_ne_zero fun e => ?_
            subst e
            rw [decDigits, dif_pos (by decide)] at ih
            rw [← ih] at hh
            exact hh rfl
          rw [decDigits, dif_neg (by omega), show (a * 10 + d) / 10 = a by omega, show (a * 10 + d) % 10 = d by omega, ih]
end Go.Proofs.YtboplnogfjmpnaaGreatDoor
