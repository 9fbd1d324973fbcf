/- Numbers in texts, by kit. Conditions: the string's size; at most 15 digits. Numbers in texts: kit.Number reads what strconv.Itoa writes, and nothing else. Plain mathematics. Conditions: as each theorem says. Texts of lines and words, plain. Conditions: as each theorem says. -/
import Derived.Test.YtehboinleolihaaGreatDoorRzJ6
import Derived.Test.YtehboinleolihaaGreatDoorRzFactsB
import Derived.Lib.SlTrimSet
import Derived.Outline
import Derived.Test.YtehboinleolihaaGreatDoorRzJ0
import Derived.Test.YtehboinleolihaaGreatDoorRzJ3
set_option linter.unusedSimpArgs false
set_option linter.unusedVariables false
namespace Go.Proofs.YtehboinleolihaaGreatDoor
open Go Go.RowKit

def digitsB : ByteArray := ⟨#[48, 49, 50, 51, 52, 53, 54, 55, 56, 57]⟩
def trimD (s : ByteArray) : ByteArray := ⟨(Lib.trimS s.data.toList digitsB.data.toList).toArray⟩
def undashB (s : ByteArray) : ByteArray := ⟨(Lib.trimPrefix s.data.toList [45]).toArray⟩
def dashed (s : ByteArray) : Bool := Lib.hasPrefix s.data.toList [45]

def numOk (most : Int) (s : ByteArray) : Bool :=
  !(undashB s).toList.isEmpty && decide ((undashB s).size ≤ most) && (trimD (undashB s)).toList.isEmpty && !(((undashB s).data.toList.getD 0 0 == 48) && (decide (1 < (undashB s).size) || dashed s))
def numV (s : ByteArray) : Int := if dashed s then -((Lib.atoi (undashB s).data.toList).getD 0) else (Lib.atoi (undashB s).data.toList).getD 0
end Go.Proofs.YtehboinleolihaaGreatDoor

namespace Go.Proofs.YtehboinleolihaaGreatDoor
open Go Go.Lib

def itoaL (n : Int) : ByteArray := ⟨(Lib.itoa n).toArray⟩
theorem ba_eq {s t : ByteArray} (h : s.data.toList = t.data.toList) : s = t := by
  cases s; cases t
  simp only at h
  congr 1
  exact Array.ext' h
theorem digits_in {b : UInt8} (h : 48 ≤ b.toNat ∧ b.toNat ≤ 57) : digitsB.data.toList.contains b = true := by
  have hb : b = UInt8.ofNat b.toNat := UInt8.ofNat_toNat.symm
  obtain ⟨n, hn⟩ : ∃ n, b.toNat = n := ⟨_, rfl⟩
  rw [hn] at hb h
  rw [hb]
  obtain rfl | rfl | rfl | rfl | rfl | rfl | rfl | rfl | rfl | rfl : n = 48 ∨ n = 49 ∨ n = 50 ∨ n = 51 ∨ n = 52 ∨ n = 53 ∨ n = 54 ∨ n = 55 ∨ n = 56 ∨ n = 57 := by omega
  all_goals decide
theorem dropWhile_all {α : Type} {p : α → Bool} : ∀ {l : List α}, (∀ x ∈ l, p x = true) → l.dropWhile p = []
  | [], _ => rfl
  | x :: l, h => by
    rw [List.dropWhile_cons, if_pos (h x List.mem_cons_self)]
    exact dropWhile_all fun y hy => h y (List.mem_cons_of_mem _ hy)
theorem trimS_all {l cs : List UInt8} (h : ∀ b ∈ l, cs.contains b = true) : Lib.trimS l cs = [] := by
  have h1 : Lib.trimRightS l cs = [] := by
    unfold Lib.trimRightS
    rw [dropWhile_all fun b hb => h b (List.mem_reverse.1 hb)]; rfl
  unfold Lib.trimS
  rw [h1]; rfl
theorem atoi_dec {l : List UInt8} {v : Nat} (hne : l ≠ []) (hd : ∀ b ∈ l, 48 ≤ b.toNat ∧ b.toNat ≤ 57) (h : decFrom 0 l = some v) : Lib.atoi l = some (v : Int) := by
  cases l with
  | nil => exact absurd rfl hne
  | cons b r =>
    have hb := hd b List.mem_cons_self
    unfold Lib.atoi
    dsimp only
    rw [if_neg (fun e => by have := congrArg UInt8.toNat (beq_iff_eq.1 e); simp at this; omega), if_neg (fun e => by have := congrArg UInt8.toNat (beq_iff_eq.1 e); simp at this; omega)]
    unfold decNat
    rw [if_neg (by simp), h]; rfl
/-- What is written is read as it was. -/
theorem num_readM {m n : Nat} (h : n < 10 ^ m) (hm : 1 ≤ m) : numOk (m : Int) (itoaL n) = true ∧ numV (itoaL n) = n := by
  have hd := dec_digit n
  have hne := dec_ne n
  have hl := dec_small (n := n) (m := m) h hm
  have hdata : (itoaL n).data.toList = decDigits n := by
    show (Lib.itoa (n : Int)).toArray.toList = _
    rw [itoa_nonneg]
  have hnp : Lib.hasPrefix (itoaL n).data.toList [45] = false := by
    rw [hdata]
    unfold Lib.hasPrefix
    cases hx : decDigits n with
    | nil => exact absurd hx hne
    | cons b r =>
      have hb := hd b (by rw [hx]; exact List.mem_cons_self)
      have : (45 : UInt8) ≠ b := fun e => by
        have := congrArg UInt8.toNat e
        simp at this
        omega
      simp [List.isPrefixOf, this]
  have hu : undashB (itoaL n) = itoaL n := by
    refine ba_eq ?_
    unfold undashB Lib.trimPrefix
    rw [hnp]; simp
  have hds : dashed (itoaL n) = false := hnp
  have hsz : (itoaL n).size = (decDigits n).length := by rw [← hdata]; exact Array.length_toList.symm
  have hat := atoi_dec hne hd (dec_read n)
  refine ⟨?_, ?_⟩
  · unfold numOk
    rw [hu, hds]
    simp only [Bool.and_eq_true, Bool.not_eq_true', decide_eq_true_eq, Bool.or_false]
    refine ⟨⟨⟨?_, by rw [hsz]; omega⟩, ?_⟩, ?_⟩
    · have : (itoaL n).toList = (itoaL n).data.toList := Lib.toList_data _
      rw [this, hdata]
      cases hx : decDigits n with
      | nil => exact absurd hx hne
      | cons b r => rfl
    · have ht : trimD (itoaL n) = ⟨#[]⟩ := by
        unfold trimD
        rw [hdata, trimS_all fun b hb => digits_in (hd b hb)]
      rw [ht, Lib.toList_data]; rfl
    · rw [hdata, hsz]
      by_cases h0 : n = 0
      · subst h0
        rw [decDigits, dif_pos (by decide)]; simp
      · have hh := dec_head n (by omega)
        cases hx : decDigits n with
        | nil => exact absurd hx hne
        | cons b r =>
          rw [hx] at hh
          have : (b == 48) = false := beq_false_of_ne fun e => hh (by rw [e]; rfl)
          simp [this]
  · unfold numV
    rw [hds, hu, hdata, hat]; rfl
end Go.Proofs.YtehboinleolihaaGreatDoor

namespace Go.Proofs.YtehboinleolihaaGreatDoor
open Go Go.Lib Go.RowKit

theorem empty_ba {s : ByteArray} (h : s.toList.isEmpty = true) : s = ⟨#[]⟩ := by
  rw [Lib.toList_data] at h
  exact ba_eq (List.isEmpty_iff.1 h)

theorem scan_first {f : Nat → Int} : ∀ n, (∃ i, i < n ∧ f i ≠ 0) → ∃ k, k < n ∧ Zeros f k ∧ f k ≠ 0
  | 0, ⟨i, hi, _⟩ => by omega
  | n + 1, ⟨i, hi, hx⟩ => by
    by_cases h : ∃ i, i < n ∧ f i ≠ 0
    · obtain ⟨k, hk, h1, h2⟩ := scan_first n h
      exact ⟨k, by omega, h1, h2⟩
    · refine ⟨n, by omega, fun j hj => Classical.byContradiction fun e => h ⟨j, hj, e⟩, ?_⟩
      obtain rfl : i = n := Classical.byContradiction fun e => h ⟨i, by omega, hx⟩
      exact hx
end Go.Proofs.YtehboinleolihaaGreatDoor
