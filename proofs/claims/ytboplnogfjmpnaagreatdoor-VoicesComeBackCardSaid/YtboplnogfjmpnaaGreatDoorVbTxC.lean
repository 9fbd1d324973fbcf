/- Numbers in texts: kit.Number reads what strconv.Itoa writes, and nothing else. Plain mathematics. Conditions: as each theorem says. -/
import Derived.Test.YtboplnogfjmpnaaGreatDoorVbNumP
import Derived.Test.YtboplnogfjmpnaaGreatDoorVbTxB
set_option linter.unusedSimpArgs false
set_option linter.unusedVariables false
namespace Go.Proofs.YtboplnogfjmpnaaGreatDoor
open Go Go.Lib

def itoaL (n : Int) : ByteArray := ⟨(Lib.itoa n).toArray⟩
theorem ba_eq {s t : ByteArray} (h : s.data.toList = t.data.toList) : s = t := by
  cases s; cases t
  simp only at h
  congr 1
  exact Array.ext' h
theorem digits_in {b : UInt8} (h : 48 ≤ b.toNat ∧ b.toNat ≤ 57) : digitsB.data.toList.contains b = true := by
  have hb : b = UInt8.ofNat b.toNat := UInt8.ofNat_toNat.symm
  obtain ⟨n, hn⟩ : ∃ n, b.toNat = n := ⟨_, rfl⟩
  rw [hn] at hb h
  rw [hb]
  obtain rfl | rfl | rfl | rfl | rfl | rfl | rfl | rfl | rfl | rfl : n = 48 ∨ n = 49 ∨ n = 50 ∨ n = 51 ∨ n = 52 ∨ n = 53 ∨ n = 54 ∨ n = 55 ∨ n = 56 ∨ n = 57 := by omega
  all_goals decide
theorem dropWhile_all {α : Type} {p : α → Bool} : ∀ {l : List α}, (∀ x ∈ l, p x = true) → l.dropWhile p = []
  | [], _ => rfl
  | x :: l, h => by
    rw [List.dropWhile_cons, if_pos (h x List.mem_cons_self)]
    exact dropWhile_all fun y hy => h y (List.mem_cons_of_mem _ hy)
theorem trimS_all {l cs : List UInt8} (h : ∀ b ∈ l, cs.contains b = true) : Lib.trimS l cs = [] := by
  have h1 : Lib.trimRightS l cs = [] := by
    unfold Lib.trimRightS
    rw [dropWhile_all fun b hb => h b (List.mem_reverse.1 hb)]; rfl
  unfold Lib.trimS
  rw [h1]; rfl
theorem atoi_dec {l : List UInt8} {v : Nat} (hne : l ≠ []) (hd : ∀ b ∈ l, 48 ≤ b.toNat ∧ b.toNat ≤ 57) (h : decFrom 0 l = some v) : Lib.atoi l = some (v : Int) := by
  cases l with
  | nil => exact absurd rfl hne
  | cons b r =>
    have hb := hd b List.mem_cons_self
    unfold Lib.atoi
    dsimp only
    rw [if_neg (fun e => by have := congrArg UInt8.toNat (beq_iff_eq.1 e); simp at this; omega), if_neg (fun e => by have := congrArg UInt8.toNat (beq_iff_eq.1 e); simp at this; omega)]
    unfold decNat
    rw [if_neg (by simp), h]; rfl
theorem dec_atoi {l : List UInt8} {v : Nat} (hne : l ≠ []) (hd : ∀ b ∈ l, 48 ≤ b.toNat ∧ b.toNat ≤ 57) (h : Lib.atoi l = some (v : Int)) : decFrom 0 l = some v := by
  obtain ⟨u, hu, -⟩ := decFrom_some l 0 hd
  rw [atoi_dec hne hd hu] at h
  cases h
  exact hu
/-- What kit.Number reads is written so. -/
theorem num_write {s : ByteArray} (h : numOk 15 s = true) : itoaL (numV s) = s := by
  unfold numOk at h
  simp only [Bool.and_eq_true, Bool.not_eq_true', decide_eq_true_eq] at h
  obtain ⟨⟨⟨h1, h2⟩, h3⟩, h4⟩ := h
  obtain ⟨v, hv, -, -⟩ := num_atoi h1 h2 (by simpa using h3) (by decide)
  have ht := empty_data (s := trimD (undashB s)) h3
  have hall := all_of_trimS (show Lib.trimS (undashB s).data.toList digitsB.data.toList = [] by simpa [trimD] using ht)
  have hne : (undashB s).data.toList ≠ [] := fun e => by
    have : (undashB s).toList = (undashB s).data.toList := Lib.toList_data _
    rw [this, e] at h1
    cases h1
  have hdig := fun b hb => digit_of (hall b hb)
  have hdec := dec_atoi hne hdig hv
  have hsz : (undashB s).data.toList.length = (undashB s).size := Array.length_toList
  have hz : (undashB s).data.toList.length = 1 ∨ (undashB s).data.toList.head? ≠ some 48 := by
    by_cases h5 : (undashB s).data.toList.length = 1
    · exact .inl h5
    · refine .inr fun e => ?_
      have e2 : (undashB s).data.toList.getD 0 0 = 48 := by
        cases hl : (undashB s).data.toList with
        | nil => exact absurd hl hne
        | cons b r => rw [hl] at e; cases e; rfl
      have h6 : 1 < (undashB s).size := by
        have := List.length_pos_iff.2 hne
        omega
      rw [e2] at h4
      simp [h6] at h4
  have hw := dec_write _ rfl hne hdec hz
  unfold numV
  rw [hv]
  cases hd : dashed s with
  | false =>
    refine ba_eq ?_
    show (Lib.itoa (v : Int)).toArray.toList = _
    rw [itoa_nonneg, hw]
    unfold undashB Lib.trimPrefix
    rw [show Lib.hasPrefix s.data.toList [45] = false from hd]
    simp
  | true =>
    have hv0 : 1 ≤ v := by
      refine Nat.pos_of_ne_zero fun e => ?_
      subst e
      rw [decDigits, dif_pos (by decide)] at hw
      have e2 : (undashB s).data.toList.getD 0 0 = 48 := by rw [← hw]; rfl
      rw [e2, hd] at h4
      simp at h4
    refine ba_eq ?_
    show (Lib.itoa (-(v : Int))).toArray.toList = _
    rw [itoa_neg v hv0, hw]
    have hp : Lib.hasPrefix s.data.toList [45] = true := hd
    have hu : (undashB s).data.toList = s.data.toList.drop 1 := by
      unfold undashB Lib.trimPrefix
      rw [hp]; simp
    rw [hu]
    unfold Lib.hasPrefix at hp
    cases hl : s.data.toList with
    | nil => rw [hl] at hp; cases hp
    | cons b r =>
      rw [hl] at hp
      have : b = 45 := by simpa [List.isPrefixOf] using Eq.symm (a := 45) (by simpa [List.isPrefixOf] using hp)
      rw [this]; simp
/-- What is written is read as it was. -/
theorem num_read {n : Nat} (h : n < 1000000000000000) : numOk 15 (itoaL n) = true ∧ numV (itoaL n) = n := by
  have hd := dec_digit n
  have hne := dec_ne n
  have hl := dec_small (n := n) (m := 15) (by omega) (by decide)
  have hdata : (itoaL n).data.toList = decDigits n := by
    show (Lib.itoa (n : Int)).toArray.toList = _
    rw [itoa_nonneg]
  have hnp : Lib.hasPrefix (itoaL n).data.toList [45] = false := by
    rw [hdata]
    unfold Lib.hasPrefix
    cases hx : decDigits n with
    | nil => exact absurd hx hne
    | cons b r =>
      have hb := hd b (by rw [hx]; exact List.mem_cons_self)
      have : (45 : UInt8) ≠ b := fun e => by
        have := congrArg UInt8.toNat e
        simp at this
        omega
      simp [List.isPrefixOf, this]
  have hu : undashB (itoaL n) = itoaL n := by
    refine ba_eq ?_
    unfold undashB Lib.trimPrefix
    rw [hnp]; simp
  have hds : dashed (itoaL n) = false := hnp
  have hsz : (itoaL n).size = (decDigits n).length := by rw [← hdata]; exact Array.length_toList.symm
  have hat := atoi_dec hne hd (dec_read n)
  refine ⟨?_, ?_⟩
  · unfold numOk
    rw [hu, hds]
    simp only [Bool.and_eq_true, Bool.not_eq_true', decide_eq_true_eq, Bool.or_false]
    refine ⟨⟨⟨?_, by rw [hsz]; omega⟩, ?_⟩, ?_⟩
    · have : (itoaL n).toList = (itoaL n).data.toList := Lib.toList_data _
      rw [this, hdata]
      cases hx : decDigits n with
      | nil => exact absurd hx hne
      | cons b r => rfl
    · have ht : trimD (itoaL n) = ⟨#[]⟩ := by
        unfold trimD
        rw [hdata, trimS_all fun b hb => digits_in (hd b hb)]
      rw [ht, Lib.toList_data]; rfl
    · rw [hdata, hsz]
      by_cases h0 : n = 0
      · subst h0
        rw [decDigits, dif_pos (by decide)]; simp
      · have hh := dec_head n (by omega)
        cases hx : decDigits n with
        | nil => exact absurd hx hne
        | cons b r =>
          rw [hx] at hh
          have : (b == 48) = false := beq_false_of_ne fun e => hh (by rw [e]; rfl)
          simp [this]
  · unfold numV
    rw [hds, hu, hdata, hat]; rfl
end Go.Proofs.YtboplnogfjmpnaaGreatDoor
