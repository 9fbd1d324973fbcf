/- Numbers in texts: kit.Number reads what strconv.Itoa writes, and nothing else. Plain mathematics. Conditions: as each theorem says. Texts of lines and words, plain. Conditions: as each theorem says. -/
import Derived.Test.YtboplnogfjmpnaaGreatDoorVkNumP
import Derived.Test.YtboplnogfjmpnaaGreatDoorVkJ0
import Derived.Test.YtboplnogfjmpnaaGreatDoorVkJ9
import Derived.Test.YtboplnogfjmpnaaGreatDoorVkJ4
set_option linter.unusedSimpArgs false
set_option linter.unusedVariables false
namespace Go.Proofs.YtboplnogfjmpnaaGreatDoor
open Go Go.Lib

def itoaL (n : Int) : ByteArray := ⟨(Lib.itoa n).toArray⟩
theorem ba_eq {s t : ByteArray} (h : s.data.toList = t.data.toList) : s = t := by
  cases s; cases t
  simp only at h
  congr 1
  exact Array.ext' h
theorem atoi_dec {l : List UInt8} {v : Nat} (hne : l ≠ []) (hd : ∀ b ∈ l, 48 ≤ b.toNat ∧ b.toNat ≤ 57) (h : decFrom 0 l = some v) : Lib.atoi l = some (v : Int) := by
  cases l with
  | nil => exact absurd rfl hne
  | cons b r =>
    have hb := hd b List.mem_cons_self
    unfold Lib.atoi
    dsimp only
    rw [if_neg (fun e => by have := congrArg UInt8.toNat (beq_iff_eq.1 e); simp at this; omega), if_neg (fun e => by have := congrArg UInt8.toNat (beq_iff_eq.1 e); simp at this; omega)]
    unfold decNat
    rw [if_neg (by simp), h]; rfl
theorem dec_atoi {l : List UInt8} {v : Nat} (hne : l ≠ []) (hd : ∀ b ∈ l, 48 ≤ b.toNat ∧ b.toNat ≤ 57) (h : Lib.atoi l = some (v : Int)) : decFrom 0 l = some v := by
  obtain ⟨u, hu, -⟩ := decFrom_some l 0 hd
  rw [atoi_dec hne hd hu] at h
  cases h
  exact hu
/-- What kit.Number reads is written so. -/
theorem num_write {s : ByteArray} (h : numOk 15 s = true) : itoaL (numV s) = s := by
  unfold numOk at h
  simp only [Bool.and_eq_true, Bool.not_eq_true', decide_eq_true_eq] at h
  obtain ⟨⟨⟨h1, h2⟩, h3⟩, h4⟩ := h
  obtain ⟨v, hv, -, -⟩ := num_atoi h1 h2 (by simpa using h3) (by decide)
  have ht := empty_data (s := trimD (undashB s)) h3
  have hall := all_of_trimS (show Lib.trimS (undashB s).data.toList digitsB.data.toList = [] by simpa [trimD] using ht)
  have hne : (undashB s).data.toList ≠ [] := fun e => by
    have : (undashB s).toList = (undashB s).data.toList := Lib.toList_data _
    rw [this, e] at h1
    cases h1
  have hdig := fun b hb => digit_of (hall b hb)
  have hdec := dec_atoi hne hdig hv
  have hsz : (undashB s).data.toList.length = (undashB s).size := Array.length_toList
  have hz : (undashB s).data.toList.length = 1 ∨ (undashB s).data.toList.head? ≠ some 48 := by
    by_cases h5 : (undashB s).data.toList.length = 1
    · exact .inl h5
    · refine .inr fun e => ?_
      have e2 : (undashB s).data.toList.getD 0 0 = 48 := by
        cases hl : (undashB s).data.toList with
        | nil => exact absurd hl hne
        | cons b r => rw [hl] at e; cases e; rfl
      have h6 : 1 < (undashB s).size := by
        have := List.length_pos_iff.2 hne
        omega
      rw [e2] at h4
      simp [h6] at h4
  have hw := dec_write _ rfl hne hdec hz
  unfold numV
  rw [hv]
  cases hd : dashed s with
  | false =>
    refine ba_eq ?_
    show (Lib.itoa (v : Int)).toArray.toList = _
    rw [itoa_nonneg, hw]
    unfold undashB Lib.trimPrefix
    rw [show Lib.hasPrefix s.data.toList [45] = false from hd]
    simp
  | true =>
    have hv0 : 1 ≤ v := by
      refine Nat.pos_of_ne_zero fun e => ?_
      subst e
      rw [decDigits, dif_pos (by decide)] at hw
      have e2 : (undashB s).data.toList.getD 0 0 = 48 := by rw [← hw]; rfl
      rw [e2, hd] at h4
      simp at h4
    refine ba_eq ?_
    show (Lib.itoa (-(v : Int))).toArray.toList = _
    rw [itoa_neg v hv0, hw]
    have hp : Lib.hasPrefix s.data.toList [45] = true := hd
    have hu : (undashB s).data.toList = s.data.toList.drop 1 := by
      unfold undashB Lib.trimPrefix
      rw [hp]; simp
    rw [hu]
    unfold Lib.hasPrefix at hp
    cases hl : s.data.toList with
    | nil => rw [hl] at hp; cases hp
    | cons b r =>
      rw [hl] at hp
      have : b = 45 := by simpa [List.isPrefixOf] using Eq.symm (a := 45) (by simpa [List.isPrefixOf] using hp)
      rw [this]; simp
end Go.Proofs.YtboplnogfjmpnaaGreatDoor

namespace Go.Proofs.YtboplnogfjmpnaaGreatDoor
open Go Go.Lib Go.RowKit

def bytesW (W : List ByteArray) : List (List UInt8) := W.map (·.data.toList)
def wordsL (s : List UInt8) : List ByteArray := (cutL 32 s).map fun l => ⟨l.toArray⟩
theorem key_bytes {s : ByteArray} (h : keyB s = true) : s.data.toList ≠ [] ∧ (32 : UInt8) ∉ s.data.toList ∧ (10 : UInt8) ∉ s.data.toList ∧ s.size ≤ 40 := by
  unfold keyB at h
  simp only [Bool.and_eq_true, Bool.not_eq_true', decide_eq_true_eq] at h
  obtain ⟨⟨⟨h1, h2⟩, -⟩, h4⟩ := h
  have ht := empty_data (s := trimB s) h4
  have hall := all_of_trimS (show Lib.trimS s.data.toList keysB.data.toList = [] by simpa [trimB] using ht)
  refine ⟨fun e => ?_, fun hm => ?_, fun hm => ?_, h2⟩
  · have : s.toList = s.data.toList := Lib.toList_data _
    rw [this, e] at h1
    cases h1
  · exact absurd (hall _ hm) (by decide)
  · exact absurd (hall _ hm) (by decide)
theorem itoa_bytes (n : Nat) : (itoaL (n : Int)).data.toList ≠ [] ∧ (32 : UInt8) ∉ (itoaL (n : Int)).data.toList ∧ (10 : UInt8) ∉ (itoaL (n : Int)).data.toList := by
  have e : (itoaL (n : Int)).data.toList = decDigits n := by
    show (Lib.itoa (n : Int)).toArray.toList = _
    rw [itoa_nonneg]
  rw [e]
  refine ⟨dec_ne n, fun h => ?_, fun h => ?_⟩
  · have := dec_digit n _ h; simp at this
  · have := dec_digit n _ h; simp at this
/-- The lines of a text, and whether the last one is ended. -/
def linesF (t : List UInt8) : List (List UInt8) := if t = [] then [] else cutL 10 (Lib.trimSuffix t [10])
def endedF (t : List UInt8) : Bool := if t = [] then true else Lib.hasSuffix t [10]
theorem suffix_snoc (l : List UInt8) : Lib.hasSuffix (l ++ [10]) [10] = true ∧ Lib.trimSuffix (l ++ [10]) [10] = l := by
  have h : Lib.hasSuffix (l ++ [10]) [10] = true := by
    unfold Lib.hasSuffix
    rw [List.isSuffixOf_iff_suffix]
    exact List.suffix_append _ _
  refine ⟨h, ?_⟩
  unfold Lib.trimSuffix
  rw [if_pos h]
  simp
theorem suffix_inv {t : List UInt8} (h : Lib.hasSuffix t [10] = true) : t = Lib.trimSuffix t [10] ++ [10] := by
  have h2 := h
  unfold Lib.hasSuffix at h2
  rw [List.isSuffixOf_iff_suffix] at h2
  obtain ⟨l, rfl⟩ := h2
  rw [(suffix_snoc l).2]
theorem join_len (c : UInt8) {m : Nat} : ∀ W : List (List UInt8), (∀ l ∈ W, l.length ≤ m) → (Lib.join W [c]).length ≤ W.length * (m + 1)
  | [], _ => by show ([] : List UInt8).length ≤ _; simp
  | [x], h => by
    rw [Lib.join_one]
    have := h x List.mem_cons_self
    simp; omega
  | x :: y :: r, h => by
    rw [joinL_cons2]
    have ih := join_len c (m := m) (y :: r) fun l hl => h l (List.mem_cons_of_mem _ hl)
    have := h x List.mem_cons_self
    simp only [List.length_append, List.length_cons] at ih ⊢
    have e : (r.length + 1 + 1) * (m + 1) = (r.length + 1) * (m + 1) + (m + 1) := by rw [Nat.add_mul (r.length + 1) 1]; omega
    omega
theorem cutL_size (c : UInt8) : ∀ l : List UInt8, ∀ x ∈ cutL c l, x.length ≤ l.length
  | [], x, hx => by rw [List.mem_singleton.1 hx]; exact Nat.le_refl _
  | b :: l, x, hx => by
    obtain ⟨y, r, e⟩ : ∃ y r, cutL c l = y :: r := by
      cases h : cutL c l with
      | nil => exact absurd h (cutL_ne c l)
      | cons y r => exact ⟨y, r, rfl⟩
    have ih := cutL_size c l
    by_cases hb : b = c
    · subst hb
      rw [cutL_hit] at hx
      rcases List.mem_cons.1 hx with h | h
      · rw [h]; simp
      · have := ih x h; simp; omega
    · rw [cutL_miss hb e] at hx
      rw [e] at ih
      rcases List.mem_cons.1 hx with h | h
      · rw [h]
        have := ih y List.mem_cons_self
        simp; omega
      · have := ih x (List.mem_cons_of_mem _ h); simp; omega
theorem wordsL_size {l : List UInt8} {x : ByteArray} (h : x ∈ wordsL l) : x.size ≤ l.length := by
  obtain ⟨y, hy, rfl⟩ := List.mem_map.1 h
  have := cutL_size 32 l y hy
  show y.toArray.size ≤ _
  simpa using this
def splitW (c : UInt8) (l : List UInt8) : List ByteArray := (cutL c l).map fun x => ⟨x.toArray⟩
theorem splitB_is (c : UInt8) (s : ByteArray) : Lib.splitB ⟨#[c]⟩ 0 (Lib.countB s ⟨#[c]⟩) s = splitW c s.data.toList := by
  have h := congrArg (List.map fun x : List UInt8 => (⟨x.toArray⟩ : ByteArray)) (splitB_cut c s)
  rw [List.map_map] at h
  rw [← show (splitW c s.data.toList) = (cutL c s.data.toList).map (fun x => ⟨x.toArray⟩) from rfl] at h
  rw [← h]
  exact (List.map_id'' (fun w => ba_eq rfl) _).symm
theorem splitW_len (c : UInt8) (s : ByteArray) : Lib.countB s ⟨#[c]⟩ + 1 = (splitW c s.data.toList).length := by
  unfold splitW
  rw [List.length_map, cutL_len]
  show Lib.count s.data.toList [c] + 1 = _
  rw [Lib.count_one]
theorem count_le (c : UInt8) : ∀ l : List UInt8, l.count c ≤ l.length := fun l => List.count_le_length
theorem splitW_most (c : UInt8) (l : List UInt8) : (splitW c l).length ≤ l.length + 1 := by
  unfold splitW
  rw [List.length_map, cutL_len]
  have := count_le c l
  omega
/-- The lines of a text, as strings. -/
def linesB (t : List UInt8) : List ByteArray := (linesF t).map fun l => ⟨l.toArray⟩
theorem linesB_len (t : List UInt8) : (linesB t).length = (linesF t).length := by simp [linesB]
theorem linesB_at {t : List UInt8} {k : Nat} {x : ByteArray} (h : (linesB t)[k]? = some x) : (linesF t)[k]? = some x.data.toList := by
  unfold linesB at h
  rw [List.getElem?_map] at h
  cases hl : (linesF t)[k]? with
  | none => rw [hl] at h; cases h
  | some l => rw [hl] at h; cases h; rfl
theorem trim_len (t : List UInt8) : (Lib.trimSuffix t [10]).length ≤ t.length := by
  unfold Lib.trimSuffix
  split
  · rw [List.length_take]; omega
  · omega
theorem linesF_len (t : List UInt8) : (linesF t).length ≤ t.length + 1 := by
  unfold linesF
  split
  · simp
  · have h := splitW_most 10 (Lib.trimSuffix t [10])
    unfold splitW at h
    rw [List.length_map] at h
    have := trim_len t
    omega
theorem linesF_size {t l : List UInt8} (h : l ∈ linesF t) : l.length ≤ t.length := by
  unfold linesF at h
  split at h
  · cases h
  · have := cutL_size 10 _ l h
    have := trim_len t
    omega
theorem getD_size {l : List UInt8} (i : Nat) : ((wordsL l).getD i ⟨#[]⟩).size ≤ l.length := by
  rw [List.getD_eq_getElem?_getD]
  cases h : (wordsL l)[i]? with
  | none => exact Nat.zero_le _
  | some x => exact wordsL_size (List.mem_of_getElem? h)
theorem empty_ba {s : ByteArray} (h : s.toList.isEmpty = true) : s = ⟨#[]⟩ := by
  rw [Lib.toList_data] at h
  exact ba_eq (List.isEmpty_iff.1 h)

theorem ba_empty {s : ByteArray} (h : ¬ s = ⟨#[]⟩) : s.toList.isEmpty = false ∧ ¬ s.toList = [] := by
  have g1 : s.toList.isEmpty = false := by
    cases hh : s.toList.isEmpty with
    | false => rfl
    | true => exact absurd (empty_ba hh) h
  exact ⟨g1, fun e => by rw [e] at g1; cases g1⟩

theorem scan_first {f : Nat → Int} : ∀ n, (∃ i, i < n ∧ f i ≠ 0) → ∃ k, k < n ∧ Zeros f k ∧ f k ≠ 0
  | 0, ⟨i, hi, _⟩ => by omega
  | n + 1, ⟨i, hi, hx⟩ => by
    by_cases h : ∃ i, i < n ∧ f i ≠ 0
    · obtain ⟨k, hk, h1, h2⟩ := scan_first n h
      exact ⟨k, by omega, h1, h2⟩
    · refine ⟨n, by omega, fun j hj => Classical.byContradiction fun e => h ⟨j, hj, e⟩, ?_⟩
      obtain rfl : i = n := Classical.byContradiction fun e => h ⟨i, by omega, hx⟩
      exact hx
end Go.Proofs.YtboplnogfjmpnaaGreatDoor
