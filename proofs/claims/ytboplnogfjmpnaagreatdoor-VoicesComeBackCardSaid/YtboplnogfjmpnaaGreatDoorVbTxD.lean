/- Texts of lines and words, plain. Conditions: as each theorem says. -/
import Derived.Test.YtboplnogfjmpnaaGreatDoorVbTxA
import Derived.Test.YtboplnogfjmpnaaGreatDoorVbTxC
import Derived.Test.YtboplnogfjmpnaaGreatDoorVbKeyP
import Derived.Test.YtboplnogfjmpnaaGreatDoorVbJ6
set_option linter.unusedSimpArgs false
set_option linter.unusedVariables false
namespace Go.Proofs.YtboplnogfjmpnaaGreatDoor
open Go Go.Lib Go.RowKit

def bytesW (W : List ByteArray) : List (List UInt8) := W.map (·.data.toList)
def wordsL (s : List UInt8) : List ByteArray := (cutL 32 s).map fun l => ⟨l.toArray⟩
theorem wordsL_bytes (s : List UInt8) : bytesW (wordsL s) = cutL 32 s := by
  unfold bytesW wordsL
  rw [List.map_map]
  exact List.map_id'' (fun l => rfl) _
theorem key_bytes {s : ByteArray} (h : keyB s = true) : s.data.toList ≠ [] ∧ (32 : UInt8) ∉ s.data.toList ∧ (10 : UInt8) ∉ s.data.toList ∧ s.size ≤ 40 := by
  unfold keyB at h
  simp only [Bool.and_eq_true, Bool.not_eq_true', decide_eq_true_eq] at h
  obtain ⟨⟨⟨h1, h2⟩, -⟩, h4⟩ := h
  have ht := empty_data (s := trimB s) h4
  have hall := all_of_trimS (show Lib.trimS s.data.toList keysB.data.toList = [] by simpa [trimB] using ht)
  refine ⟨fun e => ?_, fun hm => ?_, fun hm => ?_, h2⟩
  · have : s.toList = s.data.toList := Lib.toList_data _
    rw [this, e] at h1
    cases h1
  · exact absurd (hall _ hm) (by decide)
  · exact absurd (hall _ hm) (by decide)
theorem itoa_bytes (n : Nat) : (itoaL (n : Int)).data.toList ≠ [] ∧ (32 : UInt8) ∉ (itoaL (n : Int)).data.toList ∧ (10 : UInt8) ∉ (itoaL (n : Int)).data.toList := by
  have e : (itoaL (n : Int)).data.toList = decDigits n := by
    show (Lib.itoa (n : Int)).toArray.toList = _
    rw [itoa_nonneg]
  rw [e]
  refine ⟨dec_ne n, fun h => ?_, fun h => ?_⟩
  · have := dec_digit n _ h; simp at this
  · have := dec_digit n _ h; simp at this
/-- The lines of a text, and whether the last one is ended. -/
def linesF (t : List UInt8) : List (List UInt8) := if t = [] then [] else cutL 10 (Lib.trimSuffix t [10])
def endedF (t : List UInt8) : Bool := if t = [] then true else Lib.hasSuffix t [10]
theorem suffix_snoc (l : List UInt8) : Lib.hasSuffix (l ++ [10]) [10] = true ∧ Lib.trimSuffix (l ++ [10]) [10] = l := by
  have h : Lib.hasSuffix (l ++ [10]) [10] = true := by
    unfold Lib.hasSuffix
    rw [List.isSuffixOf_iff_suffix]
    exact List.suffix_append _ _
  refine ⟨h, ?_⟩
  unfold Lib.trimSuffix
  rw [if_pos h]
  simp
theorem suffix_inv {t : List UInt8} (h : Lib.hasSuffix t [10] = true) : t = Lib.trimSuffix t [10] ++ [10] := by
  have h2 := h
  unfold Lib.hasSuffix at h2
  rw [List.isSuffixOf_iff_suffix] at h2
  obtain ⟨l, rfl⟩ := h2
  rw [(suffix_snoc l).2]
theorem join_len (c : UInt8) {m : Nat} : ∀ W : List (List UInt8), (∀ l ∈ W, l.length ≤ m) → (Lib.join W [c]).length ≤ W.length * (m + 1)
  | [], _ => by show ([] : List UInt8).length ≤ _; simp
  | [x], h => by
    rw [Lib.join_one]
    have := h x List.mem_cons_self
    simp; omega
  | x :: y :: r, h => by
    rw [joinL_cons2]
    have ih := join_len c (m := m) (y :: r) fun l hl => h l (List.mem_cons_of_mem _ hl)
    have := h x List.mem_cons_self
    simp only [List.length_append, List.length_cons] at ih ⊢
    have e : (r.length + 1 + 1) * (m + 1) = (r.length + 1) * (m + 1) + (m + 1) := by rw [Nat.add_mul (r.length + 1) 1]; omega
    omega
theorem cutL_size (c : UInt8) : ∀ l : List UInt8, ∀ x ∈ cutL c l, x.length ≤ l.length
  | [], x, hx => by rw [List.mem_singleton.1 hx]; exact Nat.le_refl _
  | b :: l, x, hx => by
    obtain ⟨y, r, e⟩ : ∃ y r, cutL c l = y :: r := by
      cases h : cutL c l with
      | nil => exact absurd h (cutL_ne c l)
      | cons y r => exact ⟨y, r, rfl⟩
    have ih := cutL_size c l
    by_cases hb : b = c
    · subst hb
      rw [cutL_hit] at hx
      rcases List.mem_cons.1 hx with h | h
      · rw [h]; simp
      · have := ih x h; simp; omega
    · rw [cutL_miss hb e] at hx
      rw [e] at ih
      rcases List.mem_cons.1 hx with h | h
      · rw [h]
        have := ih y List.mem_cons_self
        simp; omega
      · have := ih x (List.mem_cons_of_mem _ h); simp; omega
theorem wordsL_size {l : List UInt8} {x : ByteArray} (h : x ∈ wordsL l) : x.size ≤ l.length := by
  obtain ⟨y, hy, rfl⟩ := List.mem_map.1 h
  have := cutL_size 32 l y hy
  show y.toArray.size ≤ _
  simpa using this
def splitW (c : UInt8) (l : List UInt8) : List ByteArray := (cutL c l).map fun x => ⟨x.toArray⟩
theorem splitB_is (c : UInt8) (s : ByteArray) : Lib.splitB ⟨#[c]⟩ 0 (Lib.countB s ⟨#[c]⟩) s = splitW c s.data.toList := by
  have h := congrArg (List.map fun x : List UInt8 => (⟨x.toArray⟩ : ByteArray)) (splitB_cut c s)
  rw [List.map_map] at h
  rw [← show (splitW c s.data.toList) = (cutL c s.data.toList).map (fun x => ⟨x.toArray⟩) from rfl] at h
  rw [← h]
  exact (List.map_id'' (fun w => ba_eq rfl) _).symm
theorem splitW_len (c : UInt8) (s : ByteArray) : Lib.countB s ⟨#[c]⟩ + 1 = (splitW c s.data.toList).length := by
  unfold splitW
  rw [List.length_map, cutL_len]
  show Lib.count s.data.toList [c] + 1 = _
  rw [Lib.count_one]
theorem count_le (c : UInt8) : ∀ l : List UInt8, l.count c ≤ l.length := fun l => List.count_le_length
theorem splitW_most (c : UInt8) (l : List UInt8) : (splitW c l).length ≤ l.length + 1 := by
  unfold splitW
  rw [List.length_map, cutL_len]
  have := count_le c l
  omega
/-- The lines of a text, as strings. -/
def linesB (t : List UInt8) : List ByteArray := (linesF t).map fun l => ⟨l.toArray⟩
theorem linesB_len (t : List UInt8) : (linesB t).length = (linesF t).length := by simp [linesB]
theorem linesB_at {t : List UInt8} {k : Nat} {x : ByteArray} (h : (linesB t)[k]? = some x) : (linesF t)[k]? = some x.data.toList := by
  unfold linesB at h
  rw [List.getElem?_map] at h
  cases hl : (linesF t)[k]? with
  | none => rw [hl] at h; cases h
  | some l => rw [hl] at h; cases h; rfl
theorem trim_len (t : List UInt8) : (Lib.trimSuffix t [10]).length ≤ t.length := by
  unfold Lib.trimSuffix
  split
  · rw [List.length_take]; omega
  · omega
theorem linesF_len (t : List UInt8) : (linesF t).length ≤ t.length + 1 := by
  unfold linesF
  split
  · simp
  · have h := splitW_most 10 (Lib.trimSuffix t [10])
    unfold splitW at h
    rw [List.length_map] at h
    have := trim_len t
    omega
theorem linesF_size {t l : List UInt8} (h : l ∈ linesF t) : l.length ≤ t.length := by
  unfold linesF at h
  split at h
  · cases h
  · have := cutL_size 10 _ l h
    have := trim_len t
    omega
theorem getD_size {l : List UInt8} (i : Nat) : ((wordsL l).getD i ⟨#[]⟩).size ≤ l.length := by
  rw [List.getD_eq_getElem?_getD]
  cases h : (wordsL l)[i]? with
  | none => exact Nat.zero_le _
  | some x => exact wordsL_size (List.mem_of_getElem? h)
theorem empty_ba {s : ByteArray} (h : s.toList.isEmpty = true) : s = ⟨#[]⟩ := by
  rw [Lib.toList_data] at h
  exact ba_eq (List.isEmpty_iff.1 h)

theorem ba_empty {s : ByteArray} (h : ¬ s = ⟨#[]⟩) : s.toList.isEmpty = false ∧ ¬ s.toList = [] := by
  have g1 : s.toList.isEmpty = false := by
    cases hh : s.toList.isEmpty with
    | false => rfl
    | true => exact absurd (empty_ba hh) h
  exact ⟨g1, fun e => by rw [e] at g1; cases g1⟩

theorem scan_first {f : Nat → Int} : ∀ n, (∃ i, i < n ∧ f i ≠ 0) → ∃ k, k < n ∧ Zeros f k ∧ f k ≠ 0
  | 0, ⟨i, hi, _⟩ => by omega
  | n + 1, ⟨i, hi, hx⟩ => by
    by_cases h : ∃ i, i < n ∧ f i ≠ 0
    · obtain ⟨k, hk, h1, h2⟩ := scan_first n h
      exact ⟨k, by omega, h1, h2⟩
    · refine ⟨n, by omega, fun j hj => Classical.byContradiction fun e => h ⟨j, hj, e⟩, ?_⟩
      obtain rfl : i = n := Classical.byContradiction fun e => h ⟨i, by omega, hx⟩
      exact hx
end Go.Proofs.YtboplnogfjmpnaaGreatDoor
