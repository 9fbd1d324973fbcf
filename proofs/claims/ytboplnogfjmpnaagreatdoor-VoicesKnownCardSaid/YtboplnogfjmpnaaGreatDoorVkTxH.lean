/- A text, line by line, as the document reads it: plain. Conditions: as each theorem says. -/
import Derived.Test.YtboplnogfjmpnaaGreatDoorVkTxG
import Derived.Test.YtboplnogfjmpnaaGreatDoorVkTxE
import Derived.Shelf.GgClosure.Gives
set_option linter.unusedSimpArgs false
set_option linter.unusedVariables false
namespace Go.Proofs.YtboplnogfjmpnaaGreatDoor
open Go Go.Lib Go.RowKit

theorem suffix_cons {x y : List UInt8} (hy : y ≠ []) : Lib.hasSuffix (x ++ 10 :: y) [10] = Lib.hasSuffix y [10] ∧ Lib.trimSuffix (x ++ 10 :: y) [10] = x ++ 10 :: Lib.trimSuffix y [10] := by
  obtain ⟨r, b, rfl⟩ := snoc_of hy
  have e : ∀ l : List UInt8, Lib.hasSuffix (l ++ [b]) [10] = (b == 10) := fun l => by
    unfold Lib.hasSuffix
    rw [Bool.eq_iff_iff, List.isSuffixOf_iff_suffix, beq_iff_eq]
    constructor
    · rintro ⟨z, hz⟩
      have := congrArg List.getLast? hz
      simpa using this.symm
    · rintro rfl
      exact List.suffix_append _ _
  have e2 : x ++ 10 :: (r ++ [b]) = (x ++ 10 :: r) ++ [b] := by simp
  rw [e2]
  refine ⟨by rw [e, e], ?_⟩
  unfold Lib.trimSuffix
  rw [e, e]
  have ht : ∀ l : List UInt8, (l ++ [b]).take ((l ++ [b]).length - 1) = l := fun l => by simp
  split
  · show List.take ((x ++ 10 :: r ++ [b]).length - 1) (x ++ 10 :: r ++ [b]) = x ++ 10 :: List.take ((r ++ [b]).length - 1) (r ++ [b])
    rw [ht, ht]
  · simp
theorem linesF_cons {x y : List UInt8} (hx : (10 : UInt8) ∉ x) : linesF (x ++ 10 :: y) = x :: linesF y ∧ endedF (x ++ 10 :: y) = endedF y := by
  have hne : x ++ 10 :: y ≠ [] := by simp
  by_cases hy : y = []
  · subst hy
    unfold linesF endedF
    rw [if_neg hne, if_neg hne, (suffix_snoc x).1, (suffix_snoc x).2, cutL_one hx]
    exact ⟨rfl, rfl⟩
  · obtain ⟨h1, h2⟩ := suffix_cons (x := x) hy
    unfold linesF endedF
    rw [if_neg hne, if_neg hne, h1, h2, cutL_cons hx, if_neg hy, if_neg hy]
    exact ⟨rfl, rfl⟩
theorem linesF_last {x : List UInt8} (h0 : x ≠ []) (hx : (10 : UInt8) ∉ x) : linesF x = [x] ∧ endedF x = false := by
  have hs : Lib.hasSuffix x [10] = false := by
    rw [Bool.eq_false_iff]
    intro h
    rw [suffix_inv h] at hx
    exact hx (by simp)
  unfold linesF endedF
  rw [if_neg h0, if_neg h0]
  refine ⟨?_, hs⟩
  unfold Lib.trimSuffix
  rw [hs]
  exact cutL_one hx
theorem linesF_nil {x : List UInt8} (h : linesF x = []) : x = [] := by
  unfold linesF at h
  split at h
  · assumption
  · exact absurd h (cutL_ne _ _)
/-- What is left of a text behind k lines. -/
def LeftL (t u : List UInt8) (k : Nat) : Prop := (linesF t).drop k = linesF u ∧ endedF t = endedF u ∧ k ≤ (linesF t).length
theorem LeftL.start (t : List UInt8) : LeftL t t 0 := ⟨rfl, rfl, Nat.zero_le _⟩
theorem LeftL.done {t : List UInt8} {k : Nat} (h : LeftL t [] k) : k = (linesF t).length := by
  obtain ⟨h1, h2, h3⟩ := h
  have := congrArg List.length h1
  rw [List.length_drop] at this
  have e : (linesF []).length = 0 := rfl
  omega
theorem LeftL.line {t x y : List UInt8} {k : Nat} (h : LeftL t (x ++ 10 :: y) k) (hx : (10 : UInt8) ∉ x) : (linesF t)[k]? = some x ∧ LeftL t y (k + 1) ∧ ∀ {α : Type} (rd : List UInt8 → Option α), badG rd (linesF t) (endedF t) k = (rd x).isNone := by
  obtain ⟨h1, h2, h3⟩ := h
  obtain ⟨e1, e2⟩ := linesF_cons (y := y) hx
  rw [e1] at h1
  rw [e2] at h2
  have hlen := congrArg List.length h1
  rw [List.length_drop, List.length_cons] at hlen
  have hk : (linesF t)[k]? = some x := by
    have := congrArg (fun l => l[0]?) h1
    simpa using this
  refine ⟨hk, ⟨?_, h2, by omega⟩, fun rd => ?_⟩
  · rw [show k + 1 = 1 + k by omega, ← List.drop_drop]
    have := congrArg (List.drop 1) h1
    simpa [List.drop_drop, Nat.add_comm] using this
  · unfold badG
    rw [List.getD_eq_getElem?_getD, hk, h2]
    simp only [Option.getD_some]
    by_cases hy : y = []
    · subst hy
      rw [show endedF [] = true from rfl]
      simp
    · have : (linesF y).length ≠ 0 := fun e => hy (linesF_nil (List.eq_nil_of_length_eq_zero e))
      rw [show decide (k + 1 = (linesF t).length) = false by simp; omega]
      simp
theorem LeftL.last {t u : List UInt8} {k : Nat} (h : LeftL t u k) (h0 : u ≠ []) (hu : (10 : UInt8) ∉ u) : k < (linesF t).length ∧ ∀ {α : Type} (rd : List UInt8 → Option α), badG rd (linesF t) (endedF t) k = true := by
  obtain ⟨h1, h2, h3⟩ := h
  obtain ⟨e1, e2⟩ := linesF_last h0 hu
  rw [e1] at h1
  rw [e2] at h2
  have hlen := congrArg List.length h1
  rw [List.length_drop, List.length_cons, List.length_nil] at hlen
  refine ⟨by omega, fun rd => ?_⟩
  unfold badG
  rw [h2, show decide (k + 1 = (linesF t).length) = true by simp; omega]
  simp
theorem cut_hit {x y : List UInt8} (hx : (10 : UInt8) ∉ x) : Lib.cut (x ++ 10 :: y) [10] = (x, y, true) := by
  unfold Lib.cut
  rw [index_one_hit y hx, if_pos (by omega)]
  simp
theorem cut_miss {x : List UInt8} (hx : (10 : UInt8) ∉ x) : Lib.cut x [10] = (x, [], false) := by
  unfold Lib.cut
  rw [index_one_miss hx, if_neg (by decide)]
theorem cut_call {B : Nat} {u : ByteArray} {w : World} (hs : u.size ≤ 1000000) (hm : MaxL B w) :
    Calls Tryz.prog 89 #[.string u, .string ⟨#[10]⟩] w fun e w' => e = .returned (.tuple #[.string ⟨(Lib.cut u.data.toList [10]).1.toArray⟩, .string ⟨(Lib.cut u.data.toList [10]).2.1.toArray⟩, .bool (Lib.cut u.data.toList [10]).2.2]) ∧ Ext w w' := by
  obtain ⟨-, -, m, hm⟩ := hm
  exact (Tryz.strings_Cut u ⟨#[10]⟩ m w (by omega) hm).mono fun e w' ⟨he, n, hn⟩ => ⟨he, hn ▸ below_drewN' (Below.refl _ w) n⟩
end Go.Proofs.YtboplnogfjmpnaaGreatDoor
