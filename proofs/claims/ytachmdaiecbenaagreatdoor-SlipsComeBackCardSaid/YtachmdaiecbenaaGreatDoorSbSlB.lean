/- Texts of slips, plain: what is written is read as it was; what is read is written so. Conditions: as each theorem says. -/
import Derived.Test.YtachmdaiecbenaaGreatDoorSbSlA
set_option linter.unusedSimpArgs false
set_option linter.unusedVariables false
namespace Go.Proofs.YtachmdaiecbenaaGreatDoor
open Go Go.Lib Go.RowKit

def textV (d : List SlipV) : List UInt8 := d.flatMap fun x => lineV x ++ [10]
/-- The lines of a text, and whether the last one is ended. -/
def linesF (t : List UInt8) : List (List UInt8) := if t = [] then [] else cutL 10 (Lib.trimSuffix t [10])
def endedF (t : List UInt8) : Bool := if t = [] then true else Lib.hasSuffix t [10]
/-- Whether a line is wrong. -/
def badL (ls : List (List UInt8)) (ended : Bool) (i : Nat) : Bool := (lineF (ls.getD i [])).isNone || (!ended && decide (i + 1 = ls.length))
theorem text_join : ∀ {d : List SlipV}, d ≠ [] → textV d = join (d.map lineV) [10] ++ [10]
  | [], h => absurd rfl h
  | [x], _ => by
    show (lineV x ++ [10]) ++ [] = join [lineV x] [10] ++ [10]
    rw [List.append_nil, join_one]
  | x :: y :: r, _ => by
    have ih := text_join (d := y :: r) (by simp)
    show (lineV x ++ [10]) ++ textV (y :: r) = join (lineV x :: lineV y :: r.map lineV) [10] ++ [10]
    rw [ih, joinL_cons2]
    simp
theorem suffix_snoc (l : List UInt8) : Lib.hasSuffix (l ++ [10]) [10] = true ∧ Lib.trimSuffix (l ++ [10]) [10] = l := by
  have h : Lib.hasSuffix (l ++ [10]) [10] = true := by
    unfold Lib.hasSuffix
    rw [List.isSuffixOf_iff_suffix]
    exact List.suffix_append _ _
  refine ⟨h, ?_⟩
  unfold Lib.trimSuffix
  rw [if_pos h]
  simp
theorem suffix_inv {t : List UInt8} (h : Lib.hasSuffix t [10] = true) : t = Lib.trimSuffix t [10] ++ [10] := by
  have h2 := h
  unfold Lib.hasSuffix at h2
  rw [List.isSuffixOf_iff_suffix] at h2
  obtain ⟨l, rfl⟩ := h2
  rw [(suffix_snoc l).2]
theorem lines_text {d : List SlipV} (h : ∀ x ∈ d, SlipOk x) : linesF (textV d) = d.map lineV ∧ endedF (textV d) = true := by
  by_cases hd : d = []
  · subst hd; exact ⟨rfl, rfl⟩
  · have hne : textV d ≠ [] := by rw [text_join hd]; simp
    unfold linesF endedF
    rw [if_neg hne, if_neg hne, text_join hd, (suffix_snoc _).1, (suffix_snoc _).2]
    refine ⟨cut_join 10 (by simpa using hd) fun l hl => ?_, rfl⟩
    obtain ⟨x, hx, rfl⟩ := List.mem_map.1 hl
    exact line_nofeed (h x hx)
theorem good_text {d : List SlipV} (h : ∀ x ∈ d, SlipOk x) (i : Nat) (hi : i < (linesF (textV d)).length) : badL (linesF (textV d)) (endedF (textV d)) i = false ∧ (linesF (textV d)).filterMap lineF = d := by
  obtain ⟨e1, e2⟩ := lines_text h
  rw [e1] at hi
  rw [e1, e2]
  have hf : (d.map lineV).filterMap lineF = d := by
    clear hi e1 e2
    induction d with
    | nil => rfl
    | cons x d ih =>
      rw [List.map_cons, List.filterMap_cons, line_read (h x List.mem_cons_self)]
      simp only
      rw [ih fun y hy => h y (List.mem_cons_of_mem _ hy)]
  refine ⟨?_, hf⟩
  rw [List.length_map] at hi
  unfold badL
  have e : (d.map lineV).getD i [] = lineV d[i] := by
    rw [List.getD_eq_getElem?_getD, List.getElem?_map, List.getElem?_eq_getElem hi]; rfl
  rw [e, line_read (h _ (List.getElem_mem hi))]
  rfl
theorem text_of {t : List UInt8} (h : ∀ i, i < (linesF t).length → badL (linesF t) (endedF t) i = false) : textV ((linesF t).filterMap lineF) = t := by
  by_cases ht : t = []
  · subst ht; rfl
  · have hl : linesF t = cutL 10 (Lib.trimSuffix t [10]) := by unfold linesF; rw [if_neg ht]
    have he : endedF t = Lib.hasSuffix t [10] := by unfold endedF; rw [if_neg ht]
    rw [hl, he] at h
    have hne := cutL_ne 10 (Lib.trimSuffix t [10])
    have hend : Lib.hasSuffix t [10] = true := by
      have hp := List.length_pos_iff.2 hne
      have := h ((cutL 10 (Lib.trimSuffix t [10])).length - 1) (by omega)
      unfold badL at this
      simp only [Bool.or_eq_false_iff, Bool.and_eq_false_iff, Bool.not_eq_false', decide_eq_false_iff_not] at this
      rcases this.2 with h1 | h1
      · exact h1
      · omega
    rw [hl]
    have hall : ∀ l ∈ cutL 10 (Lib.trimSuffix t [10]), ∃ x, lineF l = some x ∧ lineV x = l := fun l hm => by
      obtain ⟨i, hi⟩ := List.mem_iff_getElem?.1 hm
      have hil := (List.getElem?_eq_some_iff.1 hi).1
      have := h i hil
      unfold badL at this
      simp only [Bool.or_eq_false_iff] at this
      rw [List.getD_eq_getElem?_getD, hi] at this
      cases hx : lineF l with
      | none => have h3 := this.1; simp only [Option.getD_some] at h3; rw [hx] at h3; cases h3
      | some x => exact ⟨x, rfl, line_of hx⟩
    have hmap : ∀ L : List (List UInt8), (∀ l ∈ L, ∃ x, lineF l = some x ∧ lineV x = l) → (L.filterMap lineF).map lineV = L := by
      intro L
      induction L with
      | nil => intro _; rfl
      | cons l L ih =>
        intro hL
        obtain ⟨x, hx, hv⟩ := hL l List.mem_cons_self
        rw [List.filterMap_cons, hx]
        simp only [List.map_cons]
        rw [hv, ih fun m hm => hL m (List.mem_cons_of_mem _ hm)]
    have hm := hmap _ hall
    have hfne : (cutL 10 (Lib.trimSuffix t [10])).filterMap lineF ≠ [] := fun e => by rw [e] at hm; exact hne hm.symm
    rw [text_join hfne, hm, join_cut]
    exact (suffix_inv hend).symm
end Go.Proofs.YtachmdaiecbenaaGreatDoor
