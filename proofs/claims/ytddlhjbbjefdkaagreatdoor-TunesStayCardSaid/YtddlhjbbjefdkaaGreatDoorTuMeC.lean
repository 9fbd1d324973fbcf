/- Held melodies: which intervals each note can have, and how many. Plain mathematics. Conditions: as each theorem says. -/
import Derived.Test.YtddlhjbbjefdkaaGreatDoorTuMeB
import Derived.Test.YtddlhjbbjefdkaaGreatDoorTuJ5
set_option linter.unusedSimpArgs false
set_option linter.unusedVariables false
namespace Go.Proofs.YtddlhjbbjefdkaaGreatDoor
open Go Go.RowKit

/-- The k-th note can have an interval from the first one. -/
def Rch (C : List (List I4)) : Nat → I4 → Prop
  | 0, x => x = zeroI
  | k + 1, x => rightB x = true ∧ ∃ i c, Rch C k i ∧ c ∈ C.getD k [] ∧ x = addI i c
theorem right_zero : rightB zeroI = true := by decide
theorem rch_right {C : List (List I4)} : ∀ {k : Nat} {x : I4}, Rch C k x → rightB x = true
  | 0, _, h => by rw [show _ = zeroI from h]; exact right_zero
  | _ + 1, _, h => h.1
/-- All choices are right intervals. -/
def RightC (C : List (List I4)) : Prop := ∀ cs ∈ C, ∀ c ∈ cs, rightB c = true
theorem RightC.at_ {C : List (List I4)} (h : RightC C) {k : Nat} {c : I4} (hc : c ∈ C.getD k []) : rightB c = true := by
  rw [List.getD_eq_getElem?_getD] at hc
  cases e : C[k]? with
  | none => rw [e] at hc; cases hc
  | some cs => rw [e] at hc; exact h cs (List.mem_of_getElem? e) c hc
theorem add_plain {x y : I4} (hx : rightB x = true) (hy : rightB y = true) : addI x y = addP x y := by
  obtain ⟨a1, a2, a3, a4⟩ := right_bounds hx
  obtain ⟨b1, b2, b3, b4⟩ := right_bounds hy
  unfold addI addP
  rw [wrap64_small _ (by omega), wrap64_small _ (by omega), wrap64_small _ (by omega), wrap64_small _ (by omega)]
end Go.Proofs.YtddlhjbbjefdkaaGreatDoor
