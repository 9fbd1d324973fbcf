/- How many bits a small set has; lists of numbers compared. Conditions: sizes. How many singers are lacking, and which parts are short, by the program. Conditions: sizes; at most three parts. Plain mathematics of dividing singers among parts: the greatest sum, the first of the best divisions, and what the best ones share. Conditions: as each theorem says. -/
import Derived.Test.YtdehmioobkneiaaGreatDoorTdJ24
import Derived.Test.YtdehmioobkneiaaGreatDoorTdJ23
set_option linter.unusedSimpArgs false
set_option linter.unusedVariables false
namespace Go.Proofs.YtdehmioobkneiaaGreatDoor
open Go Go.RowKit
end Go.Proofs.YtdehmioobkneiaaGreatDoor
namespace Go.Proofs.YtdehmioobkneiaaGreatDoor
open Go Go.RowKit
/-- What is wrong with a question for a moment. -/
def errL (V : List VoiceV) (P : List PartV) (t : Int) : Int := if bothF V P = 0 then (if momB t then 0 else 1) else bothF V P
theorem errL_zero {V : List VoiceV} {P : List PartV} {t : Int} : errL V P t = 0 ↔ voicesF V = 0 ∧ partsF P = 0 ∧ momB t = true := by
  unfold errL bothF
  by_cases h1 : voicesF V = 0
  · rw [if_pos h1]
    by_cases h2 : partsF P = 0
    · rw [if_pos h2]
      cases momB t <;> simp [h1, h2]
    · rw [if_neg h2]
      exact ⟨fun e => absurd e h2, fun e => absurd e.2.1 h2⟩
  · rw [if_neg h1, if_neg h1]
    exact ⟨fun e => absurd e h1, fun e => absurd e.1 h1⟩
theorem parts_need {P : List PartV} (h : partsF P = 0) : P.length ≤ 12 ∧ ∀ x ∈ P, 0 ≤ x.least ∧ x.least ≤ 1000 := by
  obtain ⟨h1, h2⟩ := partsF_right h
  refine ⟨h1, fun x hx => ?_⟩
  have h3 := (h2 x hx).2
  unfold rightP at h3
  simp only [Bool.and_eq_true] at h3
  have h4 := inB_iff.1 h3.1.2
  have h5 := of_decide_eq_true h3.2
  omega
section
variable {w : World} {vp pp : Option Addr} {vc pc : Nat} {V : List VoiceV} {P : List PartV}
theorem mom_call (t : Int) : ∀ u g ty cap, Blk u g ty #[.int .i64 t] → Calls Tryz.prog 58 #[.slice (some ⟨g, 0, none⟩) 1 cap] u fun e w' => e = .returned (.int .i64 (if momB t then 0 else 1)) ∧ Ext u w' := fun u g ty cap hB => momentFault1_any t g ty cap u hB
end
end Go.Proofs.YtdehmioobkneiaaGreatDoor
namespace Go.Proofs.YtdehmioobkneiaaGreatDoor
def leastP (P : List PartV) (p : Nat) : Int := (P.getD p default).least
def mostP (P : List PartV) (p : Nat) : Int := (P.getD p default).most
def okEnd (P : List PartV) (N : List Nat) : Bool := (List.range P.length).all fun p => decide (leastP P p ≤ (N.getD p 0 : Int))
def incN (N : List Nat) (p : Nat) : List Nat := N.set p (N.getD p 0 + 1)
def maxT (g : Nat → Int) : Nat → Int
  | 0 => -1
  | k + 1 => max (maxT g k) (g k)
def barB (P : List PartV) (r : List Int) (N : List Nat) (p : Nat) : Bool := decide (r.getD p (-1) < 0) || decide ((N.getD p 0 : Int) = mostP P p)
def withV (P : List PartV) (f : List Nat → Int) (r : List Int) (N : List Nat) (p : Nat) : Int :=
  if barB P r N p then -1 else if f (incN N p) = -1 then -1 else f (incN N p) + r.getD p (-1)
/-- The greatest sum of a division of the singers that are left; -1: there is none. -/
def fromF (P : List PartV) : List (List Int) → List Nat → Int
  | [], N => if okEnd P N then 0 else -1
  | r :: rs, N => maxT (withV P (fromF P rs) r N) P.length
theorem maxT_ge (g : Nat → Int) : ∀ k, -1 ≤ maxT g k
  | 0 => Int.le_refl _
  | k + 1 => by have := maxT_ge g k; simp only [maxT]; omega
theorem maxT_hit {g : Nat → Int} : ∀ (k : Nat), maxT g k = -1 ∨ ∃ j, j < k ∧ g j = maxT g k
  | 0 => .inl rfl
  | k + 1 => by
    simp only [maxT]
    rcases Int.le_total (maxT g k) (g k) with h | h
    · exact .inr ⟨k, by omega, by omega⟩
    · rcases maxT_hit (g := g) k with h0 | ⟨j, hj, h1⟩
      · exact .inl (by omega)
      · exact .inr ⟨j, by omega, by omega⟩
section
variable {P : List PartV}
theorem fromF_ge : ∀ (C : List (List Int)) (N : List Nat), -1 ≤ fromF P C N
  | [], N => by simp only [fromF]; split <;> omega
  | r :: rs, N => maxT_ge _ _
theorem bar_pos {r : List Int} {N : List Nat} {p : Nat} (h : barB P r N p = false) : 0 ≤ r.getD p (-1) := by
  unfold barB at h
  simp only [Bool.or_eq_false_iff, decide_eq_false_iff_not] at h
  omega
theorem withV_some {f : List Nat → Int} {r : List Int} {N : List Nat} {p : Nat} (h : withV P f r N p ≠ -1) : barB P r N p = false ∧ f (incN N p) ≠ -1 ∧ withV P f r N p = f (incN N p) + r.getD p (-1) := by
  unfold withV at h ⊢
  cases hb : barB P r N p
  · rw [hb] at h
    simp only [Bool.false_eq_true, if_false] at h ⊢
    by_cases h1 : f (incN N p) = -1
    · rw [if_pos h1] at h; exact absurd rfl h
    · rw [if_neg h1]; exact ⟨trivial, h1, rfl⟩
  · rw [hb] at h
    simp at h
/-- The first number below n with a property. -/
def firstP (q : Nat → Bool) : Nat → Nat → Nat
  | 0, k => k
  | m + 1, k => if q k then k else firstP q m (k + 1)
theorem firstP_hit {q : Nat → Bool} : ∀ {m k : Nat}, (∃ j, k ≤ j ∧ j < k + m ∧ q j = true) → k ≤ firstP q m k ∧ firstP q m k < k + m ∧ q (firstP q m k) = true ∧ ∀ j, k ≤ j → j < firstP q m k → q j = false
  | 0, k, ⟨j, h1, h2, _⟩ => by omega
  | m + 1, k, ⟨j, h1, h2, h3⟩ => by
    simp only [firstP]
    cases hq : q k
    · have hjk : j ≠ k := fun e => by rw [e, hq] at h3; cases h3
      obtain ⟨a, b, c, d⟩ := firstP_hit (q := q) (m := m) (k := k + 1) ⟨j, by omega, by omega, h3⟩
      refine ⟨by simp; omega, by simp; omega, by simpa using c, fun i hi hi2 => ?_⟩
      rcases Nat.lt_or_ge k i with hlt | hge
      · exact d i (by omega) (by simpa using hi2)
      · obtain rfl : i = k := by omega
        exact hq
    · exact ⟨by simp, by simp, by simpa using hq, fun i hi hi2 => by simp at hi2; omega⟩
def pickP (P : List PartV) (C : List (List Int)) (r : List Int) (N : List Nat) : Nat := firstP (fun k => withV P (fromF P C) r N k == fromF P (r :: C) N) P.length 0
/-- The first of the best divisions. -/
def divG (P : List PartV) : List (List Int) → List Nat → List Nat
  | [], _ => []
  | r :: C, N => pickP P C r N :: divG P C (incN N (pickP P C r N))
theorem pickP_hit {C : List (List Int)} {r : List Int} {N : List Nat} (h : fromF P (r :: C) N ≠ -1) : pickP P C r N < P.length ∧ withV P (fromF P C) r N (pickP P C r N) = fromF P (r :: C) N ∧ ∀ j, j < pickP P C r N → withV P (fromF P C) r N j ≠ fromF P (r :: C) N := by
  rcases maxT_hit (g := withV P (fromF P C) r N) P.length with h0 | ⟨p, hp, e⟩
  · exact absurd h0 h
  · obtain ⟨a, b, c, d⟩ := firstP_hit (q := fun k => withV P (fromF P C) r N k == fromF P (r :: C) N) (m := P.length) (k := 0) ⟨p, by omega, by omega, beq_iff_eq.2 e⟩
    refine ⟨by unfold pickP; omega, beq_iff_eq.1 c, fun j hj => ?_⟩
    exact fun e => by have := d j (by omega) hj; rw [beq_eq_false_iff_ne] at this; exact this e
/-! ### the states that best divisions reach -/
theorem drop_at {C : List (List Int)} {i : Nat} (h : i < C.length) : C.drop i = C.getD i [] :: C.drop (i + 1) := by
  rw [List.drop_eq_getElem_cons h, List.getD_eq_getElem?_getD, List.getElem?_eq_getElem h]; rfl
end
end Go.Proofs.YtdehmioobkneiaaGreatDoor
