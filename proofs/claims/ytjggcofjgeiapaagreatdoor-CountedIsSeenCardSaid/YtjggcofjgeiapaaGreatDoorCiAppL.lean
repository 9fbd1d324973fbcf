/- Rows of the call's own: appended, with the place of the new row; cut. Conditions: as each theorem says. -/
import Derived.Test.YtjggcofjgeiapaaGreatDoorCiJ3
import Derived.ArgAppend
set_option linter.unusedSimpArgs false
set_option linter.unusedVariables false
namespace Go.Proofs.YtjggcofjgeiapaaGreatDoor
open Go Go.RowKit

theorem own_low {w : World} {base base' k n : Nat} {e : TypeId} {v : Value} {xs : List Value} (h : w.ownsRow base' e k v n xs) (hb : base ≤ base') : w.ownsRow base e k v n xs :=
  ⟨h.1, h.2.imp id fun ⟨g, cap, cur, hv, hg, r⟩ => ⟨g, cap, cur, hv, Nat.le_trans hb hg, r⟩⟩
theorem own_no {w : World} {base k n g : Nat} {t e : TypeId} {v : Value} {xs : List Value} {cs : Array Value} (ho : w.ownsRow base e k v n xs) (h : Blk w g t cs) (ht : t ≠ e) : v.ownBlock ≠ some g := by
  rcases ho.2 with ⟨rfl, _⟩ | ⟨b, cap, cur, rfl, _, h3, _⟩
  · simp [Value.ownBlock]
  · intro e1
    have e2 : b = g := by simpa [Value.ownBlock] using e1
    subst e2
    unfold Blk at h
    rw [h3] at h
    simp at h
    exact ht h.2.symm
theorem grown_set (w : World) (p : Addr) (u : Value) : w.grownBy (w.setCell p u) (some p.block) :=
  ⟨rfl, rfl, rfl, by simp [World.setCell], fun k _ h => Below.heap_setCell w p u k fun e => h (e ▸ rfl)⟩
theorem slcC {α : Type} {k : Nat} {enc : α → List Value} {w : World} {p : Option Addr} {n c : Nat} {xs : List α} (h : Slc k enc w p n c xs) :
    n = xs.length ∧ ((p = none ∧ xs = []) ∨ ∃ b off, p = some ⟨b, off, none⟩ ∧ b < w.heap.size ∧ Elems k enc w b off xs) := by
  obtain ⟨⟨h1, h2, h3⟩, h4, h5, h6⟩ := h
  refine ⟨h1.symm, ?_⟩
  cases p with
  | none => exact .inl ⟨rfl, List.eq_nil_of_length_eq_zero (by rw [h1]; exact h5 rfl)⟩
  | some a =>
    obtain ⟨b, off, rfl, hb⟩ := h6 a rfl
    refine .inr ⟨b, off, rfl, hb, ?_⟩
    by_cases hn : n = 0
    · obtain rfl : xs = [] := List.eq_nil_of_length_eq_zero (by omega)
      intro i x hx
      cases hx
    · obtain ⟨b', off', e, _, hE⟩ := h3 hn
      cases e
      exact hE
end Go.Proofs.YtjggcofjgeiapaaGreatDoor
