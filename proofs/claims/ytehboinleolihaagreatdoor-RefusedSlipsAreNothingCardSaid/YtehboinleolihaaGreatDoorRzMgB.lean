/- Slips parted into two lists; two lists one behind the other. Conditions: sizes. -/
import Derived.Test.YtehboinleolihaaGreatDoorRzMgA
import Derived.Test.YtehboinleolihaaGreatDoorRzJ26
import Derived.Test.YtehboinleolihaaGreatDoorRzJ4
import Derived.Test.YtehboinleolihaaGreatDoorRzJ14
import Derived.Lib.AppendZerosOnto
import Derived.Deep.DeepAppendWide
set_option linter.unusedSimpArgs false
set_option linter.unusedVariables false
namespace Go.Proofs.YtehboinleolihaaGreatDoor
open Go Go.RowKit Go.Lib

/-! ### parts -/
/-- The two parts as rows of their own that share no block. -/
def PartO (s k n : Nat) (V : List SlipV) (w : World) (e : Ending) (w' : World) : Prop := ∃ (p q : Option Addr) (c1 c2 : Nat) (A B : List SlipV), e = .returned (.tuple #[.slice p A.length c1, .slice q B.length c2]) ∧ w'.ownsRow w.heap.size 79 7 (.slice p A.length c1) A.length (A.flatMap slipC) ∧ w'.ownsRow w.heap.size 79 7 (.slice q B.length c2) B.length (B.flatMap slipC) ∧ A.length ≤ n ∧ B.length ≤ n ∧ A.Sublist V ∧ B.Sublist V ∧ (∀ x ∈ V, x ∈ A ∨ x ∈ B) ∧ (∀ g, (Value.slice p A.length c1).ownBlock = some g → (Value.slice q B.length c2).ownBlock ≠ some g) ∧ Str w' s (k + n) ∧ ExtS s w w'
def PartR (s k n : Nat) (V : List SlipV) (w : World) (e : Ending) (w' : World) : Prop := ∃ (p q : Option Addr) (n1 c1 n2 c2 : Nat) (A B : List SlipV), e = .returned (.tuple #[.slice p n1 c1, .slice q n2 c2]) ∧ Slc 7 slipC w' p n1 c1 A ∧ Slc 7 slipC w' q n2 c2 B ∧ n1 ≤ n ∧ n2 ≤ n ∧ A.Sublist V ∧ B.Sublist V ∧ (∀ x ∈ V, x ∈ A ∨ x ∈ B) ∧ (∀ a, p = some a → w.heap.size ≤ a.block) ∧ (∀ a, q = some a → w.heap.size ≤ a.block) ∧ Str w' s (k + n) ∧ ExtS s w w'
theorem PartO.r {s k n : Nat} {V : List SlipV} {w w' : World} {e : Ending} (h : PartO s k n V w e w') (hn : n ≤ 1000) : PartR s k n V w e w' := by
  obtain ⟨p1, p2, c1, c2, A, B, rfl, ho1, ho2, hA, hB, hsA, hsB, hAB, -, hS, hE⟩ := h
  obtain ⟨q1, d1, e1, hS1⟩ := slc_of_own slipC_len ho1 (by decide) (by omega)
  obtain ⟨q2, d2, e2, hS2⟩ := slc_of_own slipC_len ho2 (by decide) (by omega)
  cases e1
  cases e2
  exact ⟨p1, p2, _, c1, _, c2, A, B, rfl, hS1, hS2, hA, hB, hsA, hsB, hAB, (fun a ha => by subst ha; exact (ho1.lt a.block rfl).1), (fun a ha => by subst ha; exact (ho2.lt a.block rfl).1), hS, hE⟩
/-! ### one behind the other -/
end Go.Proofs.YtehboinleolihaaGreatDoor
