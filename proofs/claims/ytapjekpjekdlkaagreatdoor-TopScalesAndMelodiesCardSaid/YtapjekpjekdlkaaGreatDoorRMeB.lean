/- Held melodies: how many intervals they can reach. Plain mathematics. Conditions: as each theorem says. -/
import Derived.Test.YtapjekpjekdlkaaGreatDoorRMeA
set_option linter.unusedSimpArgs false
set_option linter.unusedVariables false
namespace Go.Proofs.YtapjekpjekdlkaaGreatDoor
open Go Go.RowKit

def addP (x y : I4) : I4 := ⟨x.a + y.a, x.b + y.b, x.c + y.c, x.d + y.d⟩
/-! ### steps of several kinds -/
theorem flat_len_const {α β : Type} (f : α → List β) (k : Nat) (h : ∀ a, (f a).length = k) : ∀ l : List α, (l.flatMap f).length = l.length * k
  | [] => by simp
  | a :: l => by rw [List.flatMap_cons, List.length_append, h, flat_len_const f k h l, List.length_cons, Nat.add_mul]; omega
end Go.Proofs.YtapjekpjekdlkaaGreatDoor
