/- Lines, words and numbers of a text, by kit; a text that is written. MaxL: the variable internal/bytealg.MaxLen holds some number. Conditions: as each theorem says. -/
import Derived.Test.YtehboinleolihaaGreatDoorCzJ10
import Derived.Test.YtehboinleolihaaGreatDoorCzJ6
import Derived.Test.YtehboinleolihaaGreatDoorCzJ4
set_option linter.unusedSimpArgs false
set_option linter.unusedVariables false
namespace Go.Proofs.YtehboinleolihaaGreatDoor
open Go Go.RowKit
/-- The variable that strings.Split looks at holds some number; it lies ahead of block B. -/
def MaxL (B : Nat) (w : World) : Prop := 0 < B ∧ B ≤ w.heap.size ∧ ∃ m : Int, w.cell? ⟨0,0, none⟩ = some (.int .i64 m)
theorem MaxL.ext {B : Nat} {w w' : World} (h : MaxL B w) (he : Ext w w') : MaxL B w' := by
 obtain ⟨h1, h2, m, hm⟩ := h
 obtain ⟨hc, -, -⟩ := he.walk
 exact ⟨h1, Nat.le_trans h2 he.size, m, (hc _ _ (Nat.lt_of_lt_of_le h1 h2)).trans hm⟩
theorem MaxL.extS {B s : Nat} {w w' : World} (h : MaxL B w) (hs : B ≤ s) (he : ExtS s w w') : MaxL B w' := by
 obtain ⟨h1, h2, m, hm⟩ := h
 exact ⟨h1, Nat.le_trans h2 he.2.2.2.1, m, (he.cell (Nat.lt_of_lt_of_le h1 h2) (by omega) 0).trans hm⟩
theorem cell_of_row {w : World} {g : Nat} {e : TypeId} {W : List ByteArray} (h : Blk w g e (W.map Value.string).toArray) {j : Nat} {x : ByteArray} (hx : W[j]? = some x) : w.cell? ⟨g, j, none⟩ = some (.string x) := by
 rw [h.cell]
 simp [hx]
theorem own_setFar {w : World} {base k n : Nat} {e : TypeId} {v : Value} {xs : List Value} (ho : w.ownsRow base e k v n xs) {p : Addr} (hp : ∀ g, v.ownBlock = some g → g ≠ p.block) (u : Value) : (w.setCell p u).ownsRow base e k v n xs := by
 refine ⟨ho.1, ?_⟩
 rcases ho.2 with h1 | ⟨g, cap, cur, rfl, hb, hg, rest⟩
 ·exact .inl h1
 ·exact .inr ⟨g, cap, cur, rfl, hb, (Below.heap_setCell w p u g (hp g rfl)).trans hg, rest⟩
theorem own_lts {w : World} {base k n : Nat} {e : TypeId} {v : Value} {xs : List Value} (ho : w.ownsRow base e k v n xs) {q : Nat} (hq : w.heap.size ≤ q) : ∀ g, v.ownBlock = some g → g ≠ q := fun g hg => by have := (ho.lt g hg).2; omega
end Go.Proofs.YtehboinleolihaaGreatDoor
