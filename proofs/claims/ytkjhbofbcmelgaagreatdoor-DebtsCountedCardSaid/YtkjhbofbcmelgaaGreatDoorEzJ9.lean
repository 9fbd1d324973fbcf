/- Slips and their lines, plain: what is written is read as it was; what is read is written so. Conditions: as each theorem says. Texts of slips, plain: what is written is read as it was; what is read is written so. Conditions: as each theorem says. Lines, words and numbers of a text, by kit; a text that is written. MaxL: the variable internal/bytealg.MaxLen holds some number. Conditions: as each theorem says. -/
import Derived.Test.YtkjhbofbcmelgaaGreatDoorEzJ8
import Derived.Test.YtkjhbofbcmelgaaGreatDoorEzJ5
import Derived.Test.YtkjhbofbcmelgaaGreatDoorEzJ3
set_option linter.unusedSimpArgs false
set_option linter.unusedVariables false
namespace Go.Proofs.YtkjhbofbcmelgaaGreatDoor
open Go Go.Lib Go.RowKit
structure SlipV where
 by_ : ByteArray
 no : Int
 at_ : Int
 kind : Int
 piece : ByteArray
 copy : Int
 singer : ByteArray
def slipC (x : SlipV) : List Value := [.string x.by_, .int .i64 x.no, .int .i64 x.at_, .int .i64 x.kind, .string x.piece, .int .i64 x.copy, .string x.singer]
theorem slipC_len (x : SlipV) : (slipC x).length = 7 := rfl
theorem slipC_one (x : SlipV) : ∀ u ∈ slipC x, u.oneCell' = true := by simp [slipC, Value.oneCell']
/-- What is wrong with a slip alone. -/
def slipE (x : SlipV) : Int :=
 if keyB x.by_ = false then 5 else if (outB x.no 1 3000 || outB x.at_ 0 345686399999) = true then 1 else if outB x.kind 1 5 = true then 4 else if keyB x.piece = false then 5 else if outB x.copy 1 500 = true then 1 else
  if x.kind = 1 ∧ keyB x.singer = false then 5 else if x.kind ≠ 1 ∧ x.singer ≠ ⟨#[]⟩ then 3 else 0
/-- What a right slip has. -/
structure SlipOk (x : SlipV) : Prop where
 by_ : keyB x.by_ = true
 no : 1 ≤ x.no ∧ x.no ≤ 3000
 at_ : 0 ≤ x.at_ ∧ x.at_ ≤ 345686399999
 kind : 1 ≤ x.kind ∧ x.kind ≤ 5
 piece : keyB x.piece = true
 copy : 1 ≤ x.copy ∧ x.copy ≤ 500
 singer : (x.kind = 1 ∧ keyB x.singer = true) ∨ (x.kind ≠ 1 ∧ x.singer = ⟨#[]⟩)
theorem slip_ok {x : SlipV} (h : slipE x = 0) : SlipOk x := by
 unfold slipE at h
 split at h
 ·cases h
 split at h
 ·cases h
 split at h
 ·cases h
 split at h
 ·cases h
 split at h
 ·cases h
 split at h
 ·cases h
 split at h
 ·cases h
 rename_i h1 h2 h3 h4 h5 h6 h7
 have hb : ∀ {b : Bool}, ¬ b = false → b = true := fun {b} h => by cases b <;> simp_all
 have ho : ∀ {a lo hi : Int}, ¬ outB a lo hi = true → lo ≤ a ∧ a ≤ hi := fun {a lo hi} h => by unfold outB at h; simp at h; omega
 simp only [Bool.or_eq_true, not_or] at h2
 refine ⟨hb h1, ho h2.1, ho h2.2, ho h3, hb h4, ho h5, ?_⟩
 by_cases hk : x.kind = 1
 ·exact .inl ⟨hk, hb fun e => h6 ⟨hk, e⟩⟩
 ·exact .inr ⟨hk, Classical.byContradiction fun e => h7 ⟨hk, e⟩⟩
end Go.Proofs.YtkjhbofbcmelgaaGreatDoor
namespace Go.Proofs.YtkjhbofbcmelgaaGreatDoor
open Go Go.Lib Go.RowKit
end Go.Proofs.YtkjhbofbcmelgaaGreatDoor
namespace Go.Proofs.YtkjhbofbcmelgaaGreatDoor
open Go Go.RowKit
/-- The variable that strings.Split looks at holds some number; it lies ahead of block B. -/
def MaxL (B : Nat) (w : World) : Prop := 0 < B ∧ B ≤ w.heap.size ∧ ∃ m : Int, w.cell? ⟨0,0, none⟩ = some (.int .i64 m)
theorem MaxL.ext {B : Nat} {w w' : World} (h : MaxL B w) (he : Ext w w') : MaxL B w' := by
 obtain ⟨h1, h2, m, hm⟩ := h
 obtain ⟨hc, -, -⟩ := he.walk
 exact ⟨h1, Nat.le_trans h2 he.size, m, (hc _ _ (Nat.lt_of_lt_of_le h1 h2)).trans hm⟩
theorem MaxL.extS {B s : Nat} {w w' : World} (h : MaxL B w) (hs : B ≤ s) (he : ExtS s w w') : MaxL B w' := by
 obtain ⟨h1, h2, m, hm⟩ := h
 exact ⟨h1, Nat.le_trans h2 he.2.2.2.1, m, (he.cell (Nat.lt_of_lt_of_le h1 h2) (by omega) 0).trans hm⟩
theorem cell_of_row {w : World} {g : Nat} {e : TypeId} {W : List ByteArray} (h : Blk w g e (W.map Value.string).toArray) {j : Nat} {x : ByteArray} (hx : W[j]? = some x) : w.cell? ⟨g, j, none⟩ = some (.string x) := by
 rw [h.cell]
 simp [hx]
theorem own_setFar {w : World} {base k n : Nat} {e : TypeId} {v : Value} {xs : List Value} (ho : w.ownsRow base e k v n xs) {p : Addr} (hp : ∀ g, v.ownBlock = some g → g ≠ p.block) (u : Value) : (w.setCell p u).ownsRow base e k v n xs := by
 refine ⟨ho.1, ?_⟩
 rcases ho.2 with h1 | ⟨g, cap, cur, rfl, hb, hg, rest⟩
 ·exact .inl h1
 ·exact .inr ⟨g, cap, cur, rfl, hb, (Below.heap_setCell w p u g (hp g rfl)).trans hg, rest⟩
theorem own_lts {w : World} {base k n : Nat} {e : TypeId} {v : Value} {xs : List Value} (ho : w.ownsRow base e k v n xs) {q : Nat} (hq : w.heap.size ≤ q) : ∀ g, v.ownBlock = some g → g ≠ q := fun g hg => by have := (ho.lt g hg).2; omega
end Go.Proofs.YtkjhbofbcmelgaaGreatDoor
