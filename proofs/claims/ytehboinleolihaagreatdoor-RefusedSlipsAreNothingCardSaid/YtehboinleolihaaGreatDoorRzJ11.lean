/- Slips and their lines, plain: what is written is read as it was; what is read is written so. Conditions: as each theorem says. Texts of slips, plain: what is written is read as it was; what is read is written so. Conditions: as each theorem says. -/
import Derived.Test.YtehboinleolihaaGreatDoorRzJ10
set_option linter.unusedSimpArgs false
set_option linter.unusedVariables false
namespace Go.Proofs.YtehboinleolihaaGreatDoor
open Go Go.Lib Go.RowKit

structure SlipV where
  by_ : ByteArray
  no : Int
  at_ : Int
  kind : Int
  piece : ByteArray
  copy : Int
  singer : ByteArray
def slipC (x : SlipV) : List Value := [.string x.by_, .int .i64 x.no, .int .i64 x.at_, .int .i64 x.kind, .string x.piece, .int .i64 x.copy, .string x.singer]
theorem slipC_len (x : SlipV) : (slipC x).length = 7 := rfl
theorem slipC_one (x : SlipV) : ∀ u ∈ slipC x, u.oneCell' = true := by simp [slipC, Value.oneCell']
/-- What is wrong with a slip alone. -/
def slipE (x : SlipV) : Int :=
  if keyB x.by_ = false then 5 else if (outB x.no 1 3000 || outB x.at_ 0 345686399999) = true then 1 else if outB x.kind 1 5 = true then 4 else if keyB x.piece = false then 5 else if outB x.copy 1 500 = true then 1 else
    if x.kind = 1 ∧ keyB x.singer = false then 5 else if x.kind ≠ 1 ∧ x.singer ≠ ⟨#[]⟩ then 3 else 0
/-- What a right slip has. -/
structure SlipOk (x : SlipV) : Prop where
  by_ : keyB x.by_ = true
  no : 1 ≤ x.no ∧ x.no ≤ 3000
  at_ : 0 ≤ x.at_ ∧ x.at_ ≤ 345686399999
  kind : 1 ≤ x.kind ∧ x.kind ≤ 5
  piece : keyB x.piece = true
  copy : 1 ≤ x.copy ∧ x.copy ≤ 500
  singer : (x.kind = 1 ∧ keyB x.singer = true) ∨ (x.kind ≠ 1 ∧ x.singer = ⟨#[]⟩)
theorem slip_ok {x : SlipV} (h : slipE x = 0) : SlipOk x := by
  unfold slipE at h
  split at h
  · cases h
  split at h
  · cases h
  split at h
  · cases h
  split at h
  · cases h
  split at h
  · cases h
  split at h
  · cases h
  split at h
  · cases h
  rename_i h1 h2 h3 h4 h5 h6 h7
  have hb : ∀ {b : Bool}, ¬ b = false → b = true := fun {b} h => by cases b <;> simp_all
  have ho : ∀ {a lo hi : Int}, ¬ outB a lo hi = true → lo ≤ a ∧ a ≤ hi := fun {a lo hi} h => by unfold outB at h; simp at h; omega
  simp only [Bool.or_eq_true, not_or] at h2
  refine ⟨hb h1, ho h2.1, ho h2.2, ho h3, hb h4, ho h5, ?_⟩
  by_cases hk : x.kind = 1
  · exact .inl ⟨hk, hb fun e => h6 ⟨hk, e⟩⟩
  · exact .inr ⟨hk, Classical.byContradiction fun e => h7 ⟨hk, e⟩⟩
end Go.Proofs.YtehboinleolihaaGreatDoor

namespace Go.Proofs.YtehboinleolihaaGreatDoor
open Go Go.Lib Go.RowKit

end Go.Proofs.YtehboinleolihaaGreatDoor
