/- Parts that the stream makes. Conditions: as each theorem says. -/
import Derived.Test.YtdehmioobkneiaaGreatDoorTdPartsC
import Derived.Test.YtdehmioobkneiaaGreatDoorTdJ2
set_option linter.unusedSimpArgs false
set_option linter.unusedVariables false
namespace Go.Proofs.YtdehmioobkneiaaGreatDoor
open Go Go.RowKit
def PartV.Fine (x : PartV) : Prop := x.Small ∧ x.hi ≤ 100
theorem partInfo : (Tryz.prog.info? 46).map (fun i => (i.zero, i.size, i.bytes)) = some (some (.agg #[.string ⟨#[]⟩, .int .i64 0, .int .i64 0, .int .i64 0, .int .i64 0]), 5, 48) := by kernel_rfl
theorem part_mod4 {w : World} {base g n cap : Nat} {xs : List PartV} (h : w.ownsRow base 46 5 (.slice (some ⟨g, 0, none⟩) n cap) n (xs.flatMap partC)) {i : Nat} {x : PartV} (hx : xs[i]? = some x) (nm : ByteArray) (lo least most : Int) :
    ((((w.setCell ⟨g, i * 5, none⟩ (.string nm)).setCell ⟨g, i * 5 + 3, none⟩ (.int .i64 least)).setCell ⟨g, i * 5 + 4, none⟩ (.int .i64 most)).setCell ⟨g, i * 5 + 1, none⟩ (.int .i64 lo)).ownsRow base 46 5 (.slice (some ⟨g, 0, none⟩) n cap) n ((xs.set i ⟨nm, lo, x.hi, least, most⟩).flatMap partC) := by
  have hi := (List.getElem?_eq_some_iff.1 hx).1
  have hs : ∀ y : PartV, (xs.set i y)[i]? = some y := fun y => List.getElem?_set_self hi
  have h1 := own_set1 partC_len h ⟨nm, x.lo, x.hi, x.least, x.most⟩ hx 0 (by decide) (.string nm) rfl
  have h2 := own_set1 partC_len h1 ⟨nm, x.lo, x.hi, least, x.most⟩ (hs _) 3 (by decide) (.int .i64 least) rfl
  rw [List.set_set] at h2
  have h3 := own_set1 partC_len h2 ⟨nm, x.lo, x.hi, least, most⟩ (hs _) 4 (by decide) (.int .i64 most) rfl
  rw [List.set_set] at h3
  have h4 := own_set1 partC_len h3 ⟨nm, lo, x.hi, least, most⟩ (hs _) 1 (by decide) (.int .i64 lo) rfl
  rw [List.set_set] at h4
  exact h4
end Go.Proofs.YtdehmioobkneiaaGreatDoor
