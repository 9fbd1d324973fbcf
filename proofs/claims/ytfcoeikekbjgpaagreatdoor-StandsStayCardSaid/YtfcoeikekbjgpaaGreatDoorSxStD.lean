/- People that the stream makes. Conditions: as each theorem says. -/
import Derived.Test.YtfcoeikekbjgpaaGreatDoorSxStC
import Derived.Test.YtfcoeikekbjgpaaGreatDoorSxJ3
import Derived.Test.YtfcoeikekbjgpaaGreatDoorSxShelf
import Derived.Test.YtfcoeikekbjgpaaGreatDoorSxJ2
set_option linter.unusedSimpArgs false
set_option linter.unusedVariables false
namespace Go.Proofs.YtfcoeikekbjgpaaGreatDoor
open Go Go.RowKit

theorem digit_size : ∀ j : Fin 10, (⟨(Lib.decDigits j.val).toArray⟩ : ByteArray).size = 1 := by decide +kernel
theorem perInfo : (Tryz.prog.info? 59).map (fun i => (i.zero, i.size, i.bytes)) = some (some (.agg #[.string ⟨#[]⟩, .int .i64 0, .string ⟨#[]⟩]), 3, 40) := by kernel_rfl
theorem per_flat_len : ∀ (xs : List PersonV), (xs.flatMap perC).length = xs.length * 3
  | [] => rfl
  | x :: l => by rw [List.flatMap_cons, List.length_append, per_flat_len l, perC_len, List.length_cons]; omega
theorem per_mod3 {w : World} {base g n cap : Nat} {xs : List PersonV} (h : w.ownsRow base 59 3 (.slice (some ⟨g, 0, none⟩) n cap) n (xs.flatMap perC)) {i : Nat} {x : PersonV} (hx : xs[i]? = some x) (nm sc : ByteArray) (m : Int) :
    (((w.setCell ⟨g, i * 3, none⟩ (.string nm)).setCell ⟨g, i * 3 + 1, none⟩ (.int .i64 m)).setCell ⟨g, i * 3 + 2, none⟩ (.string sc)).ownsRow base 59 3 (.slice (some ⟨g, 0, none⟩) n cap) n ((xs.set i ⟨nm, m, sc⟩).flatMap perC) := by
  have hi := (List.getElem?_eq_some_iff.1 hx).1
  have hs : ∀ y : PersonV, (xs.set i y)[i]? = some y := fun y => List.getElem?_set_self hi
  have h1 := own_set1 perC_len h ⟨nm, x.high, x.sect⟩ hx 0 (by decide) (.string nm) rfl
  have h2 := own_set1 perC_len h1 ⟨nm, m, x.sect⟩ (hs _) 1 (by decide) (.int .i64 m) rfl
  rw [List.set_set] at h2
  have h3 := own_set1 perC_len h2 ⟨nm, m, sc⟩ (hs _) 2 (by decide) (.string sc) rfl
  rw [List.set_set] at h3
  exact h3

end Go.Proofs.YtfcoeikekbjgpaaGreatDoor
