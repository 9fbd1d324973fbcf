/- The greatest common divisor, how often a prime is in a number, by both texts. Conditions: as each theorem says. All that was there stands, and no fewer questions were drawn: what a comparison within a sort leaves. Conditions: none. The interval of a quotient, by both texts. Conditions: as each theorem says. -/
import Derived.Test.YtddlhjbbjefdkaaGreatDoorTuJ5
import Derived.Test.YtddlhjbbjefdkaaGreatDoorTuJ2
import Derived.Sort.Grow
import Derived.Test.YtddlhjbbjefdkaaGreatDoorTuMathA
set_option linter.unusedSimpArgs false
set_option linter.unusedVariables false
namespace Go.Proofs.YtddlhjbbjefdkaaGreatDoor
open Go Go.RowKit

end Go.Proofs.YtddlhjbbjefdkaaGreatDoor

namespace Go.Proofs.YtddlhjbbjefdkaaGreatDoor
open Go Go.RowKit Go.Sort

/-- As Ext, with what was drawn. -/
structure ExtD (w w' : World) : Prop where
  e : Ext w w'
  d : w.drawn ≤ w'.drawn
instance {w w' : World} : Coe (ExtD w w') (Ext w w') := ⟨ExtD.e⟩
theorem ExtD.refl (w : World) : ExtD w w := ⟨Ext.refl w, Nat.le_refl _⟩
theorem ExtD.trans {a b c : World} (h : ExtD a b) (k : ExtD b c) : ExtD a c := ⟨h.e.trans k.e, Nat.le_trans h.d k.d⟩
theorem ExtD.drew {a b : World} (h : ExtD a b) : ExtD a b.drew := ⟨h.e.drew, Nat.le_succ_of_le h.d⟩
theorem ExtD.alloc {a b : World} (h : ExtD a b) (o : Obj) : ExtD a (b.alloc o) := ⟨h.e.alloc o, h.d⟩
theorem ExtD.setCell {a b : World} (h : ExtD a b) {p : Addr} (hp : a.heap.size ≤ p.block) (u : Value) : ExtD a (b.setCell p u) := ⟨h.e.setCell hp u, h.d⟩
theorem ExtD.size {a b : World} (h : ExtD a b) : a.heap.size ≤ b.heap.size := h.e.size
theorem ExtD.walk {W w' : World} (h : ExtD W w') : (∀ b o, b < W.heap.size → w'.cell? ⟨b, o, none⟩ = W.cell? ⟨b, o, none⟩) ∧ (∀ b o, b < W.heap.size → w'.frozen? ⟨b, o, none⟩ = W.frozen? ⟨b, o, none⟩) ∧ W.heap.size ≤ w'.heap.size := h.e.walk
/-- Blocks were laid behind all, and questions drawn. -/
theorem ExtD.grow {w w' : World} (h : ExtD w w') : ∃ q os', w' = grow (w.drewN q) os' := by
  obtain ⟨⟨h1, h2, h3, h4, h5⟩, h6⟩ := h
  refine ⟨w'.drawn - w.drawn, w'.heap.extract w.heap.size w'.heap.size, ?_⟩
  have hh : w'.heap = w.heap ++ w'.heap.extract w.heap.size w'.heap.size := by
    apply Array.ext_getElem?
    intro i
    rw [Array.getElem?_append]
    by_cases hi : i < w.heap.size
    · rw [if_pos hi]; exact h5 i hi
    · rw [if_neg hi, Array.getElem?_extract]
      simp only [Nat.min_self]
      by_cases h7 : i < w'.heap.size
      · rw [if_pos (by omega)]
        congr 1
        omega
      · rw [if_neg (by omega), Array.getElem?_eq_none (by omega)]
  cases w'
  simp only at h1 h2 h3 h4 h6 hh
  unfold Sort.grow World.drewN
  simp only [World.mk.injEq]
  exact ⟨hh, h2, by omega, h1, h3⟩
end Go.Proofs.YtddlhjbbjefdkaaGreatDoor

namespace Go.Proofs.YtddlhjbbjefdkaaGreatDoor
open Go Go.RowKit

set_option maxRecDepth 100000 in
theorem primesD_any (w : World) :
    Calls Tryz.prog 100 #[] w fun e w' => e = .returned (.agg #[.int .i64 2, .int .i64 3, .int .i64 5, .int .i64 7]) ∧ ExtD w w' := by
  go_enter Tryz.func100, Tryz.ntmps100
  go_wp2
  go_light
  exact bodyPost_ret (v := .agg #[.int .i64 2, .int .i64 3, .int .i64 5, .int .i64 7]) (by simp [results, Tryz.results100, go_sem]) rfl ⟨rfl, (by (repeat (with_reducible first | assumption | exact ExtD.refl _ | refine ExtD.drew ?_ | refine ExtD.alloc ?_ _ | refine ExtD.setCell ?_ (by simp <;> omega) _ | refine ExtD.trans ?_ (by assumption))))⟩
/-- The interval that a quotient gives, if it is one. -/
def ofI (n d : Nat) : I4 := ⟨(expK n 0 : Int) - expK d 0, (expK n 1 : Int) - expK d 1, (expK n 2 : Int) - expK d 2, (expK n 3 : Int) - expK d 3⟩
end Go.Proofs.YtddlhjbbjefdkaaGreatDoor
