/- The facts that all properties ask: they hold. Conditions: the table of the powers of ten stands. The facts of the properties. Conditions: the table of the powers of ten stands. -/
import Derived.Test.YtboplnogfjmpnaaGreatDoorVbComfort
import Derived.Test.YtboplnogfjmpnaaGreatDoorVbSharesB
set_option linter.unusedSimpArgs false
set_option linter.unusedVariables false
namespace Go.Proofs.YtboplnogfjmpnaaGreatDoor
open Go Go.RowKit

theorem comfort_closed (w : World) :
    Calls Tryz.prog 39 #[.agg #[.int .i64 48, .int .i64 67], .agg #[.int .i64 50, .int .i64 64]] w fun e w' => e = .returned (.tuple #[.int .i64 2, .bool true, .int .i64 0]) ∧ Ext w w' :=
  (Comfort_any 48 67 50 64 w).mono fun e w' h => ⟨h.1.trans rfl, h.2⟩

def bB : ByteArray := ⟨#[98]⟩
def aB : ByteArray := ⟨#[97]⟩
def abcL : List ByteArray := [⟨#[97]⟩, ⟨#[98]⟩, ⟨#[99]⟩]
theorem abc_for : forF abcL = 0 := by kernel_rfl
theorem shares_abc : (sharesL 100 abcL)[0]? = some (aB, ⟨#[51, 52]⟩) := by kernel_rfl
theorem shares_closed (g B : Nat) (w : World) (ht : Tab B w) (hB : Blk w g 9 #[.string ⟨#[97]⟩, .string ⟨#[98]⟩, .string ⟨#[99]⟩]) :
    Calls Tryz.prog 41 #[.agg #[.string ⟨#[98]⟩, .string ⟨#[97]⟩, .int .i64 0, .int .i64 100, .slice (some ⟨g, 0, none⟩) 3 3]] w fun e w' =>
      ∃ b off c', e = .returned (.tuple #[.slice (some ⟨b, off, none⟩) 3 c', .int .i64 0]) ∧ b < w'.heap.size ∧ w'.cell? ⟨b, off, none⟩ = some (.string ⟨#[97]⟩) ∧ w'.cell? ⟨b, off + 1, none⟩ = some (.string ⟨#[51, 52]⟩) ∧ Ext w w' := by
  have hR : Paid.Right ⟨bB, aB, 0, (100 : Nat), some ⟨g, 0, none⟩, 3, 3⟩ abcL :=
    ⟨(show keyB bB = true by kernel_rfl), (show keyB aB = true by kernel_rfl), (show bB.size ≤ 1000000000 by decide), (show aB.size ≤ 1000000000 by decide), (show outB 0 0 345686399999 = false by decide), (show outB 100 1 100000000 = false by decide), abc_for, fun i s h => by
      have : s ∈ abcL := List.mem_of_getElem? h
      simp [abcL] at this
      rcases this with rfl | rfl | rfl <;> decide⟩
  have hL : Sl 1 strC w (some ⟨g, 0, none⟩) 3 abcL := ⟨rfl, by decide, fun _ => ⟨g, 0, rfl, hB.lt, fun i x hx j v hv => by
    have hj : j = 0 := by
      have := (List.getElem?_eq_some_iff.1 hv).1
      simp [strC] at this
      omega
    subst hj
    have hi : i < 3 := (List.getElem?_eq_some_iff.1 hx).1
    obtain rfl : v = .string x := by simpa [strC] using hv.symm
    rw [hB.cell]
    obtain rfl | rfl | rfl : i = 0 ∨ i = 1 ∨ i = 2 := by omega
    all_goals simp [abcL] at hx; subst hx; rfl⟩⟩
  refine (shares_ok ⟨bB, aB, 0, (100 : Nat), some ⟨g, 0, none⟩, 3, 3⟩ abcL B 100 w ht rfl hR hL).mono fun e w' h => ?_
  obtain ⟨p, c, rfl, hS, he⟩ := h
  obtain ⟨b, off, rfl, hb, hE⟩ := hS.2.2 (show 3 ≠ 0 by decide)
  have h0 := hE 0 _ shares_abc 0 _ rfl
  have h1 := hE 0 _ shares_abc 1 _ rfl
  exact ⟨b, off, c, rfl, hb, (by simpa using h0 : w'.cell? ⟨b, off, none⟩ = some (.string aB)), by simpa using h1, he⟩

end Go.Proofs.YtboplnogfjmpnaaGreatDoor

namespace Go.Proofs.YtboplnogfjmpnaaGreatDoor
open Go Go.RowKit
set_option maxRecDepth 100000 in
theorem ready_any (B : Nat) (w : World) (ht : Tab B w) :
    Calls Tryz.prog 10 #[] w fun e w' => e = .returned (.bool true) ∧ Ext w w' := by
  go_enter Tryz.func10, Tryz.ntmps10
  go_wp2_with (first
    | (go_at_call 39; refine (comfort_closed _).mono ?_; rintro e w1 ⟨rfl, hb1⟩)
    | (go_at_call 40; refine (name61_any _).mono ?_; rintro e w2 ⟨rfl, hb2⟩; replace hb2 : Ext w w2 := (by exact hb1.trans hb2); clear hb1)
    | (go_at_call 41; refine (shares_closed _ B _ (by exact (ht.ext hb2).ext ((Ext.refl _).alloc _)) (by exact Blk.new' rfl)).mono ?_; rintro e w3 ⟨b, off, c, rfl, hlt, h0, h1, hb3⟩))
  go_ret
  exact ⟨rfl, by exact (hb2.alloc _).trans hb3⟩
end Go.Proofs.YtboplnogfjmpnaaGreatDoor
