/- By how much rows would have to be higher: the walk. Conditions: people, stage and stands are right (what CheckStands answers is a hypothesis here). -/
import Derived.Test.YtfcoeikekbjgpaaGreatDoorRxStK
set_option linter.unusedSimpArgs false
set_option linter.unusedVariables false
namespace Go.Proofs.YtfcoeikekbjgpaaGreatDoor
open Go Go.RowKit

/-- The cells of a row of numbers. -/
def rowI (xs : List Int) : Array Value := (xs.map (Value.int .i64)).toArray
theorem rowI_cell {w : World} {g : Nat} {t : TypeId} {xs : List Int} {i : Nat} {v : Int} (h : Blk w g t (rowI xs)) (hx : xs[i]? = some v) : w.cell? ⟨g, i, none⟩ = some (.int .i64 v) := by
  rw [h.cell, rowI, List.getElem?_toArray, List.getElem?_map, hx]; rfl
theorem rowI_set {w : World} {g : Nat} {t : TypeId} {xs : List Int} (h : Blk w g t (rowI xs)) (i : Nat) (v : Int) : Blk (w.setCell ⟨g, i, none⟩ (.int .i64 v)) g t (rowI (xs.set i v)) :=
  (h.set_ i _).cast (by simp [rowI, List.map_set])
theorem slc_rowI {w : World} {g : Nat} {t : TypeId} {xs : List Int} (h : Blk w g t (rowI xs)) (hl : xs.length ≤ 1000000000) : Slc 1 intC w (some ⟨g, 0, none⟩) xs.length xs.length xs := by
  refine ⟨⟨rfl, hl, fun _ => ⟨g, 0, rfl, h.lt, fun i x hx j u hu => ?_⟩⟩, Nat.le_refl _, (fun e => by cases e), (fun a ha => by cases ha; exact ⟨g, 0, rfl, h.lt⟩)⟩
  obtain rfl : j = 0 := by
    have := (List.getElem?_eq_some_iff.1 hu).1
    simp only [intC, List.length_singleton] at this
    omega
  cases hu
  rw [Nat.zero_add, Nat.mul_one, Nat.add_zero]
  exact rowI_cell h hx
theorem madeI (n : Nat) : madeCells #[.int .i64 0] n = rowI (List.replicate n 0) := by
  apply Array.ext
  · simp [size_madeCells, rowI]
  · intro i h1 h2
    simp [madeCells, rowI, Nat.mod_one]
theorem cellInt : (Tryz.prog.info? 3).map (fun i => (i.zero, i.size, i.bytes)) = some (some (.int .i64 0), 1, 8) := by kernel_rfl
theorem make_int (n : Nat) (hn : n ≤ 1000) (u : World) : (Instr.makeSlice 22 (.int .i64 (n : Int)) (.int .i64 (n : Int))).run Tryz.prog u = .ok (.slice (some ⟨u.heap.size, 0, none⟩) n n) (u.alloc (.cells (rowI (List.replicate n 0)) 3)) := by
  obtain ⟨i0, hi, hz0, hz1, hz2⟩ := info_parts cellInt
  have := run_make (P := Tryz.prog) u 22 3 i0 (.int .i64 0) Tryz.underlying22 hi hz0 .i64 .i64 (n : Int) (n : Int) (by omega) (by omega) (by rw [hz2]; omega) (by omega)
  rw [this, hz1, Int.toNat_natCast, Nat.mul_one, show (Value.int .i64 0).cells = #[.int .i64 0] from rfl, madeI]

section
variable {P : List PersonV} {wide high : List Int} {S : List StandV}
end

end Go.Proofs.YtfcoeikekbjgpaaGreatDoor
