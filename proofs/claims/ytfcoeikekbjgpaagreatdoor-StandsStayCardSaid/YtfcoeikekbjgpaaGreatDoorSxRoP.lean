/- People on a stage by height or by sections, where something is wrong: the program's walk. Conditions: lists in memory. -/
import Derived.Test.YtfcoeikekbjgpaaGreatDoorSxRoK
set_option linter.unusedSimpArgs false
set_option linter.unusedVariables false
namespace Go.Proofs.YtfcoeikekbjgpaaGreatDoor
open Go Go.RowKit

/-- What the program says is wrong ahead of its work. -/
def ofF (P : List PersonV) (wide high : List Int) : Int := if ostF P wide high = 0 then fullF P wide else ostF P wide high
theorem wo_of {P : List PersonV} {wide high : List Int} (ho : ostF P wide high = 0) : WideOk wide := by
  unfold ostF at ho
  by_cases hp0 : peopleF P = 0
  · rw [if_pos hp0] at ho; exact (stageF_ok ho).1
  · rw [if_neg hp0] at ho; exact absurd ho hp0
section
variable {w : World} {pp : Option Addr} {pc : Nat} {P : List PersonV} {wp : Option Addr} {wcap : Nat} {wide : List Int} {hp : Option Addr} {hc : Nat} {high : List Int} {op : Option Addr} {oc : Nat} {O : List ByteArray}
set_option maxRecDepth 100000 in
theorem byHeightB_any (h : PsM w pp pc P wp wcap wide hp hc high none 0 []) (hf : ofF P wide high ≠ 0) :
    Calls Tryz.prog 14 #[.slice pp P.length pc, .agg #[.slice wp wide.length wcap, .slice hp high.length hc]] w fun e w' => e = .returned (.tuple #[.slice none 0 0, .int .i64 (ofF P wide high)]) ∧ Ext w w' := by
  have hE0 : Ext w (w.alloc (.cells #[.slice wp wide.length wcap, .slice hp high.length hc] 29)) := (Ext.refl _).alloc _
  have hB0 : Blk (w.alloc (.cells #[.slice wp wide.length wcap, .slice hp high.length hc] 29)) w.heap.size 29 #[.slice wp wide.length wcap, .slice hp high.length hc] := Blk.new' rfl
  have hfu := fun u (hu : Ext w u) => full_any pp pc P wp wcap wide hp hc high u (h.more hu) wo_of
  have e : (if ostF P wide high = 0 then fullF P wide else ostF P wide high) = ofF P wide high := rfl
  rw [e] at hfu
  generalize ofF P wide high = f at *
  obtain ⟨q0, -⟩ := hB0.walk
  have ql := hB0.lt
  replace hfu := Lib.hid hfu
  clear h e
  go_enter Tryz.func14, Tryz.ntmps14
  go_wp2_with (go_at_call 35; (with_reducible refine Calls.mono (hfu.out _ hE0) ?_); rintro e w1 ⟨rfl, hb1⟩)
  go_ret2
  exact ⟨rfl, hE0.trans hb1⟩
end
end Go.Proofs.YtfcoeikekbjgpaaGreatDoor
