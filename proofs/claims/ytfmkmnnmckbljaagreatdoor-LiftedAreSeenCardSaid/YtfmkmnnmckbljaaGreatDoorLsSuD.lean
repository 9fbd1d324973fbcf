/- Hides, Seen and Lift of all arguments. Conditions: sizes. -/
import Derived.Test.YtfmkmnnmckbljaaGreatDoorLsStV
import Derived.Test.YtfmkmnnmckbljaaGreatDoorLsStR
set_option linter.unusedSimpArgs false
set_option linter.unusedVariables false
namespace Go.Proofs.YtfmkmnnmckbljaaGreatDoor
open Go Go.RowKit

theorem Elems.hid {w : World} {b off : Nat} {xs : List (ByteArray × ByteArray)} (h : Elems 2 hidC w b off xs) {i : Nat} {x : ByteArray × ByteArray} (hx : xs[i]? = some x) :
    w.cell? ⟨b, off + i * 2, none⟩ = some (.string x.1) ∧ w.cell? ⟨b, off + i * 2 + 1, none⟩ = some (.string x.2) :=
  ⟨h i x hx 0 _ rfl, h i x hx 1 _ rfl⟩

set_option maxRecDepth 100000 in
theorem noneFault_any (is : Bool) (w : World) : Calls Tryz.prog 18 #[.bool is] w fun e w' => e = .returned (.int .i64 (if is then 8 else 0)) ∧ w = w' := by
  cases is
  all_goals
    go_enter Tryz.func18, Tryz.ntmps18
    go_wp2
    go_ret
    exact ⟨rfl, rfl⟩
set_option maxRecDepth 100000 in
theorem truth_any (is : Bool) (w : World) : Calls Tryz.prog 75 #[.bool is] w fun e w' => e = .returned (.int .i64 (if is then 1 else 0)) ∧ w = w' := by
  cases is
  all_goals
    go_enter Tryz.func75, Tryz.ntmps75
    go_wp2
    go_ret
    exact ⟨rfl, rfl⟩

section
variable {pp : Option Addr} {pc : Nat} {P : List PersonV} {wp : Option Addr} {wcap : Nat} {wide : List Int} {hp : Option Addr} {hc : Nat} {high : List Int} {lp : Option Addr} {lc : Nat} {S : List StandV} {w : World}
theorem PsM.check (h : PsM w pp pc P wp wcap wide hp hc high lp lc S) {v : Int} (hv : standsF P wide high S = v) : ∀ u, Ext w u → Calls Tryz.prog 10 #[.slice pp P.length pc, .agg #[.slice wp wide.length wcap, .slice hp high.length hc], .slice lp S.length lc] u fun e w' => e = .returned (.int .i64 v) ∧ Ext u w' :=
  fun u hu => hv ▸ checkStands_any pp pc P wp wcap wide hp hc high lp lc S u (h.more hu)
theorem hides_good (h : PsM w pp pc P wp wcap wide hp hc high lp lc S) (hz : standsF P wide high S = 0) :
    Calls Tryz.prog 11 #[.slice pp P.length pc, .agg #[.slice wp wide.length wcap, .slice hp high.length hc], .slice lp S.length lc] w fun e w' => ∃ (q : Option Addr) (c : Nat), e = .returned (.tuple #[.slice q (hiddenL P wide high S).length c, .int .i64 0]) ∧ Slc 2 hidC w' q (hiddenL P wide high S).length c (hiddenL P wide high S) ∧ Ext w w' :=
  hidesL_ok pp pc P wp wcap wide hp hc high lp lc S w h.per h.wid h.hig h.sta (standsF_ok hz).1 (h.check hz)
theorem seen_good (h : PsM w pp pc P wp wcap wide hp hc high lp lc S) (hz : standsF P wide high S = 0) :
    Calls Tryz.prog 12 #[.slice pp P.length pc, .agg #[.slice wp wide.length wcap, .slice hp high.length hc], .slice lp S.length lc] w fun e w' => e = .returned (.tuple #[.agg (seenV P wide high S), .int .i64 (if S.length = 0 then 8 else 0)]) ∧ Ext w w' :=
  seen_ok pp pc P wp wcap wide hp hc high lp lc S w h.per h.wid h.hig h.sta (standsF_ok hz).1 (h.check hz)
theorem lift_good (h : PsM w pp pc P wp wcap wide hp hc high lp lc S) (hz : standsF P wide high S = 0) :
    Calls Tryz.prog 13 #[.slice pp P.length pc, .agg #[.slice wp wide.length wcap, .slice hp high.length hc], .slice lp S.length lc] w fun e w' => ∃ b, e = .returned (.tuple #[.slice (some ⟨b, 0, none⟩) wide.length wide.length, .int .i64 0]) ∧ Blk w' b 3 (rowI (liftL P wide high S wide.length)) ∧ Ext w w' :=
  lift_ok pp pc P wp wcap wide hp hc high lp lc S w h.per h.wid h.hig h.sta (standsF_ok hz).1 (standsF_ok hz).2.1 (h.check hz)

set_option maxRecDepth 100000 in
theorem choirOf_bad (h : PsM w pp pc P wp wcap wide hp hc high lp lc S) {v : Int} (hz : standsF P wide high S = v) (hv : v ≠ 0) :
    Calls Tryz.prog 38 #[.slice pp P.length pc, .agg #[.slice wp wide.length wcap, .slice hp high.length hc], .slice lp S.length lc] w fun e w' => e = .returned (.tuple #[.pointer none, .int .i64 v]) ∧ Ext w w' := by
  have hE0 : Ext w (w.alloc (.cells #[.slice wp wide.length wcap, .slice hp high.length hc] 28)) := (Ext.refl _).alloc _
  have hck := h.check hz _ hE0
  replace hck := Lib.hid hck
  clear h hz
  go_enter Tryz.func38, Tryz.ntmps38
  go_wp2_with (go_at_call 10; (with_reducible refine Calls.mono hck.out ?_); rintro e w1 ⟨rfl, hb1⟩)
  go_ret2
  exact ⟨rfl, hE0.trans hb1⟩
set_option maxRecDepth 100000 in
theorem hides_bad (h : PsM w pp pc P wp wcap wide hp hc high lp lc S) {v : Int} (hz : standsF P wide high S = v) (hv : v ≠ 0) :
    Calls Tryz.prog 11 #[.slice pp P.length pc, .agg #[.slice wp wide.length wcap, .slice hp high.length hc], .slice lp S.length lc] w fun e w' => e = .returned (.tuple #[.slice none 0 0, .int .i64 v]) ∧ Ext w w' := by
  have hE0 : Ext w (w.alloc (.cells #[.slice wp wide.length wcap, .slice hp high.length hc] 28)) := (Ext.refl _).alloc _
  have hck := choirOf_bad (h.more hE0) hz hv
  replace hck := Lib.hid hck
  clear h hz
  go_enter Tryz.func11, Tryz.ntmps11
  go_wp2_with (go_at_call 38; (with_reducible refine Calls.mono hck.out ?_); rintro e w1 ⟨rfl, hb1⟩)
  go_ret2
  exact ⟨rfl, hE0.trans hb1⟩
set_option maxRecDepth 100000 in
theorem lift_bad (h : PsM w pp pc P wp wcap wide hp hc high lp lc S) {v : Int} (hz : standsF P wide high S = v) (hv : v ≠ 0) :
    Calls Tryz.prog 13 #[.slice pp P.length pc, .agg #[.slice wp wide.length wcap, .slice hp high.length hc], .slice lp S.length lc] w fun e w' => e = .returned (.tuple #[.slice none 0 0, .int .i64 v]) ∧ Ext w w' := by
  have hE0 : Ext w (w.alloc (.cells #[.slice wp wide.length wcap, .slice hp high.length hc] 28)) := (Ext.refl _).alloc _
  have hck := choirOf_bad (h.more hE0) hz hv
  replace hck := Lib.hid hck
  clear h hz
  go_enter Tryz.func13, Tryz.ntmps13
  go_wp2_with (go_at_call 38; (with_reducible refine Calls.mono hck.out ?_); rintro e w1 ⟨rfl, hb1⟩)
  go_ret2
  exact ⟨rfl, hE0.trans hb1⟩
set_option maxRecDepth 100000 in
theorem seen_bad (h : PsM w pp pc P wp wcap wide hp hc high lp lc S) {v : Int} (hz : standsF P wide high S = v) (hv : v ≠ 0) :
    Calls Tryz.prog 12 #[.slice pp P.length pc, .agg #[.slice wp wide.length wcap, .slice hp high.length hc], .slice lp S.length lc] w fun e w' => e = .returned (.tuple #[.agg #[.int .i64 0, .int .i64 0], .int .i64 v]) ∧ Ext w w' := by
  have hR : Blk ((w.alloc (.cells #[.slice wp wide.length wcap, .slice hp high.length hc] 28)).alloc (.cells #[.int .i64 0, .int .i64 0] 40)) (w.heap.size + 1) 40 #[.int .i64 0, .int .i64 0] := Blk.new' (by simp)
  have hE0 : Ext w ((w.alloc (.cells #[.slice wp wide.length wcap, .slice hp high.length hc] 28)).alloc (.cells #[.int .i64 0, .int .i64 0] 40)) := ((Ext.refl _).alloc _).alloc _
  have hck := choirOf_bad (h.more hE0) hz hv
  replace hck := Lib.hid hck
  clear h hz
  go_enter Tryz.func12, Tryz.ntmps12
  go_wp2_with (go_at_call 38; (with_reducible refine Calls.mono hck.out ?_); rintro e w1 ⟨rfl, hb1⟩; obtain ⟨q1, q2⟩ := (hR.ext hb1).walk; have lq := (hR.ext hb1).lt)
  have hE1 := hE0.trans hb1
  have hF1 := ((((hR.ext hb1).set_ 0 (.int .i64 0)).set_ 1 (.int .i64 0)).cast (cs' := #[.int .i64 0, .int .i64 0]) (by simp))
  go_light
  exact bodyPost_ret (v := .tuple #[.agg #[.int .i64 0, .int .i64 0], .int .i64 v]) (results_cell_row_tmp Tryz.results12 _ _ (w.heap.size + 1) 40 _ (0, 0) _ rfl hF1 Tryz.underlying40 rfl (by kernel_rfl) _ rfl) rfl ⟨rfl, (hE1.setCell (p := ⟨w.heap.size + 1, 0, none⟩) (Nat.le_succ _) _).setCell (p := ⟨w.heap.size + 1, 1, none⟩) (Nat.le_succ _) _⟩
end
end Go.Proofs.YtfmkmnnmckbljaaGreatDoor
