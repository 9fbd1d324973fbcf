/- State, Way and Has of a library where something is wrong; Has: the walks. Conditions: sizes; at most 19 slips. (Printed by gen_cfd.py.) -/
import Derived.Test.YtkjhbofbcmelgaaGreatDoorEzJ29
import Derived.Test.YtkjhbofbcmelgaaGreatDoorEzShB
import Derived.Test.YtkjhbofbcmelgaaGreatDoorEzJ31
set_option linter.unusedSimpArgs false
set_option linter.unusedVariables false
namespace Go.Proofs.YtkjhbofbcmelgaaGreatDoor
open Go Go.RowKit Go.Sort
def keyE (s : ByteArray) : Int := if keyB s then 0 else 5
set_option maxRecDepth 100000 in
theorem singerClo_any {w : World} {gS : Nat} {s : ByteArray} (hB : Blk w gS 9 #[.string s]) (hs : s.size ≤ 1000000000) :
 Calls Tryz.prog 131 #[.pointer (some ⟨gS, 0, none⟩)] w fun e w' => e = .returned (.int .i64 (keyE s)) ∧ Ext w w' := by
 have hk := fun u => isKey_any s u (by omega)
 have s0 := hB.cell 0
 have ls := hB.lt
 unfold keyE
 generalize keyB s = v at *
 clear hB; replace hk := Lib.hid hk
 cases v
 all_goals
  go_enter Tryz.func131, Tryz.ntmps131
  go_wp2_with (go_at_call 132; (with_reducible refine Calls.mono (hk.out _) ?_); rintro e w1 ⟨rfl, hb1⟩)
  go_ret
  exact ⟨rfl, hb1⟩
set_option maxRecDepth 100000 in
theorem singerFault_any (s : ByteArray) (w : World) :
 Calls Tryz.prog 69 #[.string s] w fun e w' => ∃ gS : Nat, e = .returned (.func (.func 131) #[] #[.pointer (some ⟨gS, 0, none⟩)]) ∧ Blk w' gS 9 #[.string s] ∧ Ext w w' := by
 have hB : Blk (w.alloc (.cells #[.string s] 9)) w.heap.size 9 #[.string s] := Blk.new' rfl
 have hE : Ext w (w.alloc (.cells #[.string s] 9)) := (Ext.refl w).alloc _
 replace hB := Lib.hid hB; replace hE := Lib.hid hE
 go_enter Tryz.func69, Tryz.ntmps69
 go_wp2
 go_ret
 exact ⟨_, rfl, hB.out, hE.out⟩
set_option maxRecDepth 100000 in
set_option maxHeartbeats 6400000 in
theorem atS_any (tp : Option Addr) (tn tc : Nat) (T : List TitleV) (r : LendR) (dp : Option Addr) (dn dc : Nat) (d : List SlipV) (t : Int) (gS : Nat) (w : World) (h : ListsM w tp tn tc T r dp dn dc d) (ht : outB t 0 345686399999 = false)
 (hcl : ∀ u, Ext w u → Calls Tryz.prog 131 #[.pointer (some ⟨gS, 0, none⟩)] u fun e w' => e = .returned (.int .i64 0) ∧ Ext u w') :
 Calls Tryz.prog 64 #[.slice tp tn tc, lendVal r, .slice dp dn dc, .int .i64 t, .func (.func 131) #[] #[.pointer (some ⟨gS, 0, none⟩)]] w (AtR tp tn tc T r d t w) := by
 obtain ⟨z1, z2, z3⟩ := libF_zero h.ok
 have hl := fun u (hu : Ext w u) => listsFault_any tp tn tc T r dp dn dc d u (h.ext hu).ti.1 h.ts h.tl (h.ext hu).sl.1 h.ss (by have := h.sn; omega)
 have hm := fun u => sMom_is ht u
 have hL := fun u (hu : Ext w u) => libraryAt_any tp tn tc T r dp dn dc d t u (h.ext hu).ti (titlesF_ok z1) (h.ext hu).sl (slipsF_right z3) h.ss h.sn
 rw [h.ok] at hl
 unfold lendVal at hl hL ⊢
 have hE : Ext w (w.alloc (.cells #[.int .i64 r.days, .int .i64 r.late, .int .i64 r.most, .int .i64 r.each] 28)) := (Ext.refl w).alloc _
 have hX := Blk.new' (w := w) (g := w.heap.size) (t := 28) (cs := #[.int .i64 r.days, .int .i64 r.late, .int .i64 r.most, .int .i64 r.each]) rfl
 have lx := hX.lt
 have x0 := hX.cell 0
 have x1 := hX.cell 1
 have x2 := hX.cell 2
 have x3 := hX.cell 3
 clear h z1 z2 z3 hX; replace hl := Lib.hid hl; replace hm := Lib.hid hm; replace hL := Lib.hid hL; replace hE := Lib.hid hE; replace hcl := Lib.hid hcl
 go_enter Tryz.func64, Tryz.ntmps64
 go_wp2_with (first
  | (go_at_call 60; (with_reducible refine Calls.mono (hl.out _ hE.out) ?_); rintro e w1 ⟨rfl, hb1⟩; have v0 := (hb1.walk.1 _ _ lx).trans x0; have v1 := (hb1.walk.1 _ _ lx).trans x1; have v2 := (hb1.walk.1 _ _ lx).trans x2; have v3 := (hb1.walk.1 _ _ lx).trans x3; have l1 := Nat.lt_of_lt_of_le lx hb1.size)
  | (go_at_call 131; (with_reducible refine Calls.mono (hcl.out _ (hE.out.trans hb1)) ?_); rintro e w2 ⟨rfl, hb2⟩; have y0 := (hb2.walk.1 _ _ l1).trans v0; have y1 := (hb2.walk.1 _ _ l1).trans v1; have y2 := (hb2.walk.1 _ _ l1).trans v2; have y3 := (hb2.walk.1 _ _ l1).trans v3; have l2 := Nat.lt_of_lt_of_le l1 hb2.size)
  | (go_at_call 125; (with_reducible refine Calls.mono (hm.out _) ?_); rintro e w3 ⟨rfl, hb3⟩; have u0 := (hb3.walk.1 _ _ l2).trans y0; have u1 := (hb3.walk.1 _ _ l2).trans y1; have u2 := (hb3.walk.1 _ _ l2).trans y2; have u3 := (hb3.walk.1 _ _ l2).trans y3)
  | (go_at_call 61; have hE3 := ((hE.out.trans hb1).trans hb2).trans hb3; (with_reducible refine Calls.mono (hL.out _ hE3) ?_); rintro e w4 ⟨base, bb, ms, ml, mh, q, mr, n, rfl, hLM, hRM, hb4⟩))
 have hres : AtR tp tn tc T r d t w (.returned (.tuple #[.pointer (some ⟨bb, 0, none⟩), .int .i64 0])) w4 := ⟨base, bb, ms, ml, mh, q, rfl, hLM, hE3.trans hb4⟩
 go_ret2
 exact hres
set_option maxRecDepth 100000 in
theorem idxNoneL (p : Option Addr) (cap : Nat) (fv : Value) (w : World) :
 Calls Tryz.prog 133 #[.slice p 0 cap, fv] w fun e w' => e = .returned (.int .i64 (-1)) ∧ Ext w w' := by
 go_enter Tryz.func133, Tryz.ntmps133
 go_wp2
 refine wp_loop_rounds 1 ?_
 rw [rounds_succ]
 go_wp2
 go_ret
 exact ⟨rfl, Ext.refl _⟩
set_option maxRecDepth 100000 in
theorem delNoneL (p : Option Addr) (cap : Nat) (fv : Value) (w : World) :
 Calls Tryz.prog 70 #[.slice p 0 cap, fv] w fun e w' => e = .returned (.slice p 0 cap) ∧ Ext w w' := by
 go_enter Tryz.func70, Tryz.ntmps70
 go_wp2_with (go_at_call 133; (with_reducible refine Calls.mono (idxNoneL _ _ _ _) ?_); rintro e w1 ⟨rfl, hb1⟩)
 go_ret
 exact ⟨rfl, hb1⟩
end Go.Proofs.YtkjhbofbcmelgaaGreatDoor
