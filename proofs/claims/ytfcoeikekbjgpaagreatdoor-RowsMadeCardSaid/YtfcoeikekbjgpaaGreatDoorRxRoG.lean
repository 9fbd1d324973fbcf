/- How many of each section stand in a row: the comparison by what is left over, and the sort by it. Conditions: sizes. -/
import Derived.Test.YtfcoeikekbjgpaaGreatDoorRxRoF
import Derived.Test.YtfcoeikekbjgpaaGreatDoorRxRoC
import Derived.Test.YtfcoeikekbjgpaaGreatDoorRxStL
import Derived.Shelf.SlSortCmp.Insertion
import Derived.Lib.OwnBridge
set_option linter.unusedSimpArgs false
set_option linter.unusedVariables false
namespace Go.Proofs.YtfcoeikekbjgpaaGreatDoor
open Go Go.RowKit Go.Sort

/-- What a comparison by what is left over reads. -/
structure CmpM (w : World) (gp gs ga : Nat) (n : Int) (sb so k sc : Nat) (A : List Int) : Prop where
  p : Blk w gp 3 #[.int .i64 n]
  s : Blk w gs 22 #[.slice (some ⟨sb, so, none⟩) k sc]
  a : Blk w ga 3 #[.int .i64 A.sum]
  e : ∀ (i : Nat) (x : Int), A[i]? = some x → w.cell? ⟨sb, so + i, none⟩ = some (.int .i64 x)
  n0 : 0 ≤ n
  n1 : n ≤ 1000
  s0 : 0 < A.sum
  s1 : A.sum ≤ 1000
  a0 : ∀ x ∈ A, 0 ≤ x
  len : A.length = k
  kc : k ≤ sc
theorem drewN_succ (w : World) (q : Nat) : w.drew.drewN q = w.drewN (q + 1) := by
  simp [World.drewN, drew_eq_ahead, ahead, Nat.add_assoc, Nat.add_comm]
  exact ⟨by omega, rfl, rfl⟩
set_option maxRecDepth 100000 in
set_option maxHeartbeats 3200000 in
theorem standCmp {w : World} {gp gs ga : Nat} {n : Int} {sb so k sc : Nat} {A : List Int} (h : CmpM w gp gs ga n sb so k sc A) {i j : Nat} (hi : i < k) (hj : j < k) :
    Calls Tryz.prog 82 #[.int .i64 i, .int .i64 j, .pointer (some ⟨gp, 0, none⟩), .pointer (some ⟨gs, 0, none⟩), .pointer (some ⟨ga, 0, none⟩)] w fun e w' => e = .returned (.int .i64 (remOf n A j - remOf n A i)) ∧ ∃ q, w' = w.drewN q := by
  obtain ⟨x, hx⟩ := getD_some h.len hi
  obtain ⟨y, hy⟩ := getD_some h.len hj
  have e1 : A.getD (i : Int).toNat 0 = x := by rw [Int.toNat_natCast, List.getD_eq_getElem?_getD, hx]; rfl
  have e2 : A.getD (j : Int).toNat 0 = y := by rw [Int.toNat_natCast, List.getD_eq_getElem?_getD, hy]; rfl
  have x0 := h.a0 x (List.mem_of_getElem? hx)
  have y0 := h.a0 y (List.mem_of_getElem? hy)
  have x1 := (mem_le_sum h.a0 (List.mem_of_getElem? hx)).1
  have y1 := (mem_le_sum h.a0 (List.mem_of_getElem? hy)).1
  have cx := h.e i x hx
  have cy := h.e j y hy
  obtain ⟨hp, hs, ha, -, n0, n1, s0, s1, -, -, hkc⟩ := h
  have r1 : remOf n A (i : Int) = n * x % A.sum := by unfold remOf; rw [e1]
  have r2 : remOf n A (j : Int) = n * y % A.sum := by unfold remOf; rw [e2]
  have hc : cfR n A (i : Int) (j : Int) = cmpZ (remOf n A (j : Int)) (remOf n A (i : Int)) := rfl
  try rw [hc]
  rw [r1, r2]
  clear r1 r2 hc e1 e2 hx hy
  generalize A.sum = S at *
  have p1 : 0 ≤ n * x ∧ n * x ≤ 1000 * 1000 := ⟨Int.mul_nonneg n0 x0, Int.mul_le_mul n1 (by omega) x0 (by omega)⟩
  have p2 : 0 ≤ n * y ∧ n * y ≤ 1000 * 1000 := ⟨Int.mul_nonneg n0 y0, Int.mul_le_mul n1 (by omega) y0 (by omega)⟩
  have m1 : IntKind.i64.wrap (n * x) = n * x := IntWalk.i64_in _ (by omega)
  have m2 : IntKind.i64.wrap (n * y) = n * y := IntWalk.i64_in _ (by omega)
  have q1 : (n * x).tmod S = n * x % S := Int.tmod_eq_emod_of_nonneg p1.1
  have q2 : (n * y).tmod S = n * y % S := Int.tmod_eq_emod_of_nonneg p2.1
  have b1 := Int.emod_nonneg (n * x) (show S ≠ 0 by omega)
  have b2 := Int.emod_nonneg (n * y) (show S ≠ 0 by omega)
  have b3 := Int.emod_lt_of_pos (n * x) s0
  have b4 := Int.emod_lt_of_pos (n * y) s0
  have z1 : IntKind.i64.wrap (n * x % S) = n * x % S := IntWalk.i64_in _ (by omega)
  have z2 : IntKind.i64.wrap (n * y % S) = n * y % S := IntWalk.i64_in _ (by omega)
  have z3 : IntKind.i64.wrap (n * y % S - n * x % S) = n * y % S - n * x % S := IntWalk.i64_in _ (by omega)
  have hS0 : ¬ S = 0 := by omega
  have hiI : (i : Int) < k := by omega
  have hjI : (j : Int) < k := by omega
  clear p1 p2 b1 b2 b3 b4 x0 y0 x1 y1 n0 n1 s1
  replace m1 := Lib.hid m1
  replace m2 := Lib.hid m2
  replace q1 := Lib.hid q1
  replace q2 := Lib.hid q2
  replace z1 := Lib.hid z1
  replace z2 := Lib.hid z2
  replace z3 := Lib.hid z3
  go_enter Tryz.func82, Tryz.ntmps82
  go_upto_region 1 with fail
  refine wp_region_planS [(0, true), (1, true), (2, true), (3, true), (4, true), (5, true), (6, true), (7, true), (8, true), (9, true), (10, true), (11, true), (12, true), (13, true), (14, true), (15, true), (16, true)] 17 (fun w' => Blk w' gp 3 #[.int .i64 n] ∧ Blk w' gs 22 #[.slice (some ⟨sb, so, none⟩) k sc] ∧ Blk w' ga 3 #[.int .i64 S] ∧ (w'.cell? ⟨sb, so + i, none⟩ = some (.int .i64 x)) ∧ (w'.cell? ⟨sb, so + j, none⟩ = some (.int .i64 y))) Drw (by kernel_rfl) (by kernel_rfl) Drw.refl (fun _ _ _ => Drw.trans) (fun _ _ h he => ⟨h.1.drw he, h.2.1.drw he, h.2.2.1.drw he, (by obtain ⟨q, rfl⟩ := he; exact h.2.2.2.1), (by obtain ⟨q, rfl⟩ := he; exact h.2.2.2.2)⟩) ⟨(by (repeat (with_reducible first | assumption | exact Blk.new' (by simp) | refine Blk.drew ?_ | refine Blk.alloc ?_ _ | exact Drw.refl _ | refine Ext.drew ?_ | refine Ext.alloc ?_ _))), (by (repeat (with_reducible first | assumption | exact Blk.new' (by simp) | refine Blk.drew ?_ | refine Blk.alloc ?_ _ | exact Drw.refl _ | refine Ext.drew ?_ | refine Ext.alloc ?_ _))), (by (repeat (with_reducible first | assumption | exact Blk.new' (by simp) | refine Blk.drew ?_ | refine Blk.alloc ?_ _ | exact Drw.refl _ | refine Ext.drew ?_ | refine Ext.alloc ?_ _))), cx, cy⟩ ?_
  repeat
    first
      | (refine plan_quiet rfl rfl (fun _ _ _ _ h => h) ?_
         apply Exists.intro
         refine ⟨fun w' hw' => ?_, ?_⟩
         · obtain ⟨hHq0, hHq1, hHq2, hHq3, hHq4⟩ := hw'
           obtain ⟨w0, -⟩ := hHq0.walk; obtain ⟨w1, -⟩ := hHq1.walk; obtain ⟨w2, -⟩ := hHq2.walk
           skip
           simp [go_sem, quietTo, Drw.refl, ↓IntWalk.iteOmega, w0, w1, w2, hHq3, hHq4, hiI, hjI, hS0, m1.out, m2.out, q1.out, q2.out, z1.out, z2.out, z3.out]
           first
             | rfl
             | (exact cmpIntE_any _ _ _)
         simp only [Act.put, List.setIfInBounds_toArray, List.set_cons_succ, List.set_cons_zero])
      | (refine plan_skip rfl rfl (fun _ _ _ _ h => h) ?_
         simp only [Act.put, List.setIfInBounds_toArray, List.set_cons_succ, List.set_cons_zero])
  refine plan_nil fun wrq herq hwrq => ?_
  obtain ⟨hHq0, hHq1, hHq2, hHq3, hHq4⟩ := hwrq
  obtain ⟨hCq0, hFq0⟩ := hHq0.walk
  obtain ⟨hCq1, hFq1⟩ := hHq1.walk
  obtain ⟨hCq2, hFq2⟩ := hHq2.walk
  simp only [List.drop_succ_cons, List.drop_zero, List.drop_nil]
  go_wp2
  go_ret
  obtain ⟨q, rfl⟩ := herq
  exact ⟨rfl, q + 1, drewN_succ w q⟩
set_option maxRecDepth 100000 in
set_option maxHeartbeats 3200000 in
theorem refCmp {w : World} {gp gs ga : Nat} {n : Int} {sb so k sc : Nat} {A : List Int} (h : CmpM w gp gs ga n sb so k sc A) {i j : Nat} (hi : i < k) (hj : j < k) :
    Calls Tryz.prog 87 #[.int .i64 i, .int .i64 j, .pointer (some ⟨gp, 0, none⟩), .pointer (some ⟨gs, 0, none⟩), .pointer (some ⟨ga, 0, none⟩)] w fun e w' => e = .returned (.int .i64 (cfR n A i j)) ∧ ∃ q, w' = w.drewN q := by
  obtain ⟨x, hx⟩ := getD_some h.len hi
  obtain ⟨y, hy⟩ := getD_some h.len hj
  have e1 : A.getD (i : Int).toNat 0 = x := by rw [Int.toNat_natCast, List.getD_eq_getElem?_getD, hx]; rfl
  have e2 : A.getD (j : Int).toNat 0 = y := by rw [Int.toNat_natCast, List.getD_eq_getElem?_getD, hy]; rfl
  have x0 := h.a0 x (List.mem_of_getElem? hx)
  have y0 := h.a0 y (List.mem_of_getElem? hy)
  have x1 := (mem_le_sum h.a0 (List.mem_of_getElem? hx)).1
  have y1 := (mem_le_sum h.a0 (List.mem_of_getElem? hy)).1
  have cx := h.e i x hx
  have cy := h.e j y hy
  obtain ⟨hp, hs, ha, -, n0, n1, s0, s1, -, -, hkc⟩ := h
  have r1 : remOf n A (i : Int) = n * x % A.sum := by unfold remOf; rw [e1]
  have r2 : remOf n A (j : Int) = n * y % A.sum := by unfold remOf; rw [e2]
  have hc : cfR n A (i : Int) (j : Int) = cmpZ (remOf n A (j : Int)) (remOf n A (i : Int)) := rfl
  try rw [hc]
  rw [r1, r2]
  clear r1 r2 hc e1 e2 hx hy
  generalize A.sum = S at *
  have p1 : 0 ≤ n * x ∧ n * x ≤ 1000 * 1000 := ⟨Int.mul_nonneg n0 x0, Int.mul_le_mul n1 (by omega) x0 (by omega)⟩
  have p2 : 0 ≤ n * y ∧ n * y ≤ 1000 * 1000 := ⟨Int.mul_nonneg n0 y0, Int.mul_le_mul n1 (by omega) y0 (by omega)⟩
  have m1 : IntKind.i64.wrap (n * x) = n * x := IntWalk.i64_in _ (by omega)
  have m2 : IntKind.i64.wrap (n * y) = n * y := IntWalk.i64_in _ (by omega)
  have q1 : (n * x).tmod S = n * x % S := Int.tmod_eq_emod_of_nonneg p1.1
  have q2 : (n * y).tmod S = n * y % S := Int.tmod_eq_emod_of_nonneg p2.1
  have b1 := Int.emod_nonneg (n * x) (show S ≠ 0 by omega)
  have b2 := Int.emod_nonneg (n * y) (show S ≠ 0 by omega)
  have b3 := Int.emod_lt_of_pos (n * x) s0
  have b4 := Int.emod_lt_of_pos (n * y) s0
  have z1 : IntKind.i64.wrap (n * x % S) = n * x % S := IntWalk.i64_in _ (by omega)
  have z2 : IntKind.i64.wrap (n * y % S) = n * y % S := IntWalk.i64_in _ (by omega)
  have z3 : IntKind.i64.wrap (n * y % S - n * x % S) = n * y % S - n * x % S := IntWalk.i64_in _ (by omega)
  have hS0 : ¬ S = 0 := by omega
  have hiI : (i : Int) < k := by omega
  have hjI : (j : Int) < k := by omega
  clear p1 p2 b1 b2 b3 b4 x0 y0 x1 y1 n0 n1 s1
  replace m1 := Lib.hid m1
  replace m2 := Lib.hid m2
  replace q1 := Lib.hid q1
  replace q2 := Lib.hid q2
  replace z1 := Lib.hid z1
  replace z2 := Lib.hid z2
  replace z3 := Lib.hid z3
  go_enter Tryz.func87, Tryz.ntmps87
  go_upto_region 1 with fail
  refine wp_region_planS [(0, true), (1, true), (2, true), (3, true), (4, true), (5, true), (6, true), (7, true), (8, true), (9, true), (10, true), (11, true), (12, true), (13, true), (14, true), (15, true), (16, true)] 17 (fun w' => Blk w' gp 3 #[.int .i64 n] ∧ Blk w' gs 22 #[.slice (some ⟨sb, so, none⟩) k sc] ∧ Blk w' ga 3 #[.int .i64 S] ∧ (w'.cell? ⟨sb, so + i, none⟩ = some (.int .i64 x)) ∧ (w'.cell? ⟨sb, so + j, none⟩ = some (.int .i64 y))) Drw (by kernel_rfl) (by kernel_rfl) Drw.refl (fun _ _ _ => Drw.trans) (fun _ _ h he => ⟨h.1.drw he, h.2.1.drw he, h.2.2.1.drw he, (by obtain ⟨q, rfl⟩ := he; exact h.2.2.2.1), (by obtain ⟨q, rfl⟩ := he; exact h.2.2.2.2)⟩) ⟨(by (repeat (with_reducible first | assumption | exact Blk.new' (by simp) | refine Blk.drew ?_ | refine Blk.alloc ?_ _ | exact Drw.refl _ | refine Ext.drew ?_ | refine Ext.alloc ?_ _))), (by (repeat (with_reducible first | assumption | exact Blk.new' (by simp) | refine Blk.drew ?_ | refine Blk.alloc ?_ _ | exact Drw.refl _ | refine Ext.drew ?_ | refine Ext.alloc ?_ _))), (by (repeat (with_reducible first | assumption | exact Blk.new' (by simp) | refine Blk.drew ?_ | refine Blk.alloc ?_ _ | exact Drw.refl _ | refine Ext.drew ?_ | refine Ext.alloc ?_ _))), cx, cy⟩ ?_
  repeat
    first
      | (refine plan_quiet rfl rfl (fun _ _ _ _ h => h) ?_
         apply Exists.intro
         refine ⟨fun w' hw' => ?_, ?_⟩
         · obtain ⟨hHq0, hHq1, hHq2, hHq3, hHq4⟩ := hw'
           obtain ⟨w0, -⟩ := hHq0.walk; obtain ⟨w1, -⟩ := hHq1.walk; obtain ⟨w2, -⟩ := hHq2.walk
           skip
           simp [go_sem, quietTo, Drw.refl, ↓IntWalk.iteOmega, w0, w1, w2, hHq3, hHq4, hiI, hjI, hS0, m1.out, m2.out, q1.out, q2.out, z1.out, z2.out, z3.out]
           first
             | rfl
             | (exact cmpIntE_any _ _ _)
         simp only [Act.put, List.setIfInBounds_toArray, List.set_cons_succ, List.set_cons_zero])
      | (refine plan_skip rfl rfl (fun _ _ _ _ h => h) ?_
         simp only [Act.put, List.setIfInBounds_toArray, List.set_cons_succ, List.set_cons_zero])
  refine plan_nil fun wrq herq hwrq => ?_
  obtain ⟨hHq0, hHq1, hHq2, hHq3, hHq4⟩ := hwrq
  obtain ⟨hCq0, hFq0⟩ := hHq0.walk
  obtain ⟨hCq1, hFq1⟩ := hHq1.walk
  obtain ⟨hCq2, hFq2⟩ := hHq2.walk
  simp only [List.drop_succ_cons, List.drop_zero, List.drop_nil]
  go_wp2
  go_ret
  obtain ⟨q, rfl⟩ := herq
  exact ⟨rfl, q + 1, drewN_succ w q⟩

theorem sortWorld_block {α : Type} [Inhabited α] (enc : α → Value) (w : World) (g m : Nat) (dk : Array α) (os : Array Obj) {b : Nat} (hb : b < w.heap.size) (hne : b ≠ g) : (sortWorld enc w g 0 m dk os).heap[b]? = w.heap[b]? := by
  show (w.heap.modify g (onCells (putCells enc 0 dk)) ++ os)[b]? = _
  have hs : (w.heap.modify g (onCells (putCells enc 0 dk))).size = w.heap.size := by simp
  rw [Array.getElem?_append_left (by rw [hs]; exact hb), Array.getElem?_modify, if_neg (fun e => hne e.symm)]
theorem sortWorld_grown {α : Type} [Inhabited α] (enc : α → Value) (w : World) (g m : Nat) (dk : Array α) (os : Array Obj) : w.grownBy (sortWorld enc w g 0 m dk os) (some g) :=
  ⟨rfl, rfl, rfl, by
    show w.heap.size ≤ (w.heap.modify g (onCells (putCells enc 0 dk)) ++ os).size
    rw [Array.size_append]; simp, fun k hk hn => sortWorld_block enc w g m dk os hk fun e => hn (by rw [e])⟩
def encF {k : Nat} (i : Fin k) : Value := .int .i64 (i.val : Int)
theorem CmpM.sort {w : World} {gp gs ga : Nat} {n : Int} {sb so k sc : Nat} {A : List Int} (h : CmpM w gp gs ga n sb so k sc A) {g : Nat} (hg : gp ≠ g ∧ gs ≠ g ∧ ga ≠ g ∧ sb ≠ g) (hsb : sb < w.heap.size) {m : Nat} {dk : Array (Fin (k - 1 + 1))} {os : Array Obj} : CmpM (sortWorld encF w g 0 m dk os) gp gs ga n sb so k sc A :=
  ⟨(sortWorld_block _ w g m dk os h.p.lt hg.1).trans h.p, (sortWorld_block _ w g m dk os h.s.lt hg.2.1).trans h.s, (sortWorld_block _ w g m dk os h.a.lt hg.2.2.1).trans h.a, fun i x hx => (World.cell?_of_block (w := w) (sortWorld_block _ w g m dk os hsb hg.2.2.2)).trans (h.e i x hx), h.n0, h.n1, h.s0, h.s1, h.a0, h.len, h.kc⟩
theorem idx_enc (m : Nat) : (idxL (m + 1)).flatMap intC = (List.finRange (m + 1)).map encF := by
  have e : ∀ l : List Int, l.flatMap intC = l.map (Value.int .i64) := fun l => by
    induction l with
    | nil => rfl
    | cons a l ih => rw [List.flatMap_cons, ih]; rfl
  rw [e]
  unfold idxL
  rw [List.map_map]
  apply List.ext_getElem
  · simp
  · intro i h1 h2
    simp [encF]
set_option maxRecDepth 100000 in
theorem stableI_any (g n cap : Nat) (fv : Value) (w : World) (hn : n ≤ 19) (W : Nat → World) (hs : Calls Tryz.prog 156 #[.slice (some ⟨g, 0, none⟩) n cap, .int .i64 (0 : Nat), .int .i64 n, fv] w fun e w' => e = .returned (.tuple #[]) ∧ ∃ q, w' = W q) :
    Calls Tryz.prog 81 #[.slice (some ⟨g, 0, none⟩) n cap, fv] w fun e w' => e = .returned (.tuple #[]) ∧ ∃ q, w' = W q := by
  have hmI : (n : Int) < 20 := by omega
  have hC : Calls Tryz.prog 117 #[.slice (some ⟨g, 0, none⟩) n cap, .int .i64 n, fv] w fun e w' => e = .returned (.tuple #[]) ∧ ∃ q, w' = W q := by
    replace hs := Lib.hid hs
    go_enter Tryz.func117, Tryz.ntmps117
    go_wp2
    refine wp_loop_rounds 1 ?_
    rw [rounds_succ]
    go_wp2_with (go_at_call 156; refine hs.out.mono ?_; rintro e w' ⟨rfl, q, rfl⟩)
    refine wp_loop_rounds 1 ?_
    rw [rounds_succ]
    go_wp2
    go_end0
    exact ⟨rfl, q, rfl⟩
  replace hC := Lib.hid hC
  clear hs
  go_enter Tryz.func81, Tryz.ntmps81
  go_wp2_with (go_at_call 117; refine hC.out.mono ?_; rintro e w' ⟨rfl, q, rfl⟩)
  go_end0
  exact ⟨rfl, q, rfl⟩
/-- What a sort of places by what is left over gives. -/
def SortedP (w : World) (base g m cap : Nat) (n : Int) (A : List Int) (e : Ending) (w' : World) : Prop := e = .returned (.tuple #[]) ∧ Slc 1 intC w' (some ⟨g, 0, none⟩) (m + 1) cap (ordL n A) ∧ w.grownBy w' (some g)
set_option maxRecDepth 100000 in
theorem standSort {w : World} {base g m cap : Nat} (ho : w.ownsRow base 3 1 (.slice (some ⟨g, 0, none⟩) (m + 1) cap) (m + 1) ((idxL (m + 1)).flatMap intC)) (hm : m + 1 ≤ 19) {gp gs ga : Nat} {n : Int} {sb so sc : Nat} {A : List Int} (h : CmpM w gp gs ga n sb so (m + 1) sc A) (hg : gp ≠ g ∧ gs ≠ g ∧ ga ≠ g ∧ sb ≠ g) (hsb : sb < w.heap.size) :
    Calls Tryz.prog 81 #[.slice (some ⟨g, 0, none⟩) (m + 1) cap, .func (.func 82) #[] #[.pointer (some ⟨gp, 0, none⟩), .pointer (some ⟨gs, 0, none⟩), .pointer (some ⟨ga, 0, none⟩)]] w (SortedP w base g m cap n A) := by
  have ho2 := ho
  rw [idx_enc] at ho2
  obtain ⟨g', cap', e9, hbg, hgl, hncap, hcm, hln, hH⟩ := Lib.holds_of_ownsRow ho2 (fun e => by cases e)
  cases e9
  have hsz : (List.finRange (m + 1)).toArray.size = m + 1 := by simp
  have hs := Any.insertionSortCmpFunc_one Tryz.lisInt (encF (k := m + 1)) (fun _ => rfl) (fun a b => remOf n A (b.val : Int) - remOf n A (a.val : Int)) 82 #[.pointer (some ⟨gp, 0, none⟩), .pointer (some ⟨gs, 0, none⟩), .pointer (some ⟨ga, 0, none⟩)] g 0 cap 0 (m + 1) (List.finRange (m + 1)).toArray w (fun args u => by rfl) (fun q os dk _ x y => standCmp (h.sort hg hsb) x.isLt y.isLt) hH (Nat.zero_le _) (by simp) (by simp; omega)
  rw [hsz] at hs
  have hS := stableI_any g (m + 1) cap _ w hm (fun q => (putRow encF w g 0 (insertionSort (ltOf fun a b : Fin (m + 1) => remOf n A (b.val : Int) - remOf n A (a.val : Int)) (List.finRange (m + 1)).toArray 0 (m + 1))).drewN q) hs
  refine hS.mono fun e w' ⟨he, q, hw⟩ => ?_
  have hso : ordL n A = (insertionSort (ltOf fun a b : Fin (m + 1) => remOf n A (b.val : Int) - remOf n A (a.val : Int)) (List.finRange (m + 1)).toArray 0 (m + 1)).toList.map fun i => ((i.val : Nat) : Int) := by
    rw [ordL_eq h.len]
    unfold ordF
    first
      | rfl
      | rw [lt_same (m := m) n A]
  have hds : (insertionSort (ltOf fun a b : Fin (m + 1) => remOf n A (b.val : Int) - remOf n A (a.val : Int)) (List.finRange (m + 1)).toArray 0 (m + 1)).size = m + 1 := by
    have := ordL_len n A
    rw [hso, List.length_map, h.len] at this
    simpa using this
  generalize insertionSort (ltOf fun a b : Fin (m + 1) => remOf n A (b.val : Int) - remOf n A (a.val : Int)) (List.finRange (m + 1)).toArray 0 (m + 1) = d at *
  have hH2 : Holds encF w' g 0 d := by
    rw [hw]
    exact holds_putRow encF w g 0 _ _ hH (by rw [hds, hsz])
  have hgr : w.grownBy w' (some g) := by
    rw [hw]
    have := sortWorld_grown encF w g q d #[]
    rw [sortWorld_none] at this
    exact this
  refine ⟨he, ?_, hgr⟩
  have hlen : (ordL n A).length = m + 1 := by rw [ordL_len, h.len]
  refine ⟨⟨hlen, by omega, fun _ => ⟨g, 0, rfl, Nat.lt_of_lt_of_le hgl hgr.size, fun i x hx j u hu => ?_⟩⟩, hncap, (fun e => by cases e), (fun a ha => by cases ha; exact ⟨g, 0, rfl, Nat.lt_of_lt_of_le hgl hgr.size⟩)⟩
  obtain rfl : j = 0 := by
    have := (List.getElem?_eq_some_iff.1 hu).1
    simp only [intC, List.length_singleton] at this
    omega
  cases hu
  have hi : i < d.size := by rw [hds, ← hlen]; exact (List.getElem?_eq_some_iff.1 hx).1
  have h1 := (hH2 i hi).1
  rw [hso, List.getElem?_map] at hx
  have e1 : d.toList[i]? = some d[i] := by simp [hi]
  rw [e1] at hx
  have e2 : d[i]! = d[i] := getElem!_pos d i hi
  rw [e2] at h1
  have e3 : x = ((d[i].val : Nat) : Int) := by simpa using hx.symm
  rw [e3, show 0 + i * 1 + 0 = 0 + i by omega]
  exact h1
set_option maxRecDepth 100000 in
theorem refSort {w : World} {base g m cap : Nat} (ho : w.ownsRow base 3 1 (.slice (some ⟨g, 0, none⟩) (m + 1) cap) (m + 1) ((idxL (m + 1)).flatMap intC)) (hm : m + 1 ≤ 19) {gp gs ga : Nat} {n : Int} {sb so sc : Nat} {A : List Int} (h : CmpM w gp gs ga n sb so (m + 1) sc A) (hg : gp ≠ g ∧ gs ≠ g ∧ ga ≠ g ∧ sb ≠ g) (hsb : sb < w.heap.size) :
    Calls Tryz.prog 81 #[.slice (some ⟨g, 0, none⟩) (m + 1) cap, .func (.func 87) #[] #[.pointer (some ⟨gp, 0, none⟩), .pointer (some ⟨gs, 0, none⟩), .pointer (some ⟨ga, 0, none⟩)]] w (SortedP w base g m cap n A) := by
  have ho2 := ho
  rw [idx_enc] at ho2
  obtain ⟨g', cap', e9, hbg, hgl, hncap, hcm, hln, hH⟩ := Lib.holds_of_ownsRow ho2 (fun e => by cases e)
  cases e9
  have hsz : (List.finRange (m + 1)).toArray.size = m + 1 := by simp
  have hs := Any.insertionSortCmpFunc_one Tryz.lisInt (encF (k := m + 1)) (fun _ => rfl) (fun a b => cfR n A (a.val : Int) (b.val : Int)) 87 #[.pointer (some ⟨gp, 0, none⟩), .pointer (some ⟨gs, 0, none⟩), .pointer (some ⟨ga, 0, none⟩)] g 0 cap 0 (m + 1) (List.finRange (m + 1)).toArray w (fun args u => by rfl) (fun q os dk _ x y => refCmp (h.sort hg hsb) x.isLt y.isLt) hH (Nat.zero_le _) (by simp) (by simp; omega)
  rw [hsz] at hs
  have hS := stableI_any g (m + 1) cap _ w hm (fun q => (putRow encF w g 0 (insertionSort (ltOf fun a b : Fin (m + 1) => cfR n A (a.val : Int) (b.val : Int)) (List.finRange (m + 1)).toArray 0 (m + 1))).drewN q) hs
  refine hS.mono fun e w' ⟨he, q, hw⟩ => ?_
  have hso : ordL n A = (insertionSort (ltOf fun a b : Fin (m + 1) => cfR n A (a.val : Int) (b.val : Int)) (List.finRange (m + 1)).toArray 0 (m + 1)).toList.map fun i => ((i.val : Nat) : Int) := by
    rw [ordL_eq h.len]
    unfold ordF
    first
      | rfl
      | rw [lt_same (m := m) n A]
  have hds : (insertionSort (ltOf fun a b : Fin (m + 1) => cfR n A (a.val : Int) (b.val : Int)) (List.finRange (m + 1)).toArray 0 (m + 1)).size = m + 1 := by
    have := ordL_len n A
    rw [hso, List.length_map, h.len] at this
    simpa using this
  generalize insertionSort (ltOf fun a b : Fin (m + 1) => cfR n A (a.val : Int) (b.val : Int)) (List.finRange (m + 1)).toArray 0 (m + 1) = d at *
  have hH2 : Holds encF w' g 0 d := by
    rw [hw]
    exact holds_putRow encF w g 0 _ _ hH (by rw [hds, hsz])
  have hgr : w.grownBy w' (some g) := by
    rw [hw]
    have := sortWorld_grown encF w g q d #[]
    rw [sortWorld_none] at this
    exact this
  refine ⟨he, ?_, hgr⟩
  have hlen : (ordL n A).length = m + 1 := by rw [ordL_len, h.len]
  refine ⟨⟨hlen, by omega, fun _ => ⟨g, 0, rfl, Nat.lt_of_lt_of_le hgl hgr.size, fun i x hx j u hu => ?_⟩⟩, hncap, (fun e => by cases e), (fun a ha => by cases ha; exact ⟨g, 0, rfl, Nat.lt_of_lt_of_le hgl hgr.size⟩)⟩
  obtain rfl : j = 0 := by
    have := (List.getElem?_eq_some_iff.1 hu).1
    simp only [intC, List.length_singleton] at this
    omega
  cases hu
  have hi : i < d.size := by rw [hds, ← hlen]; exact (List.getElem?_eq_some_iff.1 hx).1
  have h1 := (hH2 i hi).1
  rw [hso, List.getElem?_map] at hx
  have e1 : d.toList[i]? = some d[i] := by simp [hi]
  rw [e1] at hx
  have e2 : d[i]! = d[i] := getElem!_pos d i hi
  rw [e2] at h1
  have e3 : x = ((d[i].val : Nat) : Int) := by simpa using hx.symm
  rw [e3, show 0 + i * 1 + 0 = 0 + i by omega]
  exact h1
end Go.Proofs.YtfcoeikekbjgpaaGreatDoor
