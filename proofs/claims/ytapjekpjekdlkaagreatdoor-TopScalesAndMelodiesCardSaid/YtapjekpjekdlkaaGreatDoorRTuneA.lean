/- Intervals: what is wrong with one, sums and differences, by both texts. Conditions: none. -/
import Derived.Test.YtapjekpjekdlkaaGreatDoorRJ2
import Derived.Deep.Light
set_option linter.unusedSimpArgs false
set_option linter.unusedVariables false
namespace Go.Proofs.YtapjekpjekdlkaaGreatDoor
open Go Go.RowKit

structure I4 where
  a : Int
  b : Int
  c : Int
  d : Int
theorem I4.eq {x y : I4} (ha : x.a = y.a) (hb : x.b = y.b) (hc : x.c = y.c) (hd : x.d = y.d) : x = y := by
  cases x; cases y; simp only at ha hb hc hd; rw [ha, hb, hc, hd]

def rightB (x : I4) : Bool := inB x.a (-24) 24 && inB x.b (-10) 10 && inB x.c (-5) 5 && inB x.d (-3) 3
def faultI (x : I4) : Int := if rightB x then 0 else 1

theorem fault_or (x : I4) : orF [spanF x.a (-24) 24, spanF x.b (-10) 10, spanF x.c (-5) 5, spanF x.d (-3) 3] = faultI x := by
  unfold faultI rightB spanF
  cases inB x.a (-24) 24 <;> cases inB x.b (-10) 10 <;> cases inB x.c (-5) 5 <;> cases inB x.d (-3) 3 <;> rfl

set_option maxRecDepth 100000 in
theorem intervalFault_any (x : I4) (w : World) :
    Calls Tryz.prog 36 #[.agg #[.int .i64 x.a, .int .i64 x.b, .int .i64 x.c, .int .i64 x.d]] w fun e w' => e = .returned (.int .i64 (faultI x)) ∧ Ext w w' := by
  have HF := Lib.hid (fault_or x)
  go_enter Tryz.func36, Tryz.ntmps36
  go_wp2
  refine wp_region_planS [(0, true), (1, true), (2, true), (3, true), (4, true), (5, true), (6, true), (7, true), (8, true), (9, true), (10, true), (11, true)] 12 (fun w' => Blk w' w.heap.size 27 #[.int .i64 x.a, .int .i64 x.b, .int .i64 x.c, .int .i64 x.d] ∧ Ext w w') Ext (by kernel_rfl) (by kernel_rfl) Ext.refl (fun _ _ _ => Ext.trans) (fun _ _ h he => ⟨h.1.ext he, h.2.trans he⟩) ⟨(by (repeat (with_reducible first | assumption | exact Blk.new' (by simp) | refine Blk.drew ?_ | refine Blk.alloc ?_ _ | exact Ext.refl _ | refine Ext.drew ?_ | refine Ext.alloc ?_ _))), (by (repeat (with_reducible first | assumption | exact Blk.new' (by simp) | refine Blk.drew ?_ | refine Blk.alloc ?_ _ | exact Ext.refl _ | refine Ext.drew ?_ | refine Ext.alloc ?_ _)))⟩ ?_
  repeat
    first
      | (refine plan_quiet rfl rfl (fun _ _ _ _ h => h) ?_
         apply Exists.intro
         refine ⟨fun w' hw' => ?_, ?_⟩
         · obtain ⟨hH0, hH1⟩ := hw'
           unfold Blk at hH0
           simp [go_sem, quietTo, World.cell?, hH0, Ext.refl, ↓IntWalk.iteOmega]
           first
             | rfl
             | (exact (spanFault_any _ _ _ _).mono fun e w1 ⟨he, hw1⟩ => ⟨he, hw1 ▸ Ext.refl _⟩)
         simp only [Act.put, List.setIfInBounds_toArray, List.set_cons_succ, List.set_cons_zero])
      | (refine plan_skip rfl rfl (fun _ _ _ _ h => h) ?_
         simp only [Act.put, List.setIfInBounds_toArray, List.set_cons_succ, List.set_cons_zero])
  refine plan_nil fun wr her hwr => ?_
  clear her
  obtain ⟨hH0, hH1⟩ := hwr
  obtain ⟨hC0, hF0⟩ := hH0.walk
  simp only [List.drop_succ_cons, List.drop_zero, List.drop_nil]
  go_wp2_with (go_at_call 55; refine (orErr_blk _ _ 4 [spanF x.a (-24) 24, spanF x.b (-10) 10, spanF x.c (-5) 5, spanF x.d (-3) 3] _ (by simp) (Blk.new' (by simp))).mono ?_; rintro e w' ⟨rfl, rfl⟩)
  go_ret
  exact ⟨ret_int HF.out, hH1.alloc _⟩

theorem fault_out (x : I4) : faultI x = if (outB x.a (-24) 24 || outB x.b (-10) 10 || outB x.c (-5) 5 || outB x.d (-3) 3) then 1 else 0 := by
  unfold faultI rightB
  simp only [outB_inB]
  cases inB x.a (-24) 24 <;> cases inB x.b (-10) 10 <;> cases inB x.c (-5) 5 <;> cases inB x.d (-3) 3 <;> rfl

set_option maxRecDepth 100000 in
theorem checkInterval_any (x : I4) (w : World) :
    Calls Tryz.prog 29 #[.agg #[.int .i64 x.a, .int .i64 x.b, .int .i64 x.c, .int .i64 x.d]] w fun e w' => e = .returned (.int .i64 (faultI x)) ∧ Ext w w' := by
  have HF := Lib.hid (fault_out x)
  cases h1 : outB x.a (-24) 24
  case' false =>
    cases h2 : outB x.b (-10) 10
    case' false =>
      cases h3 : outB x.c (-5) 5
      case' false => cases h4 : outB x.d (-3) 3
  all_goals
    go_enter Tryz.func29, Tryz.ntmps29
    go_wp2_with (go_at_call 19; refine (outside_any _ _ _ _).mono ?_; rintro e w' ⟨rfl, rfl⟩)
    go_ret
    exact ⟨ret_int (by rw [HF.out]; simp [*]), (Ext.refl _).alloc _⟩

/-- A row of intervals in memory: 'n' of them from 'off' on. -/
def Rows4 (w : World) (b off : Nat) (xs : List I4) : Prop :=
  ∀ i x, xs[i]? = some x → w.cell? ⟨b, off + i * 4, none⟩ = some (.int .i64 x.a) ∧ w.cell? ⟨b, off + i * 4 + 1, none⟩ = some (.int .i64 x.b) ∧ w.cell? ⟨b, off + i * 4 + 2, none⟩ = some (.int .i64 x.c) ∧ w.cell? ⟨b, off + i * 4 + 3, none⟩ = some (.int .i64 x.d)
theorem Rows4.ext {w w' : World} {b off : Nat} {xs : List I4} (h : Rows4 w b off xs) (he : Ext w w') (hb : b < w.heap.size) : Rows4 w' b off xs := fun i x hx => by
  obtain ⟨h1, h2, h3, h4⟩ := h i x hx
  obtain ⟨hc, _, _⟩ := he.walk
  exact ⟨(hc _ _ hb).trans h1, (hc _ _ hb).trans h2, (hc _ _ hb).trans h3, (hc _ _ hb).trans h4⟩

def faultAll : List I4 → Int
  | [] => 0
  | x :: l => if rightB x then faultAll l else 1
def RightTo (l : List I4) (k : Nat) : Prop := ∀ j x, j < k → l[j]? = some x → rightB x = true
theorem faultAll_drop : ∀ (l : List I4) (k : Nat), RightTo l k → faultAll (l.drop k) = faultAll l
  | l, 0, _ => by simp
  | [], k + 1, _ => by simp
  | x :: l, k + 1, h => by
    rw [List.drop_succ_cons, faultAll, if_pos (h 0 x (by omega) rfl)]
    exact faultAll_drop l k fun j y hj hy => h (j + 1) y (by omega) (by simpa using hy)
theorem faultAll_at {l : List I4} {k : Nat} {x : I4} (h : RightTo l k) (hx : l[k]? = some x) (hr : rightB x = false) : faultAll l = 1 := by
  obtain ⟨hk, e⟩ := List.getElem?_eq_some_iff.1 hx
  rw [← faultAll_drop l k h, List.drop_eq_getElem_cons hk, e, faultAll, hr]; rfl
theorem faultAll_end {l : List I4} {k : Nat} (h : RightTo l k) (hk : l.length ≤ k) : faultAll l = 0 := by
  rw [← faultAll_drop l k h, List.drop_eq_nil_of_le hk]; rfl
theorem RightTo.succ {l : List I4} {k : Nat} {x : I4} (h : RightTo l k) (hx : l[k]? = some x) (hr : rightB x = true) : RightTo l (k + 1) := fun j y hj hy => by
  rcases Nat.lt_or_ge j k with hlt | hge
  · exact h j y hlt hy
  · obtain rfl : j = k := by omega
    rw [hx] at hy; cases hy; exact hr

set_option maxRecDepth 100000 in
theorem checkAll_any (b off cap : Nat) (xs : List I4) (w : World) (hl : xs.length ≤ 1000) (hr : Rows4 w b off xs) (hb : b < w.heap.size) :
    Calls Tryz.prog 39 #[.slice (some ⟨b, off, none⟩) xs.length cap] w fun e w' => e = .returned (.int .i64 (faultAll xs)) ∧ Ext w w' := by
  go_enter Tryz.func39, Tryz.ntmps39
  go_wp2
  go_loopw [8] (fun i w' => ∃ k : Nat, k ≤ xs.length ∧ i = .int .i64 k ∧ RightTo xs k ∧ Ext w w') (fun i _ => xs.length - (intOf i).toNat)
  case atStart => exact ⟨0, Nat.zero_le _, rfl, (fun j x hj => by omega), Ext.refl _⟩
  case round =>
    obtain ⟨k, hk, rfl, hz, he⟩ := hrel
    by_cases hlt : k < xs.length
    · obtain ⟨x, hx⟩ : ∃ x, xs[k]? = some x := ⟨_, List.getElem?_eq_getElem hlt⟩
      obtain ⟨c0, c1, c2, c3⟩ := (hr.ext he hb) k x hx
      have hx := Lib.hid hx
      cases hr : rightB x
      · have hF : faultI x = 1 := by unfold faultI; rw [hr]; rfl
        go_wp2_with (go_at_call 29; refine (checkInterval_any x _).mono ?_; rintro e w1 ⟨rfl, hb1⟩)
        go_ret
        exact ⟨ret_int (faultAll_at hz hx.out hr).symm, he.trans (((Ext.refl _).alloc _).trans hb1)⟩
      · have hF : faultI x = 0 := by unfold faultI; rw [hr]; rfl
        go_wp2_with (go_at_call 29; refine (checkInterval_any x _).mono ?_; rintro e w1 ⟨rfl, hb1⟩)
        go_roundw
        case rel => exact ⟨k + 1, by omega, by go_num, hz.succ hx.out hr, he.trans (((Ext.refl _).alloc _).trans hb1)⟩
        case measure => simp [intOf]; omega
    · go_wp2
      go_ret
      exact ⟨ret_int (faultAll_end hz (by omega)).symm, he⟩


def okI (x : I4) : I4 := if rightB x then x else ⟨0, 0, 0, 0⟩
def addI (x y : I4) : I4 := ⟨wrap64 (x.a + y.a), wrap64 (x.b + y.b), wrap64 (x.c + y.c), wrap64 (x.d + y.d)⟩
def negI (x : I4) : I4 := ⟨wrap64 (-x.a), wrap64 (-x.b), wrap64 (-x.c), wrap64 (-x.d)⟩
set_option maxRecDepth 100000 in
theorem sum_any (x y : I4) (w : World) :
    Calls Tryz.prog 33 #[.agg #[.int .i64 x.a, .int .i64 x.b, .int .i64 x.c, .int .i64 x.d], .agg #[.int .i64 y.a, .int .i64 y.b, .int .i64 y.c, .int .i64 y.d]] w fun e w' =>
      e = .returned (.agg #[.int .i64 (addI x y).a, .int .i64 (addI x y).b, .int .i64 (addI x y).c, .int .i64 (addI x y).d]) ∧ Ext w w' := by
  go_enter Tryz.func33, Tryz.ntmps33
  go_wp2
  go_light
  exact bodyPost_ret (v := .agg #[.int .i64 (addI x y).a, .int .i64 (addI x y).b, .int .i64 (addI x y).c, .int .i64 (addI x y).d]) (by simp [results, Tryz.results33, go_sem, addI]) rfl ⟨rfl, (by (repeat (with_reducible first | assumption | exact Ext.refl _ | refine Ext.drew ?_ | refine Ext.alloc ?_ _ | refine Ext.setCell ?_ (by simp <;> omega) _ | refine Ext.trans ?_ (by assumption))))⟩

set_option maxRecDepth 100000 in
theorem checked_any (x : I4) (w : World) :
    Calls Tryz.prog 20 #[.agg #[.int .i64 x.a, .int .i64 x.b, .int .i64 x.c, .int .i64 x.d]] w fun e w' =>
      e = .returned (.tuple #[.agg #[.int .i64 (okI x).a, .int .i64 (okI x).b, .int .i64 (okI x).c, .int .i64 (okI x).d], .int .i64 (faultI x)]) ∧ Ext w w' := by
  cases hr : rightB x
  · have hF : faultI x = 1 := by unfold faultI; rw [hr]; rfl
    have hK : okI x = ⟨0, 0, 0, 0⟩ := by unfold okI; rw [hr]; rfl
    rw [hK]
    clear hK hr
    go_enter Tryz.func20, Tryz.ntmps20
    go_wp2_with (go_at_call 29; refine (checkInterval_any x _).mono ?_; rintro e w1 ⟨rfl, hb1⟩; obtain ⟨hc1, hf1, hz1⟩ := hb1.walk; (try simp only [World.size_alloc, World.size_setCell, World.size_drew] at hz1))
    go_light
    exact bodyPost_ret (v := .tuple #[.agg #[.int .i64 0, .int .i64 0, .int .i64 0, .int .i64 0], .int .i64 1]) (by simp [results, Tryz.results20, go_sem, *]) rfl ⟨by rw [hF], (by (repeat (with_reducible first | assumption | exact Ext.refl _ | refine Ext.drew ?_ | refine Ext.alloc ?_ _ | refine Ext.setCell ?_ (by simp <;> omega) _ | refine Ext.trans ?_ (by assumption))))⟩
  · have hF : faultI x = 0 := by unfold faultI; rw [hr]; rfl
    have hK : okI x = x := by unfold okI; rw [hr]; rfl
    rw [hK]
    clear hK hr
    go_enter Tryz.func20, Tryz.ntmps20
    go_wp2_with (go_at_call 29; refine (checkInterval_any x _).mono ?_; rintro e w1 ⟨rfl, hb1⟩; obtain ⟨hc1, hf1, hz1⟩ := hb1.walk; (try simp only [World.size_alloc, World.size_setCell, World.size_drew] at hz1))
    go_light
    exact bodyPost_ret (v := .tuple #[.agg #[.int .i64 x.a, .int .i64 x.b, .int .i64 x.c, .int .i64 x.d], .int .i64 0]) (by simp [results, Tryz.results20, go_sem, *]) rfl ⟨by rw [hF], (by (repeat (with_reducible first | assumption | exact Ext.refl _ | refine Ext.drew ?_ | refine Ext.alloc ?_ _ | refine Ext.setCell ?_ (by simp <;> omega) _ | refine Ext.trans ?_ (by assumption))))⟩

end Go.Proofs.YtapjekpjekdlkaaGreatDoor
