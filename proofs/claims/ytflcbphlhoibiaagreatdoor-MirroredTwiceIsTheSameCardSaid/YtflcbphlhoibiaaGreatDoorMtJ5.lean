/- Intervals: what is wrong with one, sums and differences, by both texts. Conditions: none. Intervals: sums and differences, by both texts. Conditions: none. The greatest common divisor, how often a prime is in a number, by both texts. Conditions: as each theorem says. The comfort of a part for a range, by voice. Conditions: none. -/
import Derived.Test.YtflcbphlhoibiaaGreatDoorMtJ1
import Derived.Deep.Light
import Derived.Outline
set_option linter.unusedSimpArgs false
set_option linter.unusedVariables false
namespace Go.Proofs.YtflcbphlhoibiaaGreatDoor
open Go Go.RowKit

structure I4 where
  a : Int
  b : Int
  c : Int
  d : Int
theorem I4.eq {x y : I4} (ha : x.a = y.a) (hb : x.b = y.b) (hc : x.c = y.c) (hd : x.d = y.d) : x = y := by
  cases x; cases y; simp only at ha hb hc hd; rw [ha, hb, hc, hd]

def rightB (x : I4) : Bool := inB x.a (-24) 24 && inB x.b (-10) 10 && inB x.c (-5) 5 && inB x.d (-3) 3
def faultI (x : I4) : Int := if rightB x then 0 else 1

theorem fault_or (x : I4) : orF [spanF x.a (-24) 24, spanF x.b (-10) 10, spanF x.c (-5) 5, spanF x.d (-3) 3] = faultI x := by
  unfold faultI rightB spanF
  cases inB x.a (-24) 24 <;> cases inB x.b (-10) 10 <;> cases inB x.c (-5) 5 <;> cases inB x.d (-3) 3 <;> rfl

theorem fault_out (x : I4) : faultI x = if (outB x.a (-24) 24 || outB x.b (-10) 10 || outB x.c (-5) 5 || outB x.d (-3) 3) then 1 else 0 := by
  unfold faultI rightB
  simp only [outB_inB]
  cases inB x.a (-24) 24 <;> cases inB x.b (-10) 10 <;> cases inB x.c (-5) 5 <;> cases inB x.d (-3) 3 <;> rfl

/-- A row of intervals in memory: 'n' of them from 'off' on. -/
def Rows4 (w : World) (b off : Nat) (xs : List I4) : Prop :=
  ∀ i x, xs[i]? = some x → w.cell? ⟨b, off + i * 4, none⟩ = some (.int .i64 x.a) ∧ w.cell? ⟨b, off + i * 4 + 1, none⟩ = some (.int .i64 x.b) ∧ w.cell? ⟨b, off + i * 4 + 2, none⟩ = some (.int .i64 x.c) ∧ w.cell? ⟨b, off + i * 4 + 3, none⟩ = some (.int .i64 x.d)
theorem Rows4.ext {w w' : World} {b off : Nat} {xs : List I4} (h : Rows4 w b off xs) (he : Ext w w') (hb : b < w.heap.size) : Rows4 w' b off xs := fun i x hx => by
  obtain ⟨h1, h2, h3, h4⟩ := h i x hx
  obtain ⟨hc, _, _⟩ := he.walk
  exact ⟨(hc _ _ hb).trans h1, (hc _ _ hb).trans h2, (hc _ _ hb).trans h3, (hc _ _ hb).trans h4⟩

def faultAll : List I4 → Int
  | [] => 0
  | x :: l => if rightB x then faultAll l else 1
def RightTo (l : List I4) (k : Nat) : Prop := ∀ j x, j < k → l[j]? = some x → rightB x = true
theorem faultAll_drop : ∀ (l : List I4) (k : Nat), RightTo l k → faultAll (l.drop k) = faultAll l
  | l, 0, _ => by simp
  | [], k + 1, _ => by simp
  | x :: l, k + 1, h => by
    rw [List.drop_succ_cons, faultAll, if_pos (h 0 x (by omega) rfl)]
    exact faultAll_drop l k fun j y hj hy => h (j + 1) y (by omega) (by simpa using hy)
theorem faultAll_at {l : List I4} {k : Nat} {x : I4} (h : RightTo l k) (hx : l[k]? = some x) (hr : rightB x = false) : faultAll l = 1 := by
  obtain ⟨hk, e⟩ := List.getElem?_eq_some_iff.1 hx
  rw [← faultAll_drop l k h, List.drop_eq_getElem_cons hk, e, faultAll, hr]; rfl
theorem faultAll_end {l : List I4} {k : Nat} (h : RightTo l k) (hk : l.length ≤ k) : faultAll l = 0 := by
  rw [← faultAll_drop l k h, List.drop_eq_nil_of_le hk]; rfl
theorem RightTo.succ {l : List I4} {k : Nat} {x : I4} (h : RightTo l k) (hx : l[k]? = some x) (hr : rightB x = true) : RightTo l (k + 1) := fun j y hj hy => by
  rcases Nat.lt_or_ge j k with hlt | hge
  · exact h j y hlt hy
  · obtain rfl : j = k := by omega
    rw [hx] at hy; cases hy; exact hr

def okI (x : I4) : I4 := if rightB x then x else ⟨0, 0, 0, 0⟩
def addI (x y : I4) : I4 := ⟨wrap64 (x.a + y.a), wrap64 (x.b + y.b), wrap64 (x.c + y.c), wrap64 (x.d + y.d)⟩
def negI (x : I4) : I4 := ⟨wrap64 (-x.a), wrap64 (-x.b), wrap64 (-x.c), wrap64 (-x.d)⟩
def plusI (x y : I4) (by_ : Int) : I4 := ⟨wrap64 (x.a + wrap64 (by_ * y.a)), wrap64 (x.b + wrap64 (by_ * y.b)), wrap64 (x.c + wrap64 (by_ * y.c)), wrap64 (x.d + wrap64 (by_ * y.d))⟩

end Go.Proofs.YtflcbphlhoibiaaGreatDoor

namespace Go.Proofs.YtflcbphlhoibiaaGreatDoor
open Go Go.RowKit

theorem rows4_two {w : World} {g : Nat} {t : TypeId} {x y : I4} (h : Blk w g t #[.int .i64 x.a, .int .i64 x.b, .int .i64 x.c, .int .i64 x.d, .int .i64 y.a, .int .i64 y.b, .int .i64 y.c, .int .i64 y.d]) : Rows4 w g 0 [x, y] := by
  intro i z hz
  match i, hz with
  | 0, hz => simp at hz; subst hz; simp [h.cell]
  | 1, hz => simp at hz; subst hz; simp [h.cell]

def bothB (x y : I4) : Bool := rightB x && rightB y
theorem faultAll_two (x y : I4) : faultAll [x, y] = if bothB x y then 0 else 1 := by
  unfold faultAll faultAll faultAll bothB
  cases rightB x <;> cases rightB y <;> rfl
def zeroI : I4 := ⟨0, 0, 0, 0⟩
def sumR (x y : I4) : I4 := if bothB x y then okI (addI x y) else zeroI
def sumE (x y : I4) : Int := if bothB x y then faultI (addI x y) else 1
def difR (x y : I4) : I4 := if bothB x y then okI (addI x (negI y)) else zeroI
def difE (x y : I4) : Int := if bothB x y then faultI (addI x (negI y)) else 1



end Go.Proofs.YtflcbphlhoibiaaGreatDoor

namespace Go.Proofs.YtflcbphlhoibiaaGreatDoor
open Go Go.RowKit

theorem val_tmod {k : IntKind} (x y : Nat) : Value.int k ((x : Int).tmod y) = .int k ((x % y : Nat) : Int) := by rw [Int.ofNat_tmod]
theorem val_tdiv {k : IntKind} (x y : Nat) : Value.int k ((x : Int).tdiv y) = .int k ((x / y : Nat) : Int) := by rw [Int.ofNat_tdiv]
theorem gcd_step (x y G : Nat) (h : Nat.gcd x y = G) : Nat.gcd y (x % y) = G := by rw [← h, Nat.gcd_comm x y, Nat.gcd_rec y x, Nat.gcd_comm]

theorem wrap_div (a x : Nat) (ha : a ≤ 9223372036854775807) : IntKind.i64.wrap ((a : Int) / (x : Int)) = ((a / x : Nat) : Int) := by
  have h : a / x ≤ a := Nat.div_le_self _ _
  rw [← Int.natCast_ediv]
  generalize a / x = q at *
  exact IntWalk.i64_in _ (by omega)

end Go.Proofs.YtflcbphlhoibiaaGreatDoor

namespace Go.Proofs.YtflcbphlhoibiaaGreatDoor
open Go Go.RowKit

def rightR (lo hi : Int) : Bool := !outB lo 0 hi && decide (hi ≤ 127)
def comfN (a b c d : Int) : Int := min (c - a) (b - d)

set_option maxRecDepth 100000 in
theorem isRight_any (lo hi : Int) (w : World) :
    Calls Tryz.prog 75 #[.agg #[.int .i64 lo, .int .i64 hi]] w fun e w' => e = .returned (.bool (rightR lo hi)) ∧ Ext w w' := by
  have hR : rightR lo hi = (!outB lo 0 hi && decide (hi ≤ 127)) := rfl
  replace hR := Lib.hid hR
  cases ho : outB lo 0 hi
  all_goals
    go_enter Tryz.func75, Tryz.ntmps75
    go_wp2_with (go_at_call 57; refine (outside_any _ _ _ _).mono ?_; rintro e w' ⟨rfl, rfl⟩)
    go_ret
    exact ⟨ret_bool (by rw [hR.out]; simp [*]), by (repeat (with_reducible first | assumption | exact Ext.refl _ | refine Ext.drew ?_ | refine Ext.alloc ?_ _ | refine Ext.setCell ?_ (by simp <;> omega) _ | refine Ext.trans ?_ (by assumption)))⟩

theorem right_b {lo hi : Int} (h : rightR lo hi = true) : 0 ≤ lo ∧ lo ≤ hi ∧ hi ≤ 127 := by
  unfold rightR outB at h
  simp at h
  omega

set_option maxRecDepth 100000 in
theorem comfort_any (a b c d : Int) (w : World) (h1 : rightR a b = true) (h2 : rightR c d = true) :
    Calls Tryz.prog 76 #[.agg #[.int .i64 a, .int .i64 b], .agg #[.int .i64 c, .int .i64 d]] w fun e w' => e = .returned (.int .i64 (comfN a b c d)) ∧ Ext w w' := by
  have b1 := right_b h1
  have b2 := right_b h2
  have hC : comfN a b c d = min (c - a) (b - d) := rfl
  replace hC := Lib.hid hC
  go_enter Tryz.func76, Tryz.ntmps76
  go_wp2
  all_goals
    go_ret
    exact ⟨ret_int (by rw [hC.out]; first | rfl | omega), by (repeat (with_reducible first | assumption | exact Ext.refl _ | refine Ext.drew ?_ | refine Ext.alloc ?_ _ | refine Ext.setCell ?_ (by simp <;> omega) _ | refine Ext.trans ?_ (by assumption)))⟩

set_option maxRecDepth 100000 in
theorem Comfort_any (a b c d : Int) (w : World) :
    Calls Tryz.prog 51 #[.agg #[.int .i64 a, .int .i64 b], .agg #[.int .i64 c, .int .i64 d]] w fun e w' =>
      e = .returned (if rightR a b && rightR c d then .tuple #[.int .i64 (max (comfN a b c d) 0), .bool (decide (0 ≤ comfN a b c d)), .int .i64 0] else .tuple #[.int .i64 0, .bool false, .int .i64 1]) ∧ Ext w w' := by
  cases h1 : rightR a b
  case' true => cases h2 : rightR c d
  case true.true =>
    have b1 := right_b h1
    have b2 := right_b h2
    have hC : comfN a b c d = min (c - a) (b - d) := rfl
    have hb : -1000 ≤ comfN a b c d ∧ comfN a b c d ≤ 1000 := by rw [hC]; omega
    clear hC
    have hc := comfort_any a b c d
    generalize comfN a b c d = n at hb hc ⊢
    have hm : max n 0 = if n < 0 then 0 else n := by split <;> omega
    replace hm := Lib.hid hm
    replace hc := Lib.hid hc
    simp only [Bool.and_self, if_true]
    go_enter Tryz.func51, Tryz.ntmps51
    go_wp2_with (first
      | (go_at_call 75; with_reducible refine Calls.mono (isRight_any a b _) ?_; rintro e w1 ⟨rfl, hb1⟩; obtain ⟨hc1, hf1, hz1⟩ := hb1.walk; (try simp only [World.size_alloc] at hz1); have lt1 : w.heap.size < w1.heap.size := (by omega); have lt2 : w.heap.size + 1 < w1.heap.size := (by omega))
      | (go_at_call 75; with_reducible refine Calls.mono (isRight_any c d _) ?_; rintro e w2 ⟨rfl, hb2⟩; obtain ⟨hc2, hf2, hz2⟩ := hb2.walk; (try simp only [World.size_alloc] at hz2))
      | (go_at_call 76; with_reducible refine Calls.mono (hc.out _ h1 h2) ?_; rintro e w3 ⟨rfl, hb3⟩))
    all_goals
      go_ret3
      refine ⟨?_, by (repeat (with_reducible first | assumption | exact Ext.refl _ | refine Ext.drew ?_ | refine Ext.alloc ?_ _ | refine Ext.setCell ?_ (by simp <;> omega) _ | refine Ext.trans ?_ (by assumption)))⟩
      have e1 : ∀ (x y : Int) (p q : Bool), x = y → p = q → Ending.returned (.tuple #[.int .i64 x, .bool p, .int .i64 0]) = .returned (.tuple #[.int .i64 y, .bool q, .int .i64 0]) := fun _ _ _ _ h h' => by rw [h, h']
      exact e1 _ _ _ _ (by rw [hm.out]; split <;> omega) (by simp <;> omega)
  all_goals
    simp only [Bool.and_false, Bool.false_and, Bool.and_self, Bool.false_eq_true, if_false, if_true]
    go_enter Tryz.func51, Tryz.ntmps51
    go_wp2_with (first
      | (go_at_call 75; with_reducible refine Calls.mono (isRight_any a b _) ?_; rintro e w1 ⟨rfl, hb1⟩; obtain ⟨hc1, hf1, hz1⟩ := hb1.walk; (try simp only [World.size_alloc] at hz1); have lt1 : w.heap.size < w1.heap.size := (by omega); have lt2 : w.heap.size + 1 < w1.heap.size := (by omega))
      | (go_at_call 75; with_reducible refine Calls.mono (isRight_any c d _) ?_; rintro e w2 ⟨rfl, hb2⟩; obtain ⟨hc2, hf2, hz2⟩ := hb2.walk; (try simp only [World.size_alloc] at hz2)))
    go_ret3
    exact ⟨rfl, by (repeat (with_reducible first | assumption | exact Ext.refl _ | refine Ext.drew ?_ | refine Ext.alloc ?_ _ | refine Ext.setCell ?_ (by simp <;> omega) _ | refine Ext.trans ?_ (by assumption)))⟩
end Go.Proofs.YtflcbphlhoibiaaGreatDoor
