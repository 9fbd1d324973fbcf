/- Intervals: what is wrong with one, sums and differences, by both texts. Conditions: none. Intervals: sums and differences, by both texts. Conditions: none. -/
import Derived.Test.YtfmkmnnmckbljaaGreatDoorScJ1
import Derived.Deep.Light
namespace Go.Proofs.YtfmkmnnmckbljaaGreatDoor
open Go Go.RowKit

structure I4 where
  a : Int
  b : Int
  c : Int
  d : Int
theorem I4.eq {x y : I4} (ha : x.a = y.a) (hb : x.b = y.b) (hc : x.c = y.c) (hd : x.d = y.d) : x = y := by
  cases x; cases y; simp only at ha hb hc hd; rw [ha, hb, hc, hd]

def rightB (x : I4) : Bool := inB x.a (-24) 24 && inB x.b (-10) 10 && inB x.c (-5) 5 && inB x.d (-3) 3
def faultI (x : I4) : Int := if rightB x then 0 else 1

theorem fault_or (x : I4) : orF [spanF x.a (-24) 24, spanF x.b (-10) 10, spanF x.c (-5) 5, spanF x.d (-3) 3] = faultI x := by
  unfold faultI rightB spanF
  cases inB x.a (-24) 24 <;> cases inB x.b (-10) 10 <;> cases inB x.c (-5) 5 <;> cases inB x.d (-3) 3 <;> rfl

theorem fault_out (x : I4) : faultI x = if (outB x.a (-24) 24 || outB x.b (-10) 10 || outB x.c (-5) 5 || outB x.d (-3) 3) then 1 else 0 := by
  unfold faultI rightB
  simp only [outB_inB]
  cases inB x.a (-24) 24 <;> cases inB x.b (-10) 10 <;> cases inB x.c (-5) 5 <;> cases inB x.d (-3) 3 <;> rfl

/-- A row of intervals in memory: 'n' of them from 'off' on. -/
def Rows4 (w : World) (b off : Nat) (xs : List I4) : Prop :=
  ∀ i x, xs[i]? = some x → w.cell? ⟨b, off + i * 4, none⟩ = some (.int .i64 x.a) ∧ w.cell? ⟨b, off + i * 4 + 1, none⟩ = some (.int .i64 x.b) ∧ w.cell? ⟨b, off + i * 4 + 2, none⟩ = some (.int .i64 x.c) ∧ w.cell? ⟨b, off + i * 4 + 3, none⟩ = some (.int .i64 x.d)
theorem Rows4.ext {w w' : World} {b off : Nat} {xs : List I4} (h : Rows4 w b off xs) (he : Ext w w') (hb : b < w.heap.size) : Rows4 w' b off xs := fun i x hx => by
  obtain ⟨h1, h2, h3, h4⟩ := h i x hx
  obtain ⟨hc, _, _⟩ := he.walk
  exact ⟨(hc _ _ hb).trans h1, (hc _ _ hb).trans h2, (hc _ _ hb).trans h3, (hc _ _ hb).trans h4⟩

def faultAll : List I4 → Int
  | [] => 0
  | x :: l => if rightB x then faultAll l else 1
def RightTo (l : List I4) (k : Nat) : Prop := ∀ j x, j < k → l[j]? = some x → rightB x = true
theorem faultAll_drop : ∀ (l : List I4) (k : Nat), RightTo l k → faultAll (l.drop k) = faultAll l
  | l, 0, _ => by simp
  | [], k + 1, _ => by simp
  | x :: l, k + 1, h => by
    rw [List.drop_succ_cons, faultAll, if_pos (h 0 x (by omega) rfl)]
    exact faultAll_drop l k fun j y hj hy => h (j + 1) y (by omega) (by simpa using hy)
theorem faultAll_at {l : List I4} {k : Nat} {x : I4} (h : RightTo l k) (hx : l[k]? = some x) (hr : rightB x = false) : faultAll l = 1 := by
  obtain ⟨hk, e⟩ := List.getElem?_eq_some_iff.1 hx
  rw [← faultAll_drop l k h, List.drop_eq_getElem_cons hk, e, faultAll, hr]; rfl
theorem faultAll_end {l : List I4} {k : Nat} (h : RightTo l k) (hk : l.length ≤ k) : faultAll l = 0 := by
  rw [← faultAll_drop l k h, List.drop_eq_nil_of_le hk]; rfl
theorem RightTo.succ {l : List I4} {k : Nat} {x : I4} (h : RightTo l k) (hx : l[k]? = some x) (hr : rightB x = true) : RightTo l (k + 1) := fun j y hj hy => by
  rcases Nat.lt_or_ge j k with hlt | hge
  · exact h j y hlt hy
  · obtain rfl : j = k := by omega
    rw [hx] at hy; cases hy; exact hr

def okI (x : I4) : I4 := if rightB x then x else ⟨0, 0, 0, 0⟩
def addI (x y : I4) : I4 := ⟨wrap64 (x.a + y.a), wrap64 (x.b + y.b), wrap64 (x.c + y.c), wrap64 (x.d + y.d)⟩
def negI (x : I4) : I4 := ⟨wrap64 (-x.a), wrap64 (-x.b), wrap64 (-x.c), wrap64 (-x.d)⟩
def plusI (x y : I4) (by_ : Int) : I4 := ⟨wrap64 (x.a + wrap64 (by_ * y.a)), wrap64 (x.b + wrap64 (by_ * y.b)), wrap64 (x.c + wrap64 (by_ * y.c)), wrap64 (x.d + wrap64 (by_ * y.d))⟩

end Go.Proofs.YtfmkmnnmckbljaaGreatDoor

namespace Go.Proofs.YtfmkmnnmckbljaaGreatDoor
open Go Go.RowKit

theorem rows4_two {w : World} {g : Nat} {t : TypeId} {x y : I4} (h : Blk w g t #[.int .i64 x.a, .int .i64 x.b, .int .i64 x.c, .int .i64 x.d, .int .i64 y.a, .int .i64 y.b, .int .i64 y.c, .int .i64 y.d]) : Rows4 w g 0 [x, y] := by
  intro i z hz
  match i, hz with
  | 0, hz => simp at hz; subst hz; simp [h.cell]
  | 1, hz => simp at hz; subst hz; simp [h.cell]

def bothB (x y : I4) : Bool := rightB x && rightB y
theorem faultAll_two (x y : I4) : faultAll [x, y] = if bothB x y then 0 else 1 := by
  unfold faultAll faultAll faultAll bothB
  cases rightB x <;> cases rightB y <;> rfl
def zeroI : I4 := ⟨0, 0, 0, 0⟩
def sumR (x y : I4) : I4 := if bothB x y then okI (addI x y) else zeroI
def sumE (x y : I4) : Int := if bothB x y then faultI (addI x y) else 1
def difR (x y : I4) : I4 := if bothB x y then okI (addI x (negI y)) else zeroI
def difE (x y : I4) : Int := if bothB x y then faultI (addI x (negI y)) else 1



end Go.Proofs.YtfmkmnnmckbljaaGreatDoor
