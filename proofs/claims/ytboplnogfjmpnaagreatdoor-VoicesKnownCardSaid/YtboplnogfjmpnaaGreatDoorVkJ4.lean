/- Slices in memory; the first error of a scan. Conditions: none. Maps of bools that the call made. Conditions: none. -/
import Derived.Test.YtboplnogfjmpnaaGreatDoorVkJ2
import Derived.Maps.OwnOps
set_option linter.unusedSimpArgs false
set_option linter.unusedVariables false
namespace Go.Proofs.YtboplnogfjmpnaaGreatDoor
open Go Go.RowKit

/-- Elements of k cells each, from a place on. -/
def Elems {α : Type} (k : Nat) (enc : α → List Value) (w : World) (b off : Nat) (xs : List α) : Prop :=
  ∀ i x, xs[i]? = some x → ∀ j v, (enc x)[j]? = some v → w.cell? ⟨b, off + i * k + j, none⟩ = some v
theorem Elems.ext {α : Type} {k : Nat} {enc : α → List Value} {w w' : World} {b off : Nat} {xs : List α} (h : Elems k enc w b off xs) (he : Ext w w') (hb : b < w.heap.size) : Elems k enc w' b off xs := fun i x hx j v hv => by
  obtain ⟨hc, _, _⟩ := he.walk
  exact (hc _ _ hb).trans (h i x hx j v hv)
/-- A slice of n elements. -/
def Sl {α : Type} (k : Nat) (enc : α → List Value) (w : World) (p : Option Addr) (n : Nat) (xs : List α) : Prop :=
  xs.length = n ∧ n ≤ 1000000000 ∧ (n ≠ 0 → ∃ b off, p = some ⟨b, off, none⟩ ∧ b < w.heap.size ∧ Elems k enc w b off xs)
theorem Sl.ext {α : Type} {k : Nat} {enc : α → List Value} {w w' : World} {p : Option Addr} {n : Nat} {xs : List α} (h : Sl k enc w p n xs) (he : Ext w w') : Sl k enc w' p n xs :=
  ⟨h.1, h.2.1, fun hn => let ⟨b, off, hp, hb, hE⟩ := h.2.2 hn; ⟨b, off, hp, Nat.lt_of_lt_of_le hb he.size, hE.ext he hb⟩⟩

def strC (s : ByteArray) : List Value := [.string s]
theorem Elems.str {w : World} {b off : Nat} {xs : List ByteArray} (h : Elems 1 strC w b off xs) {i : Nat} {s : ByteArray} (hs : xs[i]? = some s) : w.cell? ⟨b, off + i, none⟩ = some (.string s) := by
  have := h i s hs 0 (.string s) rfl
  simpa using this

/-- The first number of a scan that is not 0. -/
def scanF (n : Nat) (f : Nat → Int) : Int := orF ((List.range n).map f)
def Zeros (f : Nat → Int) (k : Nat) : Prop := ∀ j, j < k → f j = 0
theorem Zeros.zeroTo {f : Nat → Int} {k n : Nat} (h : Zeros f k) (hk : k ≤ n) : ZeroTo ((List.range n).map f) k := fun j hj => by
  rw [List.getD_eq_getElem?_getD, List.getElem?_map, List.getElem?_range (by omega)]
  exact h j hj
theorem scan_at {n : Nat} {f : Nat → Int} (k : Nat) (hk : k < n) (h : Zeros f k) (hx : f k ≠ 0) : scanF n f = f k := by
  have e : ((List.range n).map f).getD k 0 = f k := by rw [List.getD_eq_getElem?_getD, List.getElem?_map, List.getElem?_range hk]; rfl
  rw [← e] at hx ⊢
  exact orF_at _ k (by simpa using hk) (h.zeroTo (by omega)) hx
theorem scan_zero {n : Nat} {f : Nat → Int} (h : Zeros f n) : scanF n f = 0 := orF_zero _ n (by simp) (h.zeroTo (Nat.le_refl _))
theorem Zeros.succ {f : Nat → Int} {k : Nat} (h : Zeros f k) (hx : f k = 0) : Zeros f (k + 1) := fun j hj => by
  rcases Nat.lt_or_ge j k with hlt | hge
  · exact h j hlt
  · obtain rfl : j = k := by omega
    exact hx
theorem scan_is {n k : Nat} {f : Nat → Int} {v : Int} (hz : Zeros f k) (hk : k < n) (hv : f k = v) (h0 : v ≠ 0) : v = scanF n f := by
  rw [scan_at k hk hz (by rw [hv]; exact h0), hv]
def atL {α : Type} (d : α) (xs : List α) (i : Nat) : α := xs.getD i d
theorem atL_of {α : Type} {d : α} {xs : List α} {i : Nat} {x : α} (h : xs[i]? = some x) : atL d xs i = x := by unfold atL; rw [List.getD_eq_getElem?_getD, h]; rfl
theorem getD_some {α : Type} {xs : List α} {i n : Nat} (h : xs.length = n) (hi : i < n) : ∃ x, xs[i]? = some x := ⟨_, List.getElem?_eq_getElem (by omega)⟩
end Go.Proofs.YtboplnogfjmpnaaGreatDoor

namespace Go.Proofs.YtboplnogfjmpnaaGreatDoor
open Go Go.RowKit Go.Maps

theorem Ext.grown {a b c : World} (h : Ext a b) {row : Option Nat} (hg : b.grownBy c row) (hr : ∀ k, row = some k → a.heap.size ≤ k) : Ext a c := Below.grown h hg h.size hr
end Go.Proofs.YtboplnogfjmpnaaGreatDoor
