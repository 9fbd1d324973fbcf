/- A cell of an element that is set, in a row of elements. Conditions: as each theorem says. -/
import Derived.Test.YtboplnogfjmpnaaGreatDoorVbApp
import Derived.Deep.AppendLies
set_option linter.unusedSimpArgs false
set_option linter.unusedVariables false
namespace Go.Proofs.YtboplnogfjmpnaaGreatDoor
open Go Go.RowKit

theorem flat_split {α : Type} {k : Nat} {enc : α → List Value} (hk : ∀ x, (enc x).length = k) {xs : List α} {i : Nat} {x : α} (h : xs[i]? = some x) :
    ∃ pre post, pre.length = i * k ∧ xs.flatMap enc = pre ++ (enc x ++ post) ∧ ∀ y, (xs.set i y).flatMap enc = pre ++ (enc y ++ post) := by
  obtain ⟨hi, e⟩ := List.getElem?_eq_some_iff.1 h
  have hl : ∀ (l : List α), (l.flatMap enc).length = l.length * k := by
    intro l
    induction l with
    | nil => simp
    | cons y ys ih => rw [List.flatMap_cons, List.length_append, ih, hk, List.length_cons, Nat.add_mul]; omega
  refine ⟨(xs.take i).flatMap enc, (xs.drop (i + 1)).flatMap enc, ?_, ?_, fun y => ?_⟩
  · rw [hl, List.length_take, Nat.min_eq_left (by omega)]
  · have e1 : xs = xs.take i ++ (x :: xs.drop (i + 1)) := by
      rw [← e, ← List.drop_eq_getElem_cons hi, List.take_append_drop]
    have e2 := congrArg (List.flatMap enc) e1
    rw [List.flatMap_append, List.flatMap_cons] at e2
    exact e2
  · rw [List.set_eq_take_append_cons_drop, if_pos hi, List.flatMap_append, List.flatMap_cons]

theorem set_mid (pre mid post : List Value) (j : Nat) (hj : j < mid.length) (v : Value) : (pre ++ (mid ++ post)).set (pre.length + j) v = pre ++ (mid.set j v ++ post) := by
  rw [List.set_append_right _ _ (by omega), Nat.add_sub_cancel_left, List.set_append_left _ _ hj]

/-- One cell of the i-th element. -/
theorem flat_set1 {α : Type} {k : Nat} {enc : α → List Value} (hk : ∀ x, (enc x).length = k) {xs : List α} {i : Nat} {x y : α} (h : xs[i]? = some x) (j : Nat) (hj : j < k) (v : Value) (he : enc y = (enc x).set j v) :
    (xs.flatMap enc).set (i * k + j) v = (xs.set i y).flatMap enc := by
  obtain ⟨pre, post, h1, h2, h3⟩ := flat_split hk h
  rw [h2, h3, he, ← h1]
  exact set_mid _ _ _ j (by rw [hk]; exact hj) v

/-- A row of the call's own, a cell of the i-th element set. -/
theorem own_set1 {α : Type} {k : Nat} {enc : α → List Value} (hk : ∀ x, (enc x).length = k) {w : World} {base : Nat} {e : TypeId} {g n cap : Nat} {xs : List α} (h : w.ownsRow base e k (.slice (some ⟨g, 0, none⟩) n cap) n (xs.flatMap enc))
    {i : Nat} {x : α} (y : α) (hx : xs[i]? = some x) (j : Nat) (hj : j < k) (v : Value) (he : enc y = (enc x).set j v) : (w.setCell ⟨g, i * k + j, none⟩ v).ownsRow base e k (.slice (some ⟨g, 0, none⟩) n cap) n ((xs.set i y).flatMap enc) := by
  rw [← flat_set1 hk hx j hj v he]
  exact (h.stored (i * k + j) v).1
theorem own_cell {α : Type} {k : Nat} {enc : α → List Value} (hk : ∀ x, (enc x).length = k) {w : World} {base : Nat} {e : TypeId} {g n cap : Nat} {xs : List α} (h : w.ownsRow base e k (.slice (some ⟨g, 0, none⟩) n cap) n (xs.flatMap enc))
    {i : Nat} {x : α} (hx : xs[i]? = some x) (j : Nat) {v : Value} (hv : (enc x)[j]? = some v) (hl : i < n) : w.cell? ⟨g, i * k + j, none⟩ = some v := by
  have hj : j < k := by rw [← hk x]; exact (List.getElem?_eq_some_iff.1 hv).1
  refine (h.cellAt (i * k + j) ?_).trans (flat_at hk xs i x hx j v hv)
  have : (i + 1) * k ≤ n * k := Nat.mul_le_mul_right _ hl
  rw [Nat.add_mul] at this
  omega
/-- A slice with its capacity. -/
def Slc {α : Type} (k : Nat) (enc : α → List Value) (w : World) (p : Option Addr) (n c : Nat) (xs : List α) : Prop :=
  Sl k enc w p n xs ∧ n ≤ c ∧ (p = none → n = 0) ∧ ∀ a, p = some a → ∃ b off, a = ⟨b, off, none⟩ ∧ b < w.heap.size
theorem Slc.ext {α : Type} {k : Nat} {enc : α → List Value} {w w' : World} {p : Option Addr} {n c : Nat} {xs : List α} (h : Slc k enc w p n c xs) (he : Ext w w') : Slc k enc w' p n c xs :=
  ⟨h.1.ext he, h.2.1, h.2.2.1, fun a ha => let ⟨b, off, e, hb⟩ := h.2.2.2 a ha; ⟨b, off, e, Nat.lt_of_lt_of_le hb he.size⟩⟩
theorem Slc.nil {α : Type} (k : Nat) (enc : α → List Value) (w : World) : Slc k enc w none 0 0 [] := ⟨⟨rfl, by decide, fun h => absurd rfl h⟩, Nat.le_refl _, fun _ => rfl, fun a ha => by cases ha⟩
theorem slc_of_own {α : Type} {k : Nat} {enc : α → List Value} (hk : ∀ x, (enc x).length = k) {w : World} {base : Nat} {e : TypeId} {v : Value} {n : Nat} {xs : List α} (h : w.ownsRow base e k v n (xs.flatMap enc)) (hk0 : 0 < k) (hn : n ≤ 1000000000) :
    ∃ p c, v = .slice p n c ∧ Slc k enc w p n c xs := by
  obtain ⟨p, c, rfl, hS, _⟩ := sl_of_own hk h hk0 hn
  refine ⟨p, c, rfl, hS, ?_⟩
  rcases h.2 with ⟨h1, rfl⟩ | ⟨g, cap, cur, h1, _, hg, hnc, _⟩
  · cases h1
    exact ⟨Nat.zero_le _, fun _ => rfl, fun a ha => by cases ha⟩
  · cases h1
    exact ⟨hnc, fun h => by (cases h), fun a ha => by cases ha; exact ⟨g, 0, rfl, (Array.getElem?_eq_some_iff.1 hg).1⟩⟩
end Go.Proofs.YtboplnogfjmpnaaGreatDoor
