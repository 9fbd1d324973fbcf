/- A row of elements of several cells, behind a sort. Conditions: as each theorem says. Appending a slice to a row of the call's own; cutting slices. Conditions: as each theorem says. -/
import Derived.Test.YtfbegdcmnfkhgaaGreatDoorBtJ25
import Derived.Test.YtfbegdcmnfkhgaaGreatDoorBtJ23
import Derived.Test.YtfbegdcmnfkhgaaGreatDoorBtJ3
import Derived.Shelf.SlSortCmp.WholeK
import Derived.Test.YtfbegdcmnfkhgaaGreatDoorBtStC
set_option linter.unusedSimpArgs false
set_option linter.unusedVariables false
namespace Go.Proofs.YtfbegdcmnfkhgaaGreatDoor
open Go Go.RowKit Go.Sort

theorem flat_lenK {α : Type} {k : Nat} {enc : α → List Value} (hk : ∀ x, (enc x).length = k) : ∀ (xs : List α), (xs.flatMap enc).length = xs.length * k
  | [] => by simp
  | x :: l => by rw [List.flatMap_cons, List.length_append, flat_lenK hk l, hk, List.length_cons, Nat.add_mul]; omega
theorem flat_get {α : Type} [Inhabited α] {k : Nat} {enc : α → List Value} (hk : ∀ x, (enc x).length = k) (xs : List α) {t : Nat} (ht : t < xs.length * k) : (xs.flatMap enc)[t]? = some (flatK enc k xs.toArray)[t]! := by
  have hk0 : 0 < k := by rcases Nat.eq_zero_or_pos k with h | h; (subst h; simp at ht); exact h
  rw [get_flatK enc k xs.toArray t (by simpa using ht)]
  have hi : t / k < xs.length := (Nat.div_lt_iff_lt_mul hk0).2 ht
  have hj : t % k < k := Nat.mod_lt _ hk0
  have hx : xs[t / k]? = some xs[t / k] := List.getElem?_eq_getElem hi
  have hjl : t % k < (enc xs[t / k]).length := by rw [hk]; exact hj
  have hu : (enc xs[t / k])[t % k]? = some (enc xs[t / k])[t % k] := List.getElem?_eq_getElem hjl
  have h1 := flat_at hk xs (t / k) _ hx (t % k) _ hu
  rw [Nat.div_add_mod' t k] at h1
  rw [h1]
  congr 1
  have e1 : xs.toArray[t / k]! = xs[t / k] := by simp [getElem!_pos, hi]
  rw [e1, getElem!_pos (enc xs[t / k]) (t % k) hjl]
theorem holdsK_own {α : Type} [Inhabited α] {k : Nat} {enc : α → List Value} (hk : ∀ x, (enc x).length = k) {w : World} {base : Nat} {e : TypeId} {g n cap : Nat} {xs : List α} (h : w.ownsRow base e k (.slice (some ⟨g, 0, none⟩) n cap) n (xs.flatMap enc)) : HoldsK enc k w g 0 xs.toArray := by
  intro j hj
  have hj' : j < xs.length * k := by simpa using hj
  have hn : xs.length * k = n * k := by have := h.1; rw [flat_lenK hk] at this; exact this
  refine ⟨?_, h.frozenAt _⟩
  rw [Nat.zero_add]
  exact (h.cellAt j (by omega)).trans (flat_get hk xs hj')
theorem own_sortK {α : Type} [Inhabited α] {k : Nat} {enc : α → List Value} (hk : ∀ x, (enc x).length = k) {w : World} {base : Nat} {e : TypeId} {g n cap m : Nat} {os : Array Obj} {xs ys : List α} (h : w.ownsRow base e k (.slice (some ⟨g, 0, none⟩) n cap) n (xs.flatMap enc)) (hy : ys.length = xs.length) :
    (sortWorldK enc k w g 0 m ys.toArray os).ownsRow base e k (.slice (some ⟨g, 0, none⟩) n cap) n (ys.flatMap enc) := by
  have hl := h.1
  rw [flat_lenK hk] at hl
  refine ⟨by rw [flat_lenK hk, hy, hl], ?_⟩
  rcases h.2 with ⟨h1, -⟩ | ⟨g', cap', cur, h1, hb, hg, hnc, hcm, hcs, htk⟩
  · cases h1
  cases h1
  have hgl : g < w.heap.size := (Array.getElem?_eq_some_iff.1 hg).1
  refine .inr ⟨g, cap, putCells id 0 (flatK enc k ys.toArray) cur, rfl, hb, ?_, hnc, hcm, by simp [putCells, hcs], ?_⟩
  · have hs : (w.heap.modify g (onCells (putCells id 0 (flatK enc k ys.toArray)))).size = w.heap.size := by simp
    show (w.heap.modify g (onCells (putCells id 0 (flatK enc k ys.toArray))) ++ os)[g]? = _
    rw [Array.getElem?_append_left (by rw [hs]; exact hgl), Array.getElem?_modify, if_pos rfl, hg]
    rfl
  · have hle : n * k ≤ cur.size := by rw [hcs]; exact Nat.mul_le_mul_right _ hnc
    apply List.ext_getElem?
    intro t
    rw [List.getElem?_take]
    by_cases ht : t < n * k
    · rw [if_pos ht, flat_get hk ys (by rw [hy, hl]; exact ht)]
      have hz : (flatK enc k ys.toArray).size = n * k := by rw [size_flatK]; simp [hy, hl]
      have htc : t < cur.size := by omega
      rw [Array.getElem?_toList, putCells, Array.getElem?_mapIdx, Array.getElem?_eq_getElem htc]
      simp [hz, ht]
    · rw [if_neg ht, List.getElem?_eq_none (by rw [flat_lenK hk, hy, hl]; omega)]
end Go.Proofs.YtfbegdcmnfkhgaaGreatDoor

namespace Go.Proofs.YtfbegdcmnfkhgaaGreatDoor
open Go Go.RowKit

theorem Slc.takeZ {α : Type} {k : Nat} {enc : α → List Value} {w : World} {p : Option Addr} {n c : Nat} {xs : List α} (h : Slc k enc w p n c xs) {m : Nat} (hm : m ≤ n) : Slc k enc w p m c (xs.take m) := by
  obtain ⟨hS, hnc, hp0, hp⟩ := h
  refine ⟨⟨by rw [List.length_take, hS.1]; omega, by have := hS.2.1; omega, fun h0 => ?_⟩, by omega, fun e => by have := hp0 e; omega, hp⟩
  obtain ⟨b, off, e, hb, hE⟩ := hS.2.2 (by omega)
  refine ⟨b, off, e, hb, fun i x hx j u hu => hE i x ?_ j u hu⟩
  rw [List.getElem?_take] at hx
  split at hx
  · exact hx
  · cases hx
theorem smallTake {L : List Int} (h : SmallL L) (n : Nat) : SmallL (L.take n) := fun x hx => h x (List.mem_of_mem_take hx)
end Go.Proofs.YtfbegdcmnfkhgaaGreatDoor
