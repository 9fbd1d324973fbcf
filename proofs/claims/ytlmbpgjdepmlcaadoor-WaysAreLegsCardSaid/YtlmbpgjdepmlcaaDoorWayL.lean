/- Paths of legs; a way by another place is no shorter: plain mathematics. Conditions: as each theorem says. -/
import Derived.Test.YtlmbpgjdepmlcaaDoorWayM
namespace Go.Proofs.YtlmbpgjdepmlcaaDoor
open Go

/-- The places ps are joined by the legs xs, one after the other. -/
def Chain (L : List LegV) (ps : List ByteArray) (xs : List LegV) : Prop := ps.length = xs.length + 1 ∧ ∀ i x, xs[i]? = some x → x ∈ L ∧ ps[i]? = some x.fr ∧ ps[i + 1]? = some x.to
def minutesL (xs : List LegV) : Int := (xs.map (·.m)).sum
theorem Chain.start (L : List LegV) (a : ByteArray) : Chain L [a] [] := ⟨rfl, fun i x hx => by cases hx⟩
theorem Chain.snoc {L : List LegV} {ps : List ByteArray} {xs : List LegV} (h : Chain L ps xs) {x : LegV} (hx : x ∈ L) (hl : ps[xs.length]? = some x.fr) : Chain L (ps ++ [x.to]) (xs ++ [x]) := by
  refine ⟨by rw [List.length_append, List.length_append, h.1]; rfl, fun i y hy => ?_⟩
  by_cases hi : i < xs.length
  · rw [List.getElem?_append_left hi] at hy
    obtain ⟨h1, h2, h3⟩ := h.2 i y hy
    have hl1 := h.1
    exact ⟨h1, by rw [List.getElem?_append_left (by omega)]; exact h2, by rw [List.getElem?_append_left (by omega)]; exact h3⟩
  · have hlen := (List.getElem?_eq_some_iff.1 hy).1
    rw [List.length_append, List.length_singleton] at hlen
    obtain rfl : i = xs.length := by omega
    rw [List.getElem?_append_right (Nat.le_refl _), Nat.sub_self] at hy
    cases hy
    have hl1 := h.1
    refine ⟨hx, by rw [List.getElem?_append_left (by omega)]; exact hl, ?_⟩
    rw [List.getElem?_append_right (by omega), hl1, Nat.sub_self]
    rfl
theorem minutes_snoc (xs : List LegV) (x : LegV) : minutesL (xs ++ [x]) = minutesL xs + x.m := by
  simp [minutesL, List.sum_append]
theorem minutes_take (xs : List LegV) {k : Nat} {x : LegV} (hx : xs[k]? = some x) : minutesL (xs.take (k + 1)) = minutesL (xs.take k) + x.m := by
  obtain ⟨hk, e⟩ := List.getElem?_eq_some_iff.1 hx
  rw [List.take_succ_eq_append_getElem hk, minutes_snoc, e]
/-- A leg of the row that leads as a leg of the path does is that leg. -/
theorem chain_find {L : List LegV} (hr : Rising L) {ps : List ByteArray} {xs : List LegV} (h : Chain L ps xs) {k : Nat} {x : LegV} (hx : xs[k]? = some x) {j : Nat} {y : LegV} (hy : L[j]? = some y) (hf : y.fr = x.fr) (ht : y.to = x.to) : y = x := by
  obtain ⟨i, hi, e⟩ := List.getElem_of_mem (h.2 k x hx).1
  have hi' : L[i]? = some x := by rw [List.getElem?_eq_getElem hi, e]
  have := rising_one hr hy hi' hf ht
  subst this
  rw [hy] at hi'
  exact Option.some.inj hi'
/-- The way from p to b is no longer than the way by x. -/
theorem way_by_way {L : List LegV} {b x p : ByteArray} {f g : St} (hI : Inv L b f) (hS : Settled L f L.length) (hJ : Inv L x g) {m k m' k' : Int} (h1 : g p = some (m, k)) (h2 : f x = some (m', k')) : ∃ o, f p = some o ∧ o.1 ≤ m + m' := by
  obtain ⟨o, ho, hl⟩ := settled_least hI hS ((hJ.walk p m k h1).append (hI.walk x m' k' h2))
  refine ⟨o, ho, ?_⟩
  rw [lessW_not] at hl
  simp only at hl
  omega
end Go.Proofs.YtlmbpgjdepmlcaaDoor
