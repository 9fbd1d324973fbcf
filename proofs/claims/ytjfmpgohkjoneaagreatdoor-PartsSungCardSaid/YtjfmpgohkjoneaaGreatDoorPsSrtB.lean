/- A row of elements of several cells, behind a sort; comparing in a region that draws. Conditions: as each theorem says. -/
import Derived.Test.YtjfmpgohkjoneaaGreatDoorPsSrtA
import Derived.Test.YtjfmpgohkjoneaaGreatDoorPsFactsB
import Derived.Test.YtjfmpgohkjoneaaGreatDoorPsApp
import Derived.Sort.Grow
import Derived.Shelf.SlSortCmp.WholeK
set_option linter.unusedSimpArgs false
set_option linter.unusedVariables false
namespace Go.Proofs.YtjfmpgohkjoneaaGreatDoor
open Go Go.RowKit Go.Sort

/-- Nothing but draws. -/
def Drw (w w' : World) : Prop := ∃ q, w' = w.drewN q
theorem Drw.refl (w : World) : Drw w w := ⟨0, rfl⟩
theorem Drw.trans {a b c : World} (h : Drw a b) (k : Drw b c) : Drw a c := by
  obtain ⟨q, rfl⟩ := h
  obtain ⟨r, rfl⟩ := k
  exact ⟨q + r, by simp [World.drewN, Nat.add_assoc]⟩
theorem Blk.drw {w w' : World} {g : Nat} {t : TypeId} {cs : Array Value} (h : Blk w g t cs) (he : Drw w w') : Blk w' g t cs := by
  obtain ⟨q, rfl⟩ := he
  exact h
set_option maxRecDepth 100000 in
theorem cmpIntE_any (x y : Int) (w : World) :
    Calls Tryz.prog 51 #[.int .i64 x, .int .i64 y] w fun e w' => e = .returned (.int .i64 (cmpZ x y)) ∧ Drw w w' := by
  have hc : (x < y ∧ cmpZ x y = -1) ∨ (x = y ∧ cmpZ x y = 0) ∨ (y < x ∧ cmpZ x y = 1) := by unfold cmpZ; split <;> (try split) <;> omega
  rcases hc with ⟨h, hv⟩ | ⟨h, hv⟩ | ⟨h, hv⟩
  all_goals
    rw [hv]
    clear hv
    go_enter Tryz.func51, Tryz.ntmps51
    go_wp2_with (go_at_call 91; (with_reducible refine Calls.mono (isNaNI_any _ _) ?_); rintro e w' ⟨rfl, rfl⟩)
    go_ret
    exact ⟨rfl, Drw.refl _⟩

theorem grow_three (w : World) (q : Nat) (A B C : Obj) : (((w.alloc A).alloc B).drew.drewN q).alloc C = grow (w.drewN (q + 1)) #[A, B, C] := by
  rw [alloc_eq_grow, alloc_eq_grow, alloc_eq_grow, drew_eq_ahead]
  simp [grow, World.drewN, ahead, Nat.add_assoc, Nat.add_comm]
  refine ⟨?_, by omega, rfl, rfl⟩
  show ((w.heap.push A).push B).push C = _
  apply Array.ext'
  simp
theorem cmpSE_any (a b : ByteArray) (w : World) :
    Calls Tryz.prog 50 #[.string a, .string b] w fun e w' => e = .returned (.int .i64 (cmpS a b)) ∧ Drw w w' :=
  (Tryz.strings_Compare a b w).mono fun _ _ h => ⟨h.1, h.2 ▸ Drw.refl _⟩
theorem grow_two (w : World) (q : Nat) (A B : Obj) : ((w.alloc A).alloc B).drewN q = grow (w.drewN q) #[A, B] := by
  rw [alloc_eq_grow, alloc_eq_grow]
  simp [grow, World.drewN, Nat.add_assoc, Nat.add_comm]
  refine ⟨?_, rfl, rfl⟩
  show (w.heap.push A).push B = _
  apply Array.ext'
  simp
theorem flat_lenK {α : Type} {k : Nat} {enc : α → List Value} (hk : ∀ x, (enc x).length = k) : ∀ (xs : List α), (xs.flatMap enc).length = xs.length * k
  | [] => by simp
  | x :: l => by rw [List.flatMap_cons, List.length_append, flat_lenK hk l, hk, List.length_cons, Nat.add_mul]; omega
theorem flat_get {α : Type} [Inhabited α] {k : Nat} {enc : α → List Value} (hk : ∀ x, (enc x).length = k) (xs : List α) {t : Nat} (ht : t < xs.length * k) : (xs.flatMap enc)[t]? = some (flatK enc k xs.toArray)[t]! := by
  have hk0 : 0 < k := by rcases Nat.eq_zero_or_pos k with h | h; (subst h; simp at ht); exact h
  rw [get_flatK enc k xs.toArray t (by simpa using ht)]
  have hi : t / k < xs.length := (Nat.div_lt_iff_lt_mul hk0).2 ht
  have hj : t % k < k := Nat.mod_lt _ hk0
  have hx : xs[t / k]? = some xs[t / k] := List.getElem?_eq_getElem hi
  have hjl : t % k < (enc xs[t / k]).length := by rw [hk]; exact hj
  have hu : (enc xs[t / k])[t % k]? = some (enc xs[t / k])[t % k] := List.getElem?_eq_getElem hjl
  have h1 := flat_at hk xs (t / k) _ hx (t % k) _ hu
  rw [Nat.div_add_mod' t k] at h1
  rw [h1]
  congr 1
  have e1 : xs.toArray[t / k]! = xs[t / k] := by simp [getElem!_pos, hi]
  rw [e1, getElem!_pos (enc xs[t / k]) (t % k) hjl]
theorem holdsK_own {α : Type} [Inhabited α] {k : Nat} {enc : α → List Value} (hk : ∀ x, (enc x).length = k) {w : World} {base : Nat} {e : TypeId} {g n cap : Nat} {xs : List α} (h : w.ownsRow base e k (.slice (some ⟨g, 0, none⟩) n cap) n (xs.flatMap enc)) : HoldsK enc k w g 0 xs.toArray := by
  intro j hj
  have hj' : j < xs.length * k := by simpa using hj
  have hn : xs.length * k = n * k := by have := h.1; rw [flat_lenK hk] at this; exact this
  refine ⟨?_, h.frozenAt _⟩
  rw [Nat.zero_add]
  exact (h.cellAt j (by omega)).trans (flat_get hk xs hj')
theorem own_sortK {α : Type} [Inhabited α] {k : Nat} {enc : α → List Value} (hk : ∀ x, (enc x).length = k) {w : World} {base : Nat} {e : TypeId} {g n cap m : Nat} {os : Array Obj} {xs ys : List α} (h : w.ownsRow base e k (.slice (some ⟨g, 0, none⟩) n cap) n (xs.flatMap enc)) (hy : ys.length = xs.length) :
    (sortWorldK enc k w g 0 m ys.toArray os).ownsRow base e k (.slice (some ⟨g, 0, none⟩) n cap) n (ys.flatMap enc) := by
  have hl := h.1
  rw [flat_lenK hk] at hl
  refine ⟨by rw [flat_lenK hk, hy, hl], ?_⟩
  rcases h.2 with ⟨h1, -⟩ | ⟨g', cap', cur, h1, hb, hg, hnc, hcm, hcs, htk⟩
  · cases h1
  cases h1
  have hgl : g < w.heap.size := (Array.getElem?_eq_some_iff.1 hg).1
  refine .inr ⟨g, cap, putCells id 0 (flatK enc k ys.toArray) cur, rfl, hb, ?_, hnc, hcm, by simp [putCells, hcs], ?_⟩
  · have hs : (w.heap.modify g (onCells (putCells id 0 (flatK enc k ys.toArray)))).size = w.heap.size := by simp
    show (w.heap.modify g (onCells (putCells id 0 (flatK enc k ys.toArray))) ++ os)[g]? = _
    rw [Array.getElem?_append_left (by rw [hs]; exact hgl), Array.getElem?_modify, if_pos rfl, hg]
    rfl
  · have hle : n * k ≤ cur.size := by rw [hcs]; exact Nat.mul_le_mul_right _ hnc
    apply List.ext_getElem?
    intro t
    rw [List.getElem?_take]
    by_cases ht : t < n * k
    · rw [if_pos ht, flat_get hk ys (by rw [hy, hl]; exact ht)]
      have hz : (flatK enc k ys.toArray).size = n * k := by rw [size_flatK]; simp [hy, hl]
      have htc : t < cur.size := by omega
      rw [Array.getElem?_toList, putCells, Array.getElem?_mapIdx, Array.getElem?_eq_getElem htc]
      simp [hz, ht]
    · rw [if_neg ht, List.getElem?_eq_none (by rw [flat_lenK hk, hy, hl]; omega)]
theorem ext_sortK {α : Type} [Inhabited α] {k : Nat} {enc : α → List Value} {a w : World} (h : Ext a w) {g m : Nat} {os : Array Obj} {ys : Array α} (hg : a.heap.size ≤ g) : Ext a (sortWorldK enc k w g 0 m ys os) := by
  have hs : (w.heap.modify g (onCells (putCells id 0 (flatK enc k ys)))).size = w.heap.size := by simp
  refine ⟨h.os, h.tape, h.output, ?_, fun i hi => ?_⟩
  · show a.heap.size ≤ (w.heap.modify g (onCells (putCells id 0 (flatK enc k ys))) ++ os).size
    rw [Array.size_append, hs]
    have := h.size
    omega
  · have hiw : i < w.heap.size := Nat.lt_of_lt_of_le hi h.size
    show (w.heap.modify g (onCells (putCells id 0 (flatK enc k ys))) ++ os)[i]? = _
    rw [Array.getElem?_append_left (by rw [hs]; exact hiw), Array.getElem?_modify, if_neg (by omega)]
    exact h.block i hi
end Go.Proofs.YtjfmpgohkjoneaaGreatDoor
