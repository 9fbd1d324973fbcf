/- Sorting: a stable sort by less is the sort by more; the orders of strings and numbers. Plain. Conditions: as each theorem says. A row of elements of several cells, behind a sort; comparing in a region that draws. Conditions: as each theorem says. Sorting by a number and then by a name; the stable sort by the number alone of what stands by names. Plain. Conditions: as each theorem says. Names sorted, and each once: plain mathematics, and the walks of slices.Sort and of the document's 'once'. Conditions: sizes. Voices: what is wrong with them, in plain words. Conditions: sizes. -/
import Derived.Test.YtdehmioobkneiaaGreatDoorTdWayM
import Derived.Test.YtdehmioobkneiaaGreatDoorTdJ5
import Derived.Sort.LotA
import Derived.Test.YtdehmioobkneiaaGreatDoorTdJ8
import Derived.Test.YtdehmioobkneiaaGreatDoorTdJ2
import Derived.Sort.Grow
import Derived.Shelf.SlSortCmp.WholeK
import Derived.Test.YtdehmioobkneiaaGreatDoorTdShelf
import Derived.Sort.OwnSorted
import Derived.Lib.OwnBridge
import Derived.Lib.RowBridge
import Derived.Deep.DeepCutAuto
import Derived.Deep.Light
set_option linter.unusedSimpArgs false
set_option linter.unusedVariables false
namespace Go.Proofs.YtdehmioobkneiaaGreatDoor
open Go Go.RowKit Go.Sort
theorem cb_anti : ∀ {a b : List UInt8}, Lib.compareBytes a b = 1 → Lib.compareBytes b a = -1
  | [], [], h => by cases h
  | [], _ :: _, h => by cases h
  | _ :: _, [], _ => rfl
  | a :: x, b :: y, h => by
    unfold Lib.compareBytes at h ⊢
    by_cases h1 : a < b
    · rw [if_pos h1] at h; cases h
    · rw [if_neg h1] at h
      by_cases h2 : b < a
      · rw [if_pos h2]
      · rw [if_neg h2] at h
        rw [if_neg h2, if_neg h1]
        exact cb_anti h
section
variable {α : Type} [Inhabited α] {lt lt2 : α → α → Bool}
variable {R : α → α → Prop} (hR : ∀ x y, R x y → lt y x = lt2 y x)
include hR
end
theorem cmpS_anti {a b : ByteArray} (h : cmpS a b = 1) : cmpS b a = -1 := cb_anti h
theorem cmpS_flip {a b : ByteArray} (h : cmpS a b = -1) : cmpS b a = 1 := by
  rcases cmpS_three b a with e | e | e
  · have := cmpS_trans h e
    rw [cmpS_refl] at this
    cases this
  · rw [cmpS_zero e, cmpS_refl] at h
    cases h
  · exact e
theorem cmpZ_lt {x y : Int} : cmpZ x y < 0 ↔ x < y := by unfold cmpZ; split <;> (try split) <;> omega
theorem cmpZ_zero {x y : Int} : cmpZ x y = 0 ↔ x = y := by unfold cmpZ; split <;> (try split) <;> omega
theorem cmpS_neg {a b : ByteArray} : cmpS a b < 0 ↔ cmpS a b = -1 := by rcases cmpS_three a b with h | h | h <;> omega
end Go.Proofs.YtdehmioobkneiaaGreatDoor
namespace Go.Proofs.YtdehmioobkneiaaGreatDoor
open Go Go.RowKit Go.Sort
/-- Nothing but draws. -/
def Drw (w w' : World) : Prop := ∃ q, w' = w.drewN q
theorem Drw.refl (w : World) : Drw w w := ⟨0, rfl⟩
theorem Drw.trans {a b c : World} (h : Drw a b) (k : Drw b c) : Drw a c := by
  obtain ⟨q, rfl⟩ := h
  obtain ⟨r, rfl⟩ := k
  exact ⟨q + r, by simp [World.drewN, Nat.add_assoc]⟩
theorem Blk.drw {w w' : World} {g : Nat} {t : TypeId} {cs : Array Value} (h : Blk w g t cs) (he : Drw w w') : Blk w' g t cs := by
  obtain ⟨q, rfl⟩ := he
  exact h
set_option maxRecDepth 100000 in
theorem cmpIntE_any (x y : Int) (w : World) :
    Calls Tryz.prog 55 #[.int .i64 x, .int .i64 y] w fun e w' => e = .returned (.int .i64 (cmpZ x y)) ∧ Drw w w' := by
  have hc : (x < y ∧ cmpZ x y = -1) ∨ (x = y ∧ cmpZ x y = 0) ∨ (y < x ∧ cmpZ x y = 1) := by unfold cmpZ; split <;> (try split) <;> omega
  rcases hc with ⟨h, hv⟩ | ⟨h, hv⟩ | ⟨h, hv⟩
  all_goals
    rw [hv]
    clear hv
    go_enter Tryz.func55, Tryz.ntmps55
    go_wp2_with (go_at_call 96; (with_reducible refine Calls.mono (isNaNI_any _ _) ?_); rintro e w' ⟨rfl, rfl⟩)
    go_ret
    exact ⟨rfl, Drw.refl _⟩
theorem grow_three (w : World) (q : Nat) (A B C : Obj) : (((w.alloc A).alloc B).drew.drewN q).alloc C = grow (w.drewN (q + 1)) #[A, B, C] := by
  rw [alloc_eq_grow, alloc_eq_grow, alloc_eq_grow, drew_eq_ahead]
  simp [grow, World.drewN, ahead, Nat.add_assoc, Nat.add_comm]
  refine ⟨?_, by omega, rfl, rfl⟩
  show ((w.heap.push A).push B).push C = _
  apply Array.ext'
  simp
theorem cmpSE_any (a b : ByteArray) (w : World) :
    Calls Tryz.prog 56 #[.string a, .string b] w fun e w' => e = .returned (.int .i64 (cmpS a b)) ∧ Drw w w' :=
  (Tryz.strings_Compare a b w).mono fun _ _ h => ⟨h.1, h.2 ▸ Drw.refl _⟩
theorem flat_lenK {α : Type} {k : Nat} {enc : α → List Value} (hk : ∀ x, (enc x).length = k) : ∀ (xs : List α), (xs.flatMap enc).length = xs.length * k
  | [] => by simp
  | x :: l => by rw [List.flatMap_cons, List.length_append, flat_lenK hk l, hk, List.length_cons, Nat.add_mul]; omega
theorem flat_get {α : Type} [Inhabited α] {k : Nat} {enc : α → List Value} (hk : ∀ x, (enc x).length = k) (xs : List α) {t : Nat} (ht : t < xs.length * k) : (xs.flatMap enc)[t]? = some (flatK enc k xs.toArray)[t]! := by
  have hk0 : 0 < k := by rcases Nat.eq_zero_or_pos k with h | h; (subst h; simp at ht); exact h
  rw [get_flatK enc k xs.toArray t (by simpa using ht)]
  have hi : t / k < xs.length := (Nat.div_lt_iff_lt_mul hk0).2 ht
  have hj : t % k < k := Nat.mod_lt _ hk0
  have hx : xs[t / k]? = some xs[t / k] := List.getElem?_eq_getElem hi
  have hjl : t % k < (enc xs[t / k]).length := by rw [hk]; exact hj
  have hu : (enc xs[t / k])[t % k]? = some (enc xs[t / k])[t % k] := List.getElem?_eq_getElem hjl
  have h1 := flat_at hk xs (t / k) _ hx (t % k) _ hu
  rw [Nat.div_add_mod' t k] at h1
  rw [h1]
  congr 1
  have e1 : xs.toArray[t / k]! = xs[t / k] := by simp [getElem!_pos, hi]
  rw [e1, getElem!_pos (enc xs[t / k]) (t % k) hjl]
theorem holdsK_own {α : Type} [Inhabited α] {k : Nat} {enc : α → List Value} (hk : ∀ x, (enc x).length = k) {w : World} {base : Nat} {e : TypeId} {g n cap : Nat} {xs : List α} (h : w.ownsRow base e k (.slice (some ⟨g, 0, none⟩) n cap) n (xs.flatMap enc)) : HoldsK enc k w g 0 xs.toArray := by
  intro j hj
  have hj' : j < xs.length * k := by simpa using hj
  have hn : xs.length * k = n * k := by have := h.1; rw [flat_lenK hk] at this; exact this
  refine ⟨?_, h.frozenAt _⟩
  rw [Nat.zero_add]
  exact (h.cellAt j (by omega)).trans (flat_get hk xs hj')
theorem own_sortK {α : Type} [Inhabited α] {k : Nat} {enc : α → List Value} (hk : ∀ x, (enc x).length = k) {w : World} {base : Nat} {e : TypeId} {g n cap m : Nat} {os : Array Obj} {xs ys : List α} (h : w.ownsRow base e k (.slice (some ⟨g, 0, none⟩) n cap) n (xs.flatMap enc)) (hy : ys.length = xs.length) :
    (sortWorldK enc k w g 0 m ys.toArray os).ownsRow base e k (.slice (some ⟨g, 0, none⟩) n cap) n (ys.flatMap enc) := by
  have hl := h.1
  rw [flat_lenK hk] at hl
  refine ⟨by rw [flat_lenK hk, hy, hl], ?_⟩
  rcases h.2 with ⟨h1, -⟩ | ⟨g', cap', cur, h1, hb, hg, hnc, hcm, hcs, htk⟩
  · cases h1
  cases h1
  have hgl : g < w.heap.size := (Array.getElem?_eq_some_iff.1 hg).1
  refine .inr ⟨g, cap, putCells id 0 (flatK enc k ys.toArray) cur, rfl, hb, ?_, hnc, hcm, by simp [putCells, hcs], ?_⟩
  · have hs : (w.heap.modify g (onCells (putCells id 0 (flatK enc k ys.toArray)))).size = w.heap.size := by simp
    show (w.heap.modify g (onCells (putCells id 0 (flatK enc k ys.toArray))) ++ os)[g]? = _
    rw [Array.getElem?_append_left (by rw [hs]; exact hgl), Array.getElem?_modify, if_pos rfl, hg]
    rfl
  · have hle : n * k ≤ cur.size := by rw [hcs]; exact Nat.mul_le_mul_right _ hnc
    apply List.ext_getElem?
    intro t
    rw [List.getElem?_take]
    by_cases ht : t < n * k
    · rw [if_pos ht, flat_get hk ys (by rw [hy, hl]; exact ht)]
      have hz : (flatK enc k ys.toArray).size = n * k := by rw [size_flatK]; simp [hy, hl]
      have htc : t < cur.size := by omega
      rw [Array.getElem?_toList, putCells, Array.getElem?_mapIdx, Array.getElem?_eq_getElem htc]
      simp [hz, ht]
    · rw [if_neg ht, List.getElem?_eq_none (by rw [flat_lenK hk, hy, hl]; omega)]
theorem ext_sortK {α : Type} [Inhabited α] {k : Nat} {enc : α → List Value} {a w : World} (h : Ext a w) {g m : Nat} {os : Array Obj} {ys : Array α} (hg : a.heap.size ≤ g) : Ext a (sortWorldK enc k w g 0 m ys os) := by
  have hs : (w.heap.modify g (onCells (putCells id 0 (flatK enc k ys)))).size = w.heap.size := by simp
  refine ⟨h.os, h.tape, h.output, ?_, fun i hi => ?_⟩
  · show a.heap.size ≤ (w.heap.modify g (onCells (putCells id 0 (flatK enc k ys))) ++ os).size
    rw [Array.size_append, hs]
    have := h.size
    omega
  · have hiw : i < w.heap.size := Nat.lt_of_lt_of_le hi h.size
    show (w.heap.modify g (onCells (putCells id 0 (flatK enc k ys))) ++ os)[i]? = _
    rw [Array.getElem?_append_left (by rw [hs]; exact hiw), Array.getElem?_modify, if_neg (by omega)]
    exact h.block i hi
end Go.Proofs.YtdehmioobkneiaaGreatDoor
namespace Go.Proofs.YtdehmioobkneiaaGreatDoor
open Go Go.RowKit Go.Sort
section
variable {α : Type} (f : α → Int) (g : α → ByteArray)
variable [Inhabited α]
end
end Go.Proofs.YtdehmioobkneiaaGreatDoor
namespace Go.Proofs.YtdehmioobkneiaaGreatDoor
open Go Go.RowKit Go.Sort
theorem le_tr {a b c : List UInt8} (h : a ≤ b) (k : b ≤ c) : a ≤ c := List.le_trans h k
theorem le_as {a b : List UInt8} (h : a ≤ b) (k : b ≤ a) : a = b := List.le_antisymm h k
theorem le_to (a b : List UInt8) : a ≤ b ∨ b ≤ a := List.le_total a b
theorem srt (ss : List (List UInt8)) : (ss.mergeSort fun x y => decide (x ≤ y)).Pairwise (· ≤ ·) := by
  have := List.pairwise_mergeSort (le := fun x y : List UInt8 => decide (x ≤ y)) (fun a b c h k => by simp at *; exact le_tr h k) (fun a b => by simp; exact le_to a b) ss
  exact this.imp (by simp)
theorem enc_str (x : ByteArray) : encStr x.data.toList = .string x := by cases x; rfl
theorem map_enc (T : List ByteArray) : (T.map fun x => x.data.toList).map encStr = T.map Value.string := by
  rw [List.map_map]
  exact List.map_congr_left fun x _ => enc_str x
theorem nodup_bytes (T : List ByteArray) : (T.map fun x => x.data.toList).Nodup ↔ T.Nodup := by
  constructor
  · intro h
    rw [List.nodup_iff_pairwise_ne, List.pairwise_map] at h
    rw [List.nodup_iff_pairwise_ne]
    exact h.imp fun hne e => hne (by rw [e])
  · intro h
    rw [List.nodup_iff_pairwise_ne] at h ⊢
    rw [List.pairwise_map]
    exact h.imp fun hne e => hne (by rename_i a b; cases a; cases b; simp only at e; congr 1; exact Array.toList_inj.1 e)
theorem le_uniq : ∀ {a b : List (List UInt8)}, a.Pairwise (· ≤ ·) → b.Pairwise (· ≤ ·) → a.Perm b → a = b
  | [], b, _, _, h => h.nil_eq
  | x :: a, [], _, _, h => by have := h.length_eq; simp at this
  | x :: a, y :: b, h1, h2, h => by
    obtain ⟨p1, q1⟩ := List.pairwise_cons.1 h1
    obtain ⟨p2, q2⟩ := List.pairwise_cons.1 h2
    have hxy : x ≤ y := by
      rcases List.mem_cons.1 (h.symm.subset List.mem_cons_self) with e | e
      · rw [e]; exact List.le_refl _
      · exact p1 y e
    have hyx : y ≤ x := by
      rcases List.mem_cons.1 (h.subset List.mem_cons_self) with e | e
      · rw [e]; exact List.le_refl _
      · exact p2 x e
    have e := le_as hxy hyx
    subst e
    rw [le_uniq q1 q2 h.cons_inv]
def srtB (T : List ByteArray) : List (List UInt8) := (T.map fun x => x.data.toList).mergeSort fun x y => decide (x ≤ y)
def srtN (T : List ByteArray) : List ByteArray := (srtB T).map fun l => ⟨l.toArray⟩
theorem srtB_len (T : List ByteArray) : (srtB T).length = T.length := by unfold srtB; rw [List.length_mergeSort, List.length_map]
theorem flat_enc (T : List ByteArray) : T.flatMap strC = (T.map fun x => x.data.toList).map encStr := by
  rw [map_enc]
  induction T with
  | nil => rfl
  | cons x l ih => rw [List.flatMap_cons, ih]; rfl
theorem srtN_cells (T : List ByteArray) : (srtN T).flatMap strC = (srtB T).map encStr := by
  rw [flat_enc]
  unfold srtN
  have e : ((srtB T).map fun l => (⟨l.toArray⟩ : ByteArray)).map (fun x : ByteArray => x.data.toList) = srtB T := by
    rw [List.map_map]
    have : ((fun x : ByteArray => x.data.toList) ∘ fun l : List UInt8 => (⟨l.toArray⟩ : ByteArray)) = id := funext fun l => by simp
    rw [this, List.map_id]
  rw [e]
theorem sortN_any {w : World} {base g n cap : Nat} {T : List ByteArray} (h : w.ownsRow base 9 1 (.slice (some ⟨g, 0, none⟩) n cap) n (T.flatMap strC)) (hn : T.length = n) (hn1 : n ≤ 1000) :
    Calls Tryz.prog 111 #[.slice (some ⟨g, 0, none⟩) n cap] w fun e w' => e = .returned (.tuple #[]) ∧ w'.ownsRow base 9 1 (.slice (some ⟨g, 0, none⟩) n cap) n ((srtN T).flatMap strC) ∧ ∀ a : World, Ext a w → a.heap.size ≤ g → Ext a w' := by
  rw [flat_enc] at h
  have h0 := h
  obtain ⟨g', cap', he, hbg, hgl, hncap, hcm, hlen, hH⟩ := Lib.holds_of_ownsRow h (by intro e; cases e)
  cases he
  have hl : (T.map fun x => x.data.toList).length = n := by rw [List.length_map, hn]
  have hs := Tryz.slices_Sort_string g 0 cap (T.map fun x => x.data.toList) w hH hgl (by omega)
  rw [hl] at hs
  refine hs.mono fun e w' ⟨he, nn, os, hw⟩ => ⟨he, ?_, fun a ha hg => ?_⟩
  · rw [hw, srtN_cells]
    rcases h0.2 with ⟨h1, -⟩ | ⟨g', cap', cur, h1, hb, hgc, hnc, hcm2, hcs, htk⟩
    · cases h1
    cases h1
    have h9 := ownsRow_sorted (w := w) (n := nn) (os := os) (base := base) (g := g) (cap := cap) (cur := cur) (ss := T.map fun x => x.data.toList) (ts := srtB T) (by rw [srtB_len, List.length_map]) hb hgc (by omega) hcm2 hcs
    rw [hl] at h9
    exact h9
  · rw [hw]
    exact ha.grown (grownBy_sorted _) (fun j e => by cases e; exact hg)
theorem strC_map (T : List ByteArray) : T.map Value.string = T.flatMap strC := by rw [flat_enc, map_enc]
theorem nmInfo : (Tryz.prog.info? 9).map (fun i => (i.zero, i.size, i.bytes)) = some (some (.string ⟨#[]⟩), 1, 16) := by kernel_rfl
/-! ### compaction of a sorted list -/
theorem compact_mem (zs : List (List UInt8)) : ∀ m, m ≤ zs.length → ∀ x, x ∈ Lib.compactUpTo zs.toArray m ↔ x ∈ zs.take m
  | 0, _, x => by simp [Lib.compactUpTo]
  | m + 1, hm, x => by
    have ih := compact_mem zs m (by omega)
    have hz : zs[m]? = some zs[m] := List.getElem?_eq_getElem (by omega)
    have e1 : zs.toArray[m]! = zs[m] := by simp [getElem!_pos, show m < zs.length by omega]
    rw [Lib.compactUpTo_succ, List.take_add_one, hz, Option.toList_some, List.mem_append, List.mem_append, ih x, e1]
    cases hk : Lib.keeps zs.toArray m
    · simp only [Bool.false_eq_true, if_false, List.not_mem_nil, or_false]
      constructor
      · exact .inl
      · rintro (h | h)
        · exact h
        · rw [List.mem_singleton] at h
          unfold Lib.keeps at hk
          simp only [decide_eq_false_iff_not, not_or, Decidable.not_not] at hk
          obtain ⟨h0, h1⟩ := hk
          have e2 : zs.toArray[m - 1]! = zs[m - 1] := by simp [getElem!_pos, show m - 1 < zs.length by omega]
          rw [e1, e2] at h1
          rw [h, h1]
          exact List.mem_take_iff_getElem.2 ⟨m - 1, by omega, rfl⟩
    · simp
theorem compact_mem_iff (zs : List (List UInt8)) (x : List UInt8) : x ∈ Lib.compact zs ↔ x ∈ zs := by
  have := compact_mem zs zs.length (Nat.le_refl _) x
  rwa [List.take_length] at this
theorem compact_strict (zs : List (List UInt8)) (hs : zs.Pairwise (· ≤ ·)) : (Lib.compact zs).Pairwise (fun a b => a ≤ b ∧ a ≠ b) := by
  unfold Lib.compact Lib.compactUpTo
  rw [List.pairwise_map]
  have h1 : ((List.range zs.length).filter (Lib.keeps zs.toArray)).Pairwise (· < ·) := List.pairwise_lt_range.filter _
  refine h1.imp_of_mem fun {i j} hi hj hij => ?_
  obtain ⟨hi1, hi2⟩ := List.mem_filter.1 hi
  obtain ⟨hj1, hj2⟩ := List.mem_filter.1 hj
  rw [List.mem_range] at hi1 hj1
  have e1 : zs.toArray[i]! = zs[i] := by simp [getElem!_pos, hi1]
  have e2 : zs.toArray[j]! = zs[j] := by simp [getElem!_pos, hj1]
  rw [List.pairwise_iff_getElem] at hs
  rw [e1, e2]
  refine ⟨hs i j hi1 hj1 hij, fun heq => ?_⟩
  unfold Lib.keeps at hj2
  simp only [decide_eq_true_eq] at hj2
  have e3 : zs.toArray[j - 1]! = zs[j - 1] := by simp [getElem!_pos, show j - 1 < zs.length by omega]
  rw [e2, e3] at hj2
  rcases hj2 with h | h
  · omega
  · apply h
    have h5 : zs[j - 1] ≤ zs[j] := hs (j - 1) j (by omega) hj1 (by omega)
    have h6 : zs[i] ≤ zs[j - 1] := by
      rcases Nat.lt_or_ge i (j - 1) with h7 | h7
      · exact hs i (j - 1) hi1 (by omega) h7
      · obtain rfl : i = j - 1 := by omega
        exact List.le_refl _
    rw [heq] at h6
    exact le_as h6 h5
def unB (l : List UInt8) : ByteArray := ⟨l.toArray⟩
theorem unB_data (l : List UInt8) : (unB l).data.toList = l := by simp [unB]
theorem unB_of (x : ByteArray) : unB x.data.toList = x := by cases x; rfl
theorem unB_inj {a b : List UInt8} (h : unB a = unB b) : a = b := by rw [← unB_data a, h, unB_data]
/-- Names, sorted and each once. -/
def onceL (T : List ByteArray) : List ByteArray := (Lib.compact (srtB T)).map unB
theorem onceL_mem {T : List ByteArray} {x : ByteArray} : x ∈ onceL T ↔ x ∈ T := by
  unfold onceL
  rw [List.mem_map]
  constructor
  · rintro ⟨l, hl, rfl⟩
    rw [compact_mem_iff] at hl
    have := (List.mergeSort_perm _ _).subset hl
    obtain ⟨y, hy, e⟩ := List.mem_map.1 this
    rw [← e, unB_of]
    exact hy
  · intro h
    exact ⟨x.data.toList, (compact_mem_iff _ _).2 ((List.mergeSort_perm _ _).symm.subset (List.mem_map.2 ⟨x, h, rfl⟩)), unB_of x⟩
/-- Names that rise. -/
def RiseN (T : List ByteArray) : Prop := T.Pairwise fun a b => a.data.toList ≤ b.data.toList ∧ a ≠ b
theorem onceL_rise (T : List ByteArray) : RiseN (onceL T) := by
  unfold RiseN onceL
  rw [List.pairwise_map]
  refine (compact_strict _ (srt _)).imp fun {a b} h => ⟨by rw [unB_data, unB_data]; exact h.1, fun e => h.2 (unB_inj e)⟩
theorem RiseN.nodup {T : List ByteArray} (h : RiseN T) : T.Nodup := by
  rw [List.nodup_iff_pairwise_ne]
  exact h.imp fun h => h.2
theorem onceL_len_le (T : List ByteArray) : (onceL T).length ≤ T.length := by
  unfold onceL
  rw [List.length_map, ← srtB_len T]
  exact Lib.compact_length_le _
theorem onceL_cells (T : List ByteArray) : (onceL T).flatMap strC = (Lib.compact (srtB T)).map encStr := by
  have : ((fun x : ByteArray => x.data.toList) ∘ unB) = id := funext unB_data
  have e : (onceL T).map (fun x : ByteArray => x.data.toList) = Lib.compact (srtB T) := by
    unfold onceL
    rw [List.map_map, this, List.map_id]
  rw [flat_enc, e]
set_option maxRecDepth 100000 in
set_option maxHeartbeats 3200000 in
theorem onceG_any (p : Option Addr) (n c : Nat) (T : List ByteArray) (w : World) (hS : Sl 1 strC w p n T) (hn : n ≤ 1000) :
    Calls Tryz.prog 70 #[.slice p n c] w fun e w' => ∃ (p' : Option Addr) (c' : Nat), e = .returned (.slice p' (onceL T).length c') ∧ w'.ownsRow w.heap.size 9 1 (.slice p' (onceL T).length c') (onceL T).length ((onceL T).flatMap strC) ∧ Ext w w' := by
  have hl := hS.1
  by_cases hn0 : n = 0
  · subst hn0
    obtain rfl : T = [] := List.eq_nil_of_length_eq_zero hl
    have hon : onceL [] = [] := List.eq_nil_of_length_eq_zero (by have := onceL_len_le []; simpa using this)
    rw [hon]
    clear hS
    cases p with
    | none =>
      have h1 := Tryz.slices_Clone_string_nil 0 c w
      replace h1 := Lib.hid h1
      go_enter Tryz.func70, Tryz.ntmps70
      go_wp2_with (first
        | (go_at_call 110; refine (h1.out).mono ?_; rintro e w1 ⟨rfl, rfl⟩)
        | (go_at_call 111; refine (Tryz.slices_Sort_string_none _ _ _).mono ?_; rintro e w2 ⟨rfl, rfl⟩)
        | (go_at_call 112; refine (Tryz.slices_Compact_string_empty _ _ _).mono ?_; rintro e w3 ⟨rfl, rfl⟩))
      go_ret
      exact ⟨none, 0, rfl, World.ownsRow_nil _ _ _ _, Ext.refl _⟩
    | some a =>
      have h1 := Tryz.slices_Clone_string_zero a c w
      replace h1 := Lib.hid h1
      go_enter Tryz.func70, Tryz.ntmps70
      go_wp2_with (first
        | (go_at_call 110; refine (h1.out).mono ?_; rintro e w1 ⟨v1, rfl, hown, hnn, hbel⟩; obtain ⟨p1, c1, rfl, hS1⟩ := slc_of_own (xs := ([] : List ByteArray)) (enc := strC) (fun _ => rfl) hown (by decide) (by decide))
        | (go_at_call 111; refine (Tryz.slices_Sort_string_none _ _ _).mono ?_; rintro e w2 ⟨rfl, rfl⟩)
        | (go_at_call 112; refine (Tryz.slices_Compact_string_empty _ _ _).mono ?_; rintro e w3 ⟨rfl, rfl⟩))
      go_ret
      exact ⟨p1, c1, rfl, hown, hbel⟩
  · obtain ⟨b, off, rfl, hb, hE⟩ := hS.2.2 hn0
    have h1 := Tryz.slices_Clone_string b off n c T w (by omega) (by omega) (fun j hj => by
      have hx : T[j]? = some T[j] := List.getElem?_eq_getElem hj
      rw [hE.str hx, List.getD_eq_getElem?_getD, hx]
      rfl)
    rw [List.take_of_length_le (by omega), strC_map] at h1
    have hcl := Lib.compact_length_le (srtB T)
    have hbl := srtB_len T
    have hol : (onceL T).length = (Lib.compact (srtB T)).length := by unfold onceL; rw [List.length_map]
    have hpos : 0 < n := by omega
    replace h1 := Lib.hid h1; replace hol := Lib.hid hol; clear hS hE
    go_enter Tryz.func70, Tryz.ntmps70
    go_wp2_with (first
      | (go_at_call 110; refine (h1.out).mono ?_; rintro e w1 ⟨v1, rfl, hown, hnn, hbel⟩
         obtain ⟨g, cap, rfl, hbg, -⟩ := hown.form hpos
         have hsort := sortN_any hown hl hn
         replace hsort := Lib.hid hsort)
      | (go_at_call 111; refine (hsort.out).mono ?_; rintro e w2 ⟨rfl, hown2, hext2⟩
         have hbel2 : Ext w w2 := hext2 w hbel hbg
         rw [srtN_cells] at hown2
         obtain ⟨g', cap', heq, -, hgl, hncap, hcm, hlen, hH2⟩ := Lib.holds_of_ownsRow hown2 hnn
         cases heq
         have hcomp := Tryz.slices_Compact_string g 0 cap (srtB T) w2 hH2 (by omega) (by omega)
         rw [hlen] at hcomp
         replace hcomp := Lib.hid hcomp
         replace hown2 := Lib.hid hown2)
      | (go_at_call 112; refine (hcomp.out).mono ?_; rintro e w3 ⟨rfl, q, rfl⟩))
    go_ret
    have ho3 := Lib.ownsRow_putRow (q := q) (k := (Lib.compact (srtB T)).length) (ys := Lib.compact (srtB T) ++ List.replicate (n - (Lib.compact (srtB T)).length) []) hown2.out (by rw [List.length_append, List.length_replicate]; omega) (by omega)
    rw [List.take_left] at ho3
    refine ⟨some ⟨g, 0, none⟩, cap, by rw [hol.out]; rfl, ?_, Lib.below_putRow hbel2 hbg⟩
    rw [hol.out, onceL_cells]
    exact ho3
end Go.Proofs.YtdehmioobkneiaaGreatDoor
namespace Go.Proofs.YtdehmioobkneiaaGreatDoor
open Go Go.RowKit
structure VoiceV where
  name : ByteArray
  fr : Int
  lo : Int
  hi : Int
instance : Inhabited VoiceV := ⟨⟨⟨#[]⟩, 0, 0, 0⟩⟩
def voiC (x : VoiceV) : List Value := [.string x.name, .int .i64 x.fr, .int .i64 x.lo, .int .i64 x.hi]
theorem voiC_len (x : VoiceV) : (voiC x).length = 4 := rfl
theorem voi_one (x : VoiceV) : ∀ u ∈ voiC x, u.oneCell' = true := by simp [voiC, Value.oneCell']
theorem Elems.voi {w : World} {b off : Nat} {xs : List VoiceV} (h : Elems 4 voiC w b off xs) {i : Nat} {x : VoiceV} (hx : xs[i]? = some x) :
    w.cell? ⟨b, off + i * 4, none⟩ = some (.string x.name) ∧ w.cell? ⟨b, off + i * 4 + 1, none⟩ = some (.int .i64 x.fr) ∧ w.cell? ⟨b, off + i * 4 + 2, none⟩ = some (.int .i64 x.lo) ∧ w.cell? ⟨b, off + i * 4 + 3, none⟩ = some (.int .i64 x.hi) :=
  ⟨h i x hx 0 _ rfl, h i x hx 1 _ rfl, h i x hx 2 _ rfl, h i x hx 3 _ rfl⟩
def VoiceV.Small (x : VoiceV) : Prop := x.name.size ≤ 1000 ∧ (-1099511627776 ≤ x.fr ∧ x.fr ≤ 1099511627776) ∧ (-1000 ≤ x.lo ∧ x.lo ≤ 1000) ∧ (-1000 ≤ x.hi ∧ x.hi ≤ 1000)
def momB (n : Int) : Bool := inB n 0 345686399999
/-- How voices are ordered. -/
def voiO (a b : VoiceV) : Int := orF [cmpS a.name b.name, cmpZ a.fr b.fr]
def chkVoi (xs : List VoiceV) (i : Nat) : Int :=
  if keyB (atL default xs i).name then
    (if momB (atL default xs i).fr && rightR (atL default xs i).lo (atL default xs i).hi then
      (if 0 < i && decide (0 ≤ voiO (atL default xs (i - 1)) (atL default xs i)) then 7 else 0) else 1) else 5
/-- What is wrong with voices (not more than 200 of them). -/
def voicesF (xs : List VoiceV) : Int := scanF xs.length (chkVoi xs)
theorem cmpZ_three (x y : Int) : cmpZ x y = -1 ∨ cmpZ x y = 0 ∨ cmpZ x y = 1 := by unfold cmpZ; split <;> (try split) <;> omega
theorem voiO_three (a b : VoiceV) : voiO a b = -1 ∨ voiO a b = 0 ∨ voiO a b = 1 := by
  unfold voiO orF
  rcases cmpS_three a.name b.name with h | h | h <;> rcases cmpZ_three a.fr b.fr with k | k | k <;> rw [h, k] <;> decide
theorem vcmpS_any (a b : ByteArray) (w : World) :
    Calls Tryz.prog 56 #[.string a, .string b] w fun e w' => e = .returned (.int .i64 (cmpS a b)) ∧ Ext w w' :=
  (Tryz.strings_Compare a b w).mono fun _ _ h => ⟨h.1, h.2 ▸ Ext.refl _⟩
set_option maxRecDepth 100000 in
theorem vcmpI_any (x y : Int) (w : World) :
    Calls Tryz.prog 55 #[.int .i64 x, .int .i64 y] w fun e w' => e = .returned (.int .i64 (cmpZ x y)) ∧ Ext w w' := by
  have hn : ∀ x, Calls Tryz.prog 96 #[.int .i64 x] w fun e w' => e = .returned (.bool false) ∧ w = w' := fun x => by
    go_enter Tryz.func96, Tryz.ntmps96
    go_wp2
    go_ret
    exact ⟨ret_bool (by simp), rfl⟩
  replace hn := Lib.hid hn
  have hc : (x < y ∧ cmpZ x y = -1) ∨ (x = y ∧ cmpZ x y = 0) ∨ (y < x ∧ cmpZ x y = 1) := by unfold cmpZ; split <;> (try split) <;> omega
  rcases hc with ⟨h, hv⟩ | ⟨h, hv⟩ | ⟨h, hv⟩
  all_goals
    rw [hv]
    clear hv
    go_enter Tryz.func55, Tryz.ntmps55
    go_wp2_with (go_at_call 96; (with_reducible refine Calls.mono (hn.out _) ?_); rintro e w' ⟨rfl, rfl⟩)
    go_ret
    exact ⟨rfl, Ext.refl _⟩
theorem vor_any (y x : VoiceV) (g t : Nat) (w : World) (hb : Blk w g t #[.int .i64 (cmpS y.name x.name), .int .i64 (cmpZ y.fr x.fr)]) :
    Calls Tryz.prog 54 #[.slice (some ⟨g, 0, none⟩) 2 2] w fun e w' => e = .returned (.int .i64 (voiO y x)) ∧ Ext w w' :=
  (orInt_any g 0 2 [cmpS y.name x.name, cmpZ y.fr x.fr] w (by simp) (fun i hi => by
    have : i = 0 ∨ i = 1 := by simp at hi; omega
    rcases this with rfl | rfl
    · exact hb.cell 0
    · exact hb.cell 1)).mono fun _ _ h => ⟨h.1, h.2 ▸ Ext.refl _⟩
set_option maxRecDepth 100000 in
theorem isMom_any (n : Int) (w : World) :
    Calls Tryz.prog 49 #[.int .i64 n] w fun e w' => e = .returned (.bool (momB n)) ∧ Ext w w' := by
  have hm : momB n = !outB n 0 345686399999 := by unfold momB; rw [outB_inB]; simp
  have ho := fun w => outside_any n 0 345686399999 w
  replace hm := Lib.hid hm
  generalize outB n 0 345686399999 = v at *
  replace ho := Lib.hid ho
  go_enter Tryz.func49, Tryz.ntmps49
  go_wp2_with (go_at_call 42; (with_reducible refine Calls.mono (ho.out _) ?_); rintro e w' ⟨rfl, rfl⟩)
  go_ret
  exact ⟨ret_bool (by rw [hm.out]), Ext.refl _⟩
set_option maxRecDepth 100000 in
theorem momF_any (n : Int) (w : World) :
    Calls Tryz.prog 68 #[.int .i64 n] w fun e w' => e = .returned (.int .i64 (if momB n then 0 else 1)) ∧ Ext w w' := by
  have hs : spanF n 0 345686399999 = if momB n then 0 else 1 := rfl
  rw [← hs]
  clear hs
  go_enter Tryz.func68, Tryz.ntmps68
  go_wp2_with (go_at_call 109; (with_reducible refine Calls.mono (spanFault_any n 0 345686399999 _) ?_); rintro e w' ⟨rfl, rfl⟩)
  generalize spanF n 0 345686399999 = v
  go_ret
  exact ⟨rfl, Ext.refl _⟩
end Go.Proofs.YtdehmioobkneiaaGreatDoor
