/- A person found by the document's text. Conditions: sizes. How stands are ordered, by both texts: what the comparison leaves of the world. Conditions: none. A row of elements of several cells, behind a sort. Conditions: as each theorem says. People by their height: plain mathematics (the stable sort by height alone is the sort by height and name). Conditions: as each theorem says. Appending a slice to a row of the call's own; cutting slices. Conditions: as each theorem says. -/
import Derived.Test.YtfcoeikekbjgpaaGreatDoorSxStP
import Derived.Laws.ResultCell
import Derived.Laws.Rows
import Derived.Sort.Grow
import Derived.Test.YtfcoeikekbjgpaaGreatDoorSxJ21
import Derived.Test.YtfcoeikekbjgpaaGreatDoorSxJ2
import Derived.Shelf.SlSortCmp.WholeK
import Derived.Test.YtfcoeikekbjgpaaGreatDoorSxJ16
import Derived.Sort.LotA
import Derived.Test.YtfcoeikekbjgpaaGreatDoorSxStC
set_option linter.unusedSimpArgs false
set_option linter.unusedVariables false
namespace Go.Proofs.YtfcoeikekbjgpaaGreatDoor
open Go Go.RowKit

theorem results_cell_row_tmp {P : Program} {fn : Func} {p u : Tmp} {ty : TypeId} (h : fn.results = #[.cell p ty, .tmp u]) (tmps : Array Value) (w : World) (g : Nat) (t : TypeId) (cs : Array Value) (fr : Nat × Nat) (d : TypeDesc)
    (hp : tmps.getD p undef = .pointer (some ⟨g, 0, none⟩)) (hg : w.heap[g]? = some (.cells cs t fr))
    (hu : P.underlying ty = some d) (hd : (match d with | .struct _ | .array _ _ => true | _ => false) = true) (hi : (P.info? ty).map (·.size) = some cs.size) (v : Value) (hv : tmps.getD u undef = v) :
    (results fn tmps).run P w = .ok (.tuple #[.agg cs, v]) w := by
  rw [results_cell_tmp h, hp, hv]
  simp [asAddr, Result.andThen, run_loadVar_row w g t ty cs fr d hg hu hd hi]
/-- The person of a name, or none. -/
def perOf (P : List PersonV) (nm : ByteArray) : PersonV := (P.find? fun x => x.name.toList == nm.toList).getD ⟨⟨#[]⟩, 0, ⟨#[]⟩⟩
theorem find_at : ∀ {P : List PersonV} {nm : ByteArray} {k : Nat} {x : PersonV}, P[k]? = some x → (∀ j y, j < k → P[j]? = some y → (y.name.toList == nm.toList) = false) → (x.name.toList == nm.toList) = true → perOf P nm = x ∧ hasP P nm = true
  | [], _, _, _, h, _, _ => by cases h
  | y :: P, nm, 0, x, h, _, hx => by
    obtain rfl : y = x := by simpa using h
    unfold perOf hasP
    rw [List.find?_cons, List.any_cons, hx]
    exact ⟨rfl, rfl⟩
  | y :: P, nm, k + 1, x, h, hz, hx => by
    have h0 := hz 0 y (by omega) rfl
    obtain ⟨h1, h2⟩ := find_at (P := P) (nm := nm) (k := k) (x := x) (by simpa using h) (fun j z hj hjz => hz (j + 1) z (by omega) (by simpa using hjz)) hx
    unfold perOf hasP at *
    rw [List.find?_cons, List.any_cons, h0]
    exact ⟨h1, by rw [h2]; rfl⟩
theorem find_no : ∀ {P : List PersonV} {nm : ByteArray}, (∀ j y, j < P.length → P[j]? = some y → (y.name.toList == nm.toList) = false) → perOf P nm = ⟨⟨#[]⟩, 0, ⟨#[]⟩⟩ ∧ hasP P nm = false
  | [], _, _ => ⟨rfl, rfl⟩
  | y :: P, nm, hz => by
    have h0 := hz 0 y (by simp) rfl
    obtain ⟨h1, h2⟩ := find_no (P := P) (nm := nm) (fun j z hj hjz => hz (j + 1) z (by simpa using hj) (by simpa using hjz))
    unfold perOf hasP at *
    rw [List.find?_cons, List.any_cons, h0]
    exact ⟨h1, by rw [h2]; rfl⟩

set_option maxRecDepth 100000 in
set_option maxHeartbeats 1600000 in
theorem personOf_any (p : Option Addr) (n c : Nat) (P : List PersonV) (nm : ByteArray) (w : World) (hS : Sl 3 perC w p n P) :
    Calls Tryz.prog 54 #[.slice p n c, .string nm] w fun e w' => e = .returned (.tuple #[.agg #[.string (perOf P nm).name, .int .i64 (perOf P nm).high, .string (perOf P nm).sect], .bool (hasP P nm)]) ∧ Ext w w' := by
  have hl := hS.1
  have hn := hS.2.1
  have hE0 : Ext w (w.alloc (.cells #[.string ⟨#[]⟩, .int .i64 0, .string ⟨#[]⟩] 59)) := (Ext.refl _).alloc _
  have hR0 : Blk (w.alloc (.cells #[.string ⟨#[]⟩, .int .i64 0, .string ⟨#[]⟩] 59)) w.heap.size 59 #[.string ⟨#[]⟩, .int .i64 0, .string ⟨#[]⟩] := Blk.new' rfl
  replace hS := Lib.hid hS
  replace hl := Lib.hid hl
  go_enter Tryz.func54, Tryz.ntmps54
  go_upto_region 1 with fail
  generalize w.alloc (.cells #[.string ⟨#[]⟩, .int .i64 0, .string ⟨#[]⟩] 59) = W at *
  go_wp2
  go_loopw [10] (fun v10 wr => ∃ k : Nat, v10 = .int .i64 k ∧ k ≤ n ∧ (∀ j y, j < k → P[j]? = some y → (y.name.toList == nm.toList) = false) ∧ Ext w wr ∧ Blk wr w.heap.size 59 #[.string ⟨#[]⟩, .int .i64 0, .string ⟨#[]⟩]) (fun v10 _ => n - (intOf v10).toNat)
  case atStart => exact ⟨0, rfl, Nat.zero_le _, (fun j y hj => absurd hj (Nat.not_lt_zero _)), hE0, hR0⟩
  case round =>
    clear hE0 hR0
    obtain ⟨k, rfl, hk, hz, hE, hR⟩ := hrel
    have hlw := hR.lt
    obtain ⟨r1, r2⟩ := hR.walk
    replace hz := Lib.hid hz
    by_cases hlt : k < n
    · obtain ⟨x, hx⟩ := getD_some hl.out hlt
      obtain ⟨b, off, rfl, hb, hEl⟩ := hS.out.2.2 (by omega)
      obtain ⟨c0, c1, c2⟩ := (hEl.ext hE hb).per hx
      have hbl := Nat.lt_of_lt_of_le hb hE.size
      have hkI : (k : Int) < n := by omega
      have hE1 : Ext w (wr.alloc (.cells #[.string x.name, .int .i64 x.high, .string x.sect] 59)) := hE.alloc _
      have hR1 := hR.alloc (.cells #[.string x.name, .int .i64 x.high, .string x.sect] 59)
      replace hx := Lib.hid hx
      clear hEl
      cases hc : (x.name.toList == nm.toList)
      · go_wp2
        go_roundw
        case rel => exact ⟨k + 1, by go_num, by omega, (fun j y hj hjy => by
          rcases Nat.lt_or_ge j k with h1 | h1
          · exact hz.out j y h1 hjy
          · obtain rfl : j = k := by omega
            have := hx.out.symm.trans hjy
            cases this
            exact hc), hE1, hR1⟩
        case measure => simp [intOf]; omega
      · obtain ⟨q1, q2⟩ := find_at hx.out hz.out hc
        have hF1 := ((((hR.set_ 0 (.string x.name)).set_ 1 (.int .i64 x.high)).set_ 2 (.string x.sect)).cast (cs' := #[.string x.name, .int .i64 x.high, .string x.sect]) (by simp)).alloc (.cells #[.string x.name, .int .i64 x.high, .string x.sect] 59)
        go_wp2
        go_light
        exact bodyPost_ret (v := .tuple #[.agg #[.string x.name, .int .i64 x.high, .string x.sect], .bool true]) (results_cell_row_tmp Tryz.results54 _ _ w.heap.size 59 _ (0, 0) _ rfl hF1 Tryz.underlying59 rfl (by kernel_rfl) _ rfl) rfl ⟨by first | rfl | rw [q1, q2], (((hE.setCell (p := ⟨w.heap.size, 0, none⟩) (Nat.le_refl _) _).setCell (p := ⟨w.heap.size, 1, none⟩) (Nat.le_refl _) _).setCell (p := ⟨w.heap.size, 2, none⟩) (Nat.le_refl _) _).alloc _⟩
    · obtain rfl : k = n := by omega
      have hkI : ¬ (k : Int) < k := by omega
      obtain ⟨q1, q2⟩ := find_no (P := P) (nm := nm) (by rw [hl.out]; exact hz.out)
      have hF1 := ((((hR.set_ 0 (.string ⟨#[]⟩)).set_ 1 (.int .i64 0)).set_ 2 (.string ⟨#[]⟩)).cast (cs' := #[.string ⟨#[]⟩, .int .i64 0, .string ⟨#[]⟩]) (by simp))
      go_wp2
      go_light
      exact bodyPost_ret (v := .tuple #[.agg #[.string ⟨#[]⟩, .int .i64 0, .string ⟨#[]⟩], .bool false]) (results_cell_row_tmp Tryz.results54 _ _ w.heap.size 59 _ (0, 0) _ rfl hF1 Tryz.underlying59 rfl (by kernel_rfl) _ rfl) rfl ⟨by first | rfl | rw [q1, q2], ((hE.setCell (p := ⟨w.heap.size, 0, none⟩) (Nat.le_refl _) _).setCell (p := ⟨w.heap.size, 1, none⟩) (Nat.le_refl _) _).setCell (p := ⟨w.heap.size, 2, none⟩) (Nat.le_refl _) _⟩
end Go.Proofs.YtfcoeikekbjgpaaGreatDoor

namespace Go.Proofs.YtfcoeikekbjgpaaGreatDoor
open Go Go.RowKit Go.Sort

/-- Nothing but draws. -/
def Drw (w w' : World) : Prop := ∃ q, w' = w.drewN q
theorem Drw.refl (w : World) : Drw w w := ⟨0, rfl⟩
theorem Drw.trans {a b c : World} (h : Drw a b) (k : Drw b c) : Drw a c := by
  obtain ⟨q, rfl⟩ := h
  obtain ⟨r, rfl⟩ := k
  exact ⟨q + r, by simp [World.drewN, Nat.add_assoc]⟩
theorem Blk.drw {w w' : World} {g : Nat} {t : TypeId} {cs : Array Value} (h : Blk w g t cs) (he : Drw w w') : Blk w' g t cs := by
  obtain ⟨q, rfl⟩ := he
  exact h
set_option maxRecDepth 100000 in
theorem cmpIntE_any (x y : Int) (w : World) :
    Calls Tryz.prog 78 #[.int .i64 x, .int .i64 y] w fun e w' => e = .returned (.int .i64 (cmpZ x y)) ∧ Drw w w' := by
  have hc : (x < y ∧ cmpZ x y = -1) ∨ (x = y ∧ cmpZ x y = 0) ∨ (y < x ∧ cmpZ x y = 1) := by unfold cmpZ; split <;> (try split) <;> omega
  rcases hc with ⟨h, hv⟩ | ⟨h, hv⟩ | ⟨h, hv⟩
  all_goals
    rw [hv]
    clear hv
    go_enter Tryz.func78, Tryz.ntmps78
    go_wp2_with (go_at_call 115; (with_reducible refine Calls.mono (isNaNI_any _ _) ?_); rintro e w' ⟨rfl, rfl⟩)
    go_ret
    exact ⟨rfl, Drw.refl _⟩

theorem grow_three (w : World) (q : Nat) (A B C : Obj) : (((w.alloc A).alloc B).drew.drewN q).alloc C = grow (w.drewN (q + 1)) #[A, B, C] := by
  rw [alloc_eq_grow, alloc_eq_grow, alloc_eq_grow, drew_eq_ahead]
  simp [grow, World.drewN, ahead, Nat.add_assoc, Nat.add_comm]
  refine ⟨?_, by omega, rfl, rfl⟩
  show ((w.heap.push A).push B).push C = _
  apply Array.ext'
  simp
set_option maxRecDepth 100000 in
set_option maxHeartbeats 1600000 in
theorem compareG_any (a b : StandV) (w : World) :
    Calls Tryz.prog 65 #[.agg #[.string a.name, .int .i64 a.row, .int .i64 a.place], .agg #[.string b.name, .int .i64 b.row, .int .i64 b.place]] w fun e w' => e = .returned (.int .i64 (cmpV a b)) ∧ ∃ q os', w' = grow (w.drewN q) os' := by
  rw [← cmpV_or]
  have hX : Blk ((w.alloc (.cells #[.string a.name, .int .i64 a.row, .int .i64 a.place] 48)).alloc (.cells #[.string b.name, .int .i64 b.row, .int .i64 b.place] 48)) w.heap.size 48 #[.string a.name, .int .i64 a.row, .int .i64 a.place] := (Blk.new' rfl).alloc _
  have hY : Blk ((w.alloc (.cells #[.string a.name, .int .i64 a.row, .int .i64 a.place] 48)).alloc (.cells #[.string b.name, .int .i64 b.row, .int .i64 b.place] 48)) (w.heap.size + 1) 48 #[.string b.name, .int .i64 b.row, .int .i64 b.place] := Blk.new' (by simp)
  go_enter Tryz.func65, Tryz.ntmps65
  go_upto_region 1 with fail
  refine wp_region_planS [(0, true), (1, true), (2, true), (3, true), (4, true), (5, true), (6, true), (7, true), (8, true), (9, true)] 10 (fun w' => Blk w' w.heap.size 48 #[.string a.name, .int .i64 a.row, .int .i64 a.place] ∧ Blk w' (w.heap.size + 1) 48 #[.string b.name, .int .i64 b.row, .int .i64 b.place]) Drw (by kernel_rfl) (by kernel_rfl) Drw.refl (fun _ _ _ => Drw.trans) (fun _ _ h he => ⟨h.1.drw he, h.2.drw he⟩) ⟨(by (repeat (with_reducible first | assumption | exact Blk.new' (by simp) | refine Blk.drew ?_ | refine Blk.alloc ?_ _ | exact Drw.refl _ | refine Ext.drew ?_ | refine Ext.alloc ?_ _))), (by (repeat (with_reducible first | assumption | exact Blk.new' (by simp) | refine Blk.drew ?_ | refine Blk.alloc ?_ _ | exact Drw.refl _ | refine Ext.drew ?_ | refine Ext.alloc ?_ _)))⟩ ?_
  repeat
    first
      | (refine plan_quiet rfl rfl (fun _ _ _ _ h => h) ?_
         apply Exists.intro
         refine ⟨fun w' hw' => ?_, ?_⟩
         · obtain ⟨hH0, hH1⟩ := hw'
           unfold Blk at hH0 hH1
           simp [go_sem, quietTo, World.cell?, hH0, hH1, Drw.refl, ↓IntWalk.iteOmega]
           first
             | rfl
             | (exact cmpIntE_any _ _ _)
         simp only [Act.put, List.setIfInBounds_toArray, List.set_cons_succ, List.set_cons_zero])
      | (refine plan_skip rfl rfl (fun _ _ _ _ h => h) ?_
         simp only [Act.put, List.setIfInBounds_toArray, List.set_cons_succ, List.set_cons_zero])
  refine plan_nil fun wr her hwr => ?_
  obtain ⟨hH0, hH1⟩ := hwr
  obtain ⟨hC0, hF0⟩ := hH0.walk
  obtain ⟨hC1, hF1⟩ := hH1.walk
  simp only [List.drop_succ_cons, List.drop_zero, List.drop_nil]
  go_wp2_with (go_at_call 77; refine (orInt_blk _ _ 2 [cmpZ a.row b.row, cmpZ a.place b.place] _ (by simp) (Blk.new' rfl)).mono ?_; rintro e w2 ⟨rfl, rfl⟩)
  go_ret
  refine ⟨rfl, ?_⟩
  obtain ⟨q, rfl⟩ := her
  exact ⟨q + 1, _, grow_three _ _ _ _ _⟩
end Go.Proofs.YtfcoeikekbjgpaaGreatDoor

namespace Go.Proofs.YtfcoeikekbjgpaaGreatDoor
open Go Go.RowKit Go.Sort

theorem flat_lenK {α : Type} {k : Nat} {enc : α → List Value} (hk : ∀ x, (enc x).length = k) : ∀ (xs : List α), (xs.flatMap enc).length = xs.length * k
  | [] => by simp
  | x :: l => by rw [List.flatMap_cons, List.length_append, flat_lenK hk l, hk, List.length_cons, Nat.add_mul]; omega
theorem flat_get {α : Type} [Inhabited α] {k : Nat} {enc : α → List Value} (hk : ∀ x, (enc x).length = k) (xs : List α) {t : Nat} (ht : t < xs.length * k) : (xs.flatMap enc)[t]? = some (flatK enc k xs.toArray)[t]! := by
  have hk0 : 0 < k := by rcases Nat.eq_zero_or_pos k with h | h; (subst h; simp at ht); exact h
  rw [get_flatK enc k xs.toArray t (by simpa using ht)]
  have hi : t / k < xs.length := (Nat.div_lt_iff_lt_mul hk0).2 ht
  have hj : t % k < k := Nat.mod_lt _ hk0
  have hx : xs[t / k]? = some xs[t / k] := List.getElem?_eq_getElem hi
  have hjl : t % k < (enc xs[t / k]).length := by rw [hk]; exact hj
  have hu : (enc xs[t / k])[t % k]? = some (enc xs[t / k])[t % k] := List.getElem?_eq_getElem hjl
  have h1 := flat_at hk xs (t / k) _ hx (t % k) _ hu
  rw [Nat.div_add_mod' t k] at h1
  rw [h1]
  congr 1
  have e1 : xs.toArray[t / k]! = xs[t / k] := by simp [getElem!_pos, hi]
  rw [e1, getElem!_pos (enc xs[t / k]) (t % k) hjl]
theorem holdsK_own {α : Type} [Inhabited α] {k : Nat} {enc : α → List Value} (hk : ∀ x, (enc x).length = k) {w : World} {base : Nat} {e : TypeId} {g n cap : Nat} {xs : List α} (h : w.ownsRow base e k (.slice (some ⟨g, 0, none⟩) n cap) n (xs.flatMap enc)) : HoldsK enc k w g 0 xs.toArray := by
  intro j hj
  have hj' : j < xs.length * k := by simpa using hj
  have hn : xs.length * k = n * k := by have := h.1; rw [flat_lenK hk] at this; exact this
  refine ⟨?_, h.frozenAt _⟩
  rw [Nat.zero_add]
  exact (h.cellAt j (by omega)).trans (flat_get hk xs hj')
theorem own_sortK {α : Type} [Inhabited α] {k : Nat} {enc : α → List Value} (hk : ∀ x, (enc x).length = k) {w : World} {base : Nat} {e : TypeId} {g n cap m : Nat} {os : Array Obj} {xs ys : List α} (h : w.ownsRow base e k (.slice (some ⟨g, 0, none⟩) n cap) n (xs.flatMap enc)) (hy : ys.length = xs.length) :
    (sortWorldK enc k w g 0 m ys.toArray os).ownsRow base e k (.slice (some ⟨g, 0, none⟩) n cap) n (ys.flatMap enc) := by
  have hl := h.1
  rw [flat_lenK hk] at hl
  refine ⟨by rw [flat_lenK hk, hy, hl], ?_⟩
  rcases h.2 with ⟨h1, -⟩ | ⟨g', cap', cur, h1, hb, hg, hnc, hcm, hcs, htk⟩
  · cases h1
  cases h1
  have hgl : g < w.heap.size := (Array.getElem?_eq_some_iff.1 hg).1
  refine .inr ⟨g, cap, putCells id 0 (flatK enc k ys.toArray) cur, rfl, hb, ?_, hnc, hcm, by simp [putCells, hcs], ?_⟩
  · have hs : (w.heap.modify g (onCells (putCells id 0 (flatK enc k ys.toArray)))).size = w.heap.size := by simp
    show (w.heap.modify g (onCells (putCells id 0 (flatK enc k ys.toArray))) ++ os)[g]? = _
    rw [Array.getElem?_append_left (by rw [hs]; exact hgl), Array.getElem?_modify, if_pos rfl, hg]
    rfl
  · have hle : n * k ≤ cur.size := by rw [hcs]; exact Nat.mul_le_mul_right _ hnc
    apply List.ext_getElem?
    intro t
    rw [List.getElem?_take]
    by_cases ht : t < n * k
    · rw [if_pos ht, flat_get hk ys (by rw [hy, hl]; exact ht)]
      have hz : (flatK enc k ys.toArray).size = n * k := by rw [size_flatK]; simp [hy, hl]
      have htc : t < cur.size := by omega
      rw [Array.getElem?_toList, putCells, Array.getElem?_mapIdx, Array.getElem?_eq_getElem htc]
      simp [hz, ht]
    · rw [if_neg ht, List.getElem?_eq_none (by rw [flat_lenK hk, hy, hl]; omega)]
theorem ext_sortK {α : Type} [Inhabited α] {k : Nat} {enc : α → List Value} {a w : World} (h : Ext a w) {g m : Nat} {os : Array Obj} {ys : Array α} (hg : a.heap.size ≤ g) : Ext a (sortWorldK enc k w g 0 m ys os) := by
  have hs : (w.heap.modify g (onCells (putCells id 0 (flatK enc k ys)))).size = w.heap.size := by simp
  refine ⟨h.os, h.tape, h.output, ?_, fun i hi => ?_⟩
  · show a.heap.size ≤ (w.heap.modify g (onCells (putCells id 0 (flatK enc k ys))) ++ os).size
    rw [Array.size_append, hs]
    have := h.size
    omega
  · have hiw : i < w.heap.size := Nat.lt_of_lt_of_le hi h.size
    show (w.heap.modify g (onCells (putCells id 0 (flatK enc k ys))) ++ os)[i]? = _
    rw [Array.getElem?_append_left (by rw [hs]; exact hiw), Array.getElem?_modify, if_neg (by omega)]
    exact h.block i hi
end Go.Proofs.YtfcoeikekbjgpaaGreatDoor

namespace Go.Proofs.YtfcoeikekbjgpaaGreatDoor
open Go Go.RowKit Go.Sort

section
variable {α : Type} [Inhabited α] {lt lt2 : α → α → Bool}
variable {R : α → α → Prop} (hR : ∀ x y, R x y → lt y x = lt2 y x)
include hR
end

def cmpPer (a b : PersonV) : Int := orF [cmpZ a.high b.high, cmpS a.name b.name]
/-- Strictly ahead, by height and name. -/
def LtP (a b : PersonV) : Prop := a.high < b.high ∨ (a.high = b.high ∧ cmpS a.name b.name = -1)
theorem cmpS_anti {a b : ByteArray} (h : cmpS a b = 1) : cmpS b a = -1 := cb_anti h
theorem cmpS_flip {a b : ByteArray} (h : cmpS a b = -1) : cmpS b a = 1 := by
  rcases cmpS_three b a with e | e | e
  · have := cmpS_trans h e
    rw [cmpS_refl] at this
    cases this
  · rw [cmpS_zero e, cmpS_refl] at h
    cases h
  · exact e
theorem cmpZ_lt {x y : Int} : cmpZ x y < 0 ↔ x < y := by unfold cmpZ; split <;> (try split) <;> omega
theorem cmpZ_zero {x y : Int} : cmpZ x y = 0 ↔ x = y := by unfold cmpZ; split <;> (try split) <;> omega
theorem cmpS_neg {a b : ByteArray} : cmpS a b < 0 ↔ cmpS a b = -1 := by rcases cmpS_three a b with h | h | h <;> omega
theorem ltP_iff (a b : PersonV) : ltOf cmpPer a b = true ↔ LtP a b := by
  unfold ltOf cmpPer orF orF LtP orF
  rw [decide_eq_true_iff]
  by_cases h : cmpZ a.high b.high = 0
  · rw [if_pos h]
    have h' := cmpZ_zero.1 h
    by_cases h2 : cmpS a.name b.name = 0
    · rw [if_pos h2]
      constructor
      · intro h; omega
      · rintro (h | ⟨-, h⟩) <;> omega
    · rw [if_neg h2, cmpS_neg]
      exact ⟨fun h => .inr ⟨h', h⟩, fun h => by rcases h with h | ⟨-, h⟩; omega; exact h⟩
  · rw [if_neg h, cmpZ_lt]
    have h' : ¬ a.high = b.high := fun e => h (cmpZ_zero.2 e)
    exact ⟨fun h => .inl h, fun h => by rcases h with h | ⟨e, -⟩; exact h; exact absurd e h'⟩
theorem ltP_asym {a b : PersonV} (h : LtP a b) (k : LtP b a) : False := by
  unfold LtP at h k
  rcases h with h | ⟨h1, h2⟩ <;> rcases k with k | ⟨k1, k2⟩
  · omega
  · omega
  · omega
  · rw [cmpS_flip h2] at k2; cases k2
theorem ltP_trans {a b c : PersonV} (h : LtP a b) (k : LtP b c) : LtP a c := by
  unfold LtP at *
  rcases h with h | ⟨h1, h2⟩ <;> rcases k with k | ⟨k1, k2⟩
  · exact .inl (by omega)
  · exact .inl (by omega)
  · exact .inl (by omega)
  · exact .inr ⟨by omega, cmpS_trans h2 k2⟩
theorem ltP_not {a b : PersonV} (h : ¬ LtP a b) : b.high < a.high ∨ (a.high = b.high ∧ (cmpS a.name b.name = 0 ∨ cmpS b.name a.name = -1)) := by
  unfold LtP at h
  rcases Int.lt_trichotomy a.high b.high with e | e | e
  · exact absurd (.inl e) h
  · refine .inr ⟨e, ?_⟩
    rcases cmpS_three a.name b.name with h1 | h1 | h1
    · exact absurd (.inr ⟨e, h1⟩) h
    · exact .inl h1
    · exact .inr (cmpS_anti h1)
  · exact .inl e
theorem per_swo : SWO (ltOf cmpPer) where
  irrefl x := by
    rw [← Bool.not_eq_true, ltP_iff]
    exact fun h => ltP_asym h h
  trans x y z h1 h2 := by
    rw [ltP_iff] at *
    exact ltP_trans h1 h2
  ntrans x y z h1 h2 := by
    rw [← Bool.not_eq_true, ltP_iff] at *
    have k1 := ltP_not h1
    have k2 := ltP_not h2
    rintro (h | ⟨h, h'⟩)
    · rcases k1 with k1 | ⟨k1, -⟩ <;> rcases k2 with k2 | ⟨k2, -⟩ <;> omega
    · rcases k1 with k1 | ⟨e1, k1⟩ <;> rcases k2 with k2 | ⟨e2, k2⟩ <;> try omega
      rcases k1 with k1 | k1 <;> rcases k2 with k2 | k2
      · rw [cmpS_zero k1, cmpS_zero k2, cmpS_refl] at h'; cases h'
      · rw [cmpS_zero k1] at h'
        rw [cmpS_flip k2] at h'; cases h'
      · rw [← cmpS_zero k2] at h'
        rw [cmpS_flip k1] at h'; cases h'
      · rw [cmpS_flip (cmpS_trans k2 k1)] at h'; cases h'

/-- By height, from the shortest one on. -/
def ByH (P M : List PersonV) : Prop := M.Perm P ∧ M.Pairwise LtP
/-- A sort by height and name of people whose names differ. -/
theorem byH_of {P : List PersonV} (hok : PeopleOk P) {d : Array PersonV} (hp : PermIn 0 P.length P.toArray d) (hs : SortedIn (ltOf cmpPer) 0 P.length d) : ByH P d.toList := by
  have hsz : d.size = P.length := by have := hp.1; simpa using this
  have e1 : d.extract 0 P.toArray.size = d := by simp [← hsz]
  have hperm : d.toList.Perm P := by
    have h9 := hp.2.2
    have e2 : d.extract 0 P.length = d := by simp [← hsz]
    rw [e2] at h9
    simpa using h9
  refine ⟨hperm, ?_⟩
  have hdis : P.Pairwise fun a b => a.name ≠ b.name := by
    rw [List.pairwise_iff_getElem]
    intro i j hi hj hij e
    have := hok.less (List.getElem?_eq_getElem hi) (List.getElem?_eq_getElem hj) hij
    rw [e, cmpS_refl] at this
    cases this
  have hdd := (hperm.symm.pairwise_iff (fun {x y} h k => h k.symm)).1 hdis
  rw [List.pairwise_iff_getElem] at hdd ⊢
  intro i j hi hj hij
  have h1 := hdd i j hi hj hij
  have h9 := hs i j (Nat.zero_le _) hij (by simp at hj; omega)
  rw [← Bool.not_eq_true, ltP_iff] at h9
  simp at hi hj
  rw [getElem!_pos d j hj, getElem!_pos d i hi] at h9
  rcases ltP_not h9 with h | ⟨h, k | k⟩
  · exact .inl h
  · exact absurd (cmpS_zero k).symm h1
  · exact .inr ⟨h.symm, k⟩
end Go.Proofs.YtfcoeikekbjgpaaGreatDoor

namespace Go.Proofs.YtfcoeikekbjgpaaGreatDoor
open Go Go.RowKit

/-- 'out = append(out, xs...)'. -/
theorem run_app_nil {P : Program} (w : World) (base : Nat) (t ty e : TypeId) (i : TypeInfo) (size : Nat) (ht : P.underlying t = some (.slice e)) (hi : P.info? e = some i)
    (v : Value) (n : Nat) (xs : List Value) (hown : w.ownsRow base e size v n xs) (c : Nat) : (Builtin.append_ #[t, t] ty #[v, .slice none 0 c]).run P w = .ok v w := by
  rcases hown.2 with ⟨rfl, rfl⟩ | ⟨g, cap, cur, rfl, _, _, hnc, _⟩
  · simp [Builtin.append_, run_underlying ht, sizeOf, typeInfo, hi, Builtin.lenOf, Builtin.firstCells]
  · simp [Builtin.append_, run_underlying ht, sizeOf, typeInfo, hi, Builtin.lenOf, Builtin.firstCells, hnc, storeCells]
theorem wp_appS {α : Type} {P : Program} (w : World) {ops : Array Oper} {rest : List Oper} {o : Oper} {a : Act} {Q : Exit → Act → World → Prop} (s x : Operand) (t e : TypeId) (k bytes : Nat) (z : Value) (hgd : o.guard = none)
    (ho : o.op = .call { callee := .builtin .append, args := #[s, x], argTypes := #[t, t] })
    (ht : P.underlying t = some (.slice e)) (hinfo : (P.info? e).map (fun i => (i.zero, i.size, i.bytes)) = some (some z, k, bytes)) (hzs : z.cells.size = k) (hsz : 0 < k) (hby : bytes ≤ 1000)
    (enc : α → List Value) (hk : ∀ x, (enc x).length = k) (h1 : ∀ x, ∀ u ∈ enc x, u.oneCell' = true)
    (base : Nat) (v : Value) (n : Nat) (xs : List Value) (hs : a.eval s = v) (hown : w.ownsRow base e k v n xs)
    (p : Option Addr) (m c : Nat) (ys : List α) (hx : a.eval x = .slice p m c) (hS : Slc k enc w p m c ys)
    (hn : n + m ≤ 1000000000) (hbase : base ≤ w.heap.size)
    (h : ∀ v' w', w'.ownsRow base e k v' (n + m) (xs ++ ys.flatMap enc) → w.grownBy w' v.ownBlock → wpList P ops Q rest (a.put o.dst v') w') : wpList P ops Q (o :: rest) a w := by
  obtain ⟨i0, hi, hz0, hz1, hz2⟩ := info_parts hinfo
  obtain ⟨hl, hcs⟩ := slcC hS
  have hl2 : m = ys.length := hl
  cases p with
  | none =>
    have hm : m = 0 := hS.2.2.1 rfl
    have hys : ys = [] := List.eq_nil_of_length_eq_zero (by omega)
    subst hys
    subst hm
    have hrun := run_app_nil (P := P) w base t o.type e i0 k ht hi v n xs hown c
    refine wpList_plain hgd fun K hK => ?_
    unfold Oper.wp
    simp [execOp, ho, resolve, invoke, builtin, hs, hx, hrun, Result.andThen]
    exact hK _ _ (h v w (by simpa using hown) (World.grownBy.refl w _))
  | some ad =>
    refine wpList_append_own w hgd s x t ho base e i0 z k bytes ht hi hz0 hz1 hz2 hzs hsz v n xs hs hown ad m c (ys.flatMap enc) hx (by rw [flat_lenK hk, hl2]) (fun j u hu => ?_) (fun u hu => ?_) ?_ ?_ hbase (fun v' w' h2 h3 h4 => h v' w' h2 h3)
    · have hj : j < ys.length * k := by rw [← flat_lenK hk]; exact (List.getElem?_eq_some_iff.1 hu).1
      have hn0 : m ≠ 0 := fun h0 => by rw [← hl2, h0] at hj; simp at hj
      obtain ⟨b, off, hpe, hb, hE⟩ := hS.1.2.2 hn0
      cases hpe
      have hq : j / k < ys.length := (Nat.div_lt_iff_lt_mul hsz).2 hj
      have hjm : j % k < k := Nat.mod_lt _ hsz
      have hyx : ys[j / k]? = some ys[j / k] := List.getElem?_eq_getElem hq
      have hux : (enc ys[j / k])[j % k]? = some ((enc ys[j / k])[j % k]'(by rw [hk]; exact hjm)) := List.getElem?_eq_getElem _
      have h2 := hE _ _ hyx _ _ hux
      have h3 := flat_at hk ys (j / k) _ hyx (j % k) _ hux
      rw [Nat.div_add_mod' j k] at h3
      rw [h3] at hu
      cases hu
      have h4 : (⟨b, off, none⟩ : Addr).add j = ⟨b, off + j, none⟩ := by unfold Addr.add; split <;> simp_all
      rw [h4, show off + j = off + j / k * k + j % k by rw [Nat.add_assoc, Nat.div_add_mod']]
      exact h2
    · obtain ⟨y, -, hy⟩ := List.mem_flatMap.1 hu
      exact h1 y u hy
    · unfold maxLen; omega
    · have : (n + m) * bytes ≤ 1000000000 * 1000 := Nat.mul_le_mul hn hby
      omega

theorem Slc.takeZ {α : Type} {k : Nat} {enc : α → List Value} {w : World} {p : Option Addr} {n c : Nat} {xs : List α} (h : Slc k enc w p n c xs) {m : Nat} (hm : m ≤ n) : Slc k enc w p m c (xs.take m) := by
  obtain ⟨hS, hnc, hp0, hp⟩ := h
  refine ⟨⟨by rw [List.length_take, hS.1]; omega, by have := hS.2.1; omega, fun h0 => ?_⟩, by omega, fun e => by have := hp0 e; omega, hp⟩
  obtain ⟨b, off, e, hb, hE⟩ := hS.2.2 (by omega)
  refine ⟨b, off, e, hb, fun i x hx j u hu => hE i x ?_ j u hu⟩
  rw [List.getElem?_take] at hx
  split at hx
  · exact hx
  · cases hx
theorem Slc.dropS {α : Type} {k : Nat} {enc : α → List Value} {w : World} {b off n c : Nat} {xs : List α} (h : Slc k enc w (some ⟨b, off, none⟩) n c xs) {m : Nat} (hm : m ≤ n) : Slc k enc w (some ⟨b, off + m * k, none⟩) (n - m) (c - m) (xs.drop m) := by
  obtain ⟨hS, hnc, hp0, hp⟩ := h
  obtain ⟨b', off', e0, hb0⟩ := hp _ rfl
  cases e0
  refine ⟨⟨by rw [List.length_drop, hS.1], by have := hS.2.1; omega, fun h0 => ?_⟩, by omega, fun e => (by cases e), fun a ha => ⟨_, _, (Option.some.inj ha).symm, hb0⟩⟩
  obtain ⟨b2, off2, e, hb, hE⟩ := hS.2.2 (by omega)
  cases e
  refine ⟨b, _, rfl, hb, fun i x hx j u hu => ?_⟩
  rw [List.getElem?_drop] at hx
  have := hE _ x hx j u hu
  rw [Nat.add_mul] at this
  rw [show off + m * k + i * k + j = off + (m * k + i * k) + j by omega]
  exact this
theorem Slc.empty {α : Type} {k : Nat} {enc : α → List Value} {w : World} {p : Option Addr} {n c d : Nat} {xs : List α} (h : Slc k enc w p n c xs) : Slc k enc w p 0 d [] :=
  ⟨⟨rfl, Nat.zero_le _, fun h0 => absurd rfl h0⟩, Nat.zero_le _, fun _ => rfl, h.2.2.2⟩

/-- A slice cut at m, whatever it is. -/
theorem Slc.cut {α : Type} {k : Nat} {enc : α → List Value} {w : World} {p : Option Addr} {n c : Nat} {xs : List α} (h : Slc k enc w p n c xs) {m : Nat} (hm : m ≤ n) : ∃ (p' : Option Addr), Slc k enc w p' (n - m) (c - m) (xs.drop m) ∧ (∀ a, p' = some a → ∃ a0, p = some a0 ∧ a.block = a0.block) ∧
    ((p = none ∧ p' = none ∧ n = 0) ∨ ∃ b off, p = some ⟨b, off, none⟩ ∧ (m = c ∧ p' = p ∨ m < c ∧ p' = some ⟨b, off + m * k, none⟩)) := by
  have h3 := h.2.1
  cases p with
  | none =>
    have h0 := h.2.2.1 rfl
    have hx : xs = [] := List.eq_nil_of_length_eq_zero (by rw [h.1.1]; exact h0)
    subst hx
    refine ⟨none, ?_, (fun a ha => by cases ha), .inl ⟨rfl, rfl, h0⟩⟩
    rw [List.drop_nil, h0, Nat.zero_sub]
    exact ⟨(h.empty (d := 0)).1, Nat.zero_le _, fun _ => rfl, fun a ha => by cases ha⟩
  | some a =>
    obtain ⟨b, off, rfl, hb⟩ := h.2.2.2 a rfl
    by_cases hc : m = c
    · have e : n - m = 0 := by omega
      have e2 : xs.drop m = [] := List.drop_eq_nil_of_le (by rw [h.1.1]; omega)
      rw [e, e2]
      exact ⟨_, h.empty (d := c - m) |> fun k => ⟨k.1, Nat.zero_le _, k.2.2⟩, (fun a ha => by cases ha; exact ⟨_, rfl, rfl⟩), .inr ⟨b, off, rfl, .inl ⟨hc, rfl⟩⟩⟩
    · exact ⟨_, h.dropS hm, (fun a ha => by cases ha; exact ⟨_, rfl, rfl⟩), .inr ⟨b, off, rfl, .inr ⟨by omega, rfl⟩⟩⟩
end Go.Proofs.YtfcoeikekbjgpaaGreatDoor
