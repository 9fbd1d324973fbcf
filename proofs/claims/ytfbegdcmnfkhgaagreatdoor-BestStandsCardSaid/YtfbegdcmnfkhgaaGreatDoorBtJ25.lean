/- A person found by the document's text. Conditions: sizes. How stands are ordered, by both texts: what the comparison leaves of the world. Conditions: none. -/
import Derived.Test.YtfbegdcmnfkhgaaGreatDoorBtStP
import Derived.Laws.ResultCell
import Derived.Laws.Rows
import Derived.Sort.Grow
set_option linter.unusedSimpArgs false
set_option linter.unusedVariables false
namespace Go.Proofs.YtfbegdcmnfkhgaaGreatDoor
open Go Go.RowKit

theorem results_cell_row_tmp {P : Program} {fn : Func} {p u : Tmp} {ty : TypeId} (h : fn.results = #[.cell p ty, .tmp u]) (tmps : Array Value) (w : World) (g : Nat) (t : TypeId) (cs : Array Value) (fr : Nat × Nat) (d : TypeDesc)
    (hp : tmps.getD p undef = .pointer (some ⟨g, 0, none⟩)) (hg : w.heap[g]? = some (.cells cs t fr))
    (hu : P.underlying ty = some d) (hd : (match d with | .struct _ | .array _ _ => true | _ => false) = true) (hi : (P.info? ty).map (·.size) = some cs.size) (v : Value) (hv : tmps.getD u undef = v) :
    (results fn tmps).run P w = .ok (.tuple #[.agg cs, v]) w := by
  rw [results_cell_tmp h, hp, hv]
  simp [asAddr, Result.andThen, run_loadVar_row w g t ty cs fr d hg hu hd hi]
/-- The person of a name, or none. -/
def perOf (P : List PersonV) (nm : ByteArray) : PersonV := (P.find? fun x => x.name.toList == nm.toList).getD ⟨⟨#[]⟩, 0, ⟨#[]⟩⟩
theorem perOf_high (P : List PersonV) (nm : ByteArray) : (perOf P nm).high = heightOf P nm := by
  unfold perOf heightOf
  cases P.find? fun x => x.name.toList == nm.toList <;> rfl
theorem find_at : ∀ {P : List PersonV} {nm : ByteArray} {k : Nat} {x : PersonV}, P[k]? = some x → (∀ j y, j < k → P[j]? = some y → (y.name.toList == nm.toList) = false) → (x.name.toList == nm.toList) = true → perOf P nm = x ∧ hasP P nm = true
  | [], _, _, _, h, _, _ => by cases h
  | y :: P, nm, 0, x, h, _, hx => by
    obtain rfl : y = x := by simpa using h
    unfold perOf hasP
    rw [List.find?_cons, List.any_cons, hx]
    exact ⟨rfl, rfl⟩
  | y :: P, nm, k + 1, x, h, hz, hx => by
    have h0 := hz 0 y (by omega) rfl
    obtain ⟨h1, h2⟩ := find_at (P := P) (nm := nm) (k := k) (x := x) (by simpa using h) (fun j z hj hjz => hz (j + 1) z (by omega) (by simpa using hjz)) hx
    unfold perOf hasP at *
    rw [List.find?_cons, List.any_cons, h0]
    exact ⟨h1, by rw [h2]; rfl⟩
theorem find_no : ∀ {P : List PersonV} {nm : ByteArray}, (∀ j y, j < P.length → P[j]? = some y → (y.name.toList == nm.toList) = false) → perOf P nm = ⟨⟨#[]⟩, 0, ⟨#[]⟩⟩ ∧ hasP P nm = false
  | [], _, _ => ⟨rfl, rfl⟩
  | y :: P, nm, hz => by
    have h0 := hz 0 y (by simp) rfl
    obtain ⟨h1, h2⟩ := find_no (P := P) (nm := nm) (fun j z hj hjz => hz (j + 1) z (by simpa using hj) (by simpa using hjz))
    unfold perOf hasP at *
    rw [List.find?_cons, List.any_cons, h0]
    exact ⟨h1, by rw [h2]; rfl⟩

set_option maxRecDepth 100000 in
set_option maxHeartbeats 1600000 in
theorem personOf_any (p : Option Addr) (n c : Nat) (P : List PersonV) (nm : ByteArray) (w : World) (hS : Sl 3 perC w p n P) :
    Calls Tryz.prog 172 #[.slice p n c, .string nm] w fun e w' => e = .returned (.tuple #[.agg #[.string (perOf P nm).name, .int .i64 (perOf P nm).high, .string (perOf P nm).sect], .bool (hasP P nm)]) ∧ Ext w w' := by
  have hl := hS.1
  have hn := hS.2.1
  have hE0 : Ext w (w.alloc (.cells #[.string ⟨#[]⟩, .int .i64 0, .string ⟨#[]⟩] 59)) := (Ext.refl _).alloc _
  have hR0 : Blk (w.alloc (.cells #[.string ⟨#[]⟩, .int .i64 0, .string ⟨#[]⟩] 59)) w.heap.size 59 #[.string ⟨#[]⟩, .int .i64 0, .string ⟨#[]⟩] := Blk.new' rfl
  replace hS := Lib.hid hS
  replace hl := Lib.hid hl
  go_enter Tryz.func172, Tryz.ntmps172
  go_upto_region 1 with fail
  generalize w.alloc (.cells #[.string ⟨#[]⟩, .int .i64 0, .string ⟨#[]⟩] 59) = W at *
  go_wp2
  go_loopw [10] (fun v10 wr => ∃ k : Nat, v10 = .int .i64 k ∧ k ≤ n ∧ (∀ j y, j < k → P[j]? = some y → (y.name.toList == nm.toList) = false) ∧ Ext w wr ∧ Blk wr w.heap.size 59 #[.string ⟨#[]⟩, .int .i64 0, .string ⟨#[]⟩]) (fun v10 _ => n - (intOf v10).toNat)
  case atStart => exact ⟨0, rfl, Nat.zero_le _, (fun j y hj => absurd hj (Nat.not_lt_zero _)), hE0, hR0⟩
  case round =>
    clear hE0 hR0
    obtain ⟨k, rfl, hk, hz, hE, hR⟩ := hrel
    have hlw := hR.lt
    obtain ⟨r1, r2⟩ := hR.walk
    replace hz := Lib.hid hz
    by_cases hlt : k < n
    · obtain ⟨x, hx⟩ := getD_some hl.out hlt
      obtain ⟨b, off, rfl, hb, hEl⟩ := hS.out.2.2 (by omega)
      obtain ⟨c0, c1, c2⟩ := (hEl.ext hE hb).per hx
      have hbl := Nat.lt_of_lt_of_le hb hE.size
      have hkI : (k : Int) < n := by omega
      have hE1 : Ext w (wr.alloc (.cells #[.string x.name, .int .i64 x.high, .string x.sect] 59)) := hE.alloc _
      have hR1 := hR.alloc (.cells #[.string x.name, .int .i64 x.high, .string x.sect] 59)
      replace hx := Lib.hid hx
      clear hEl
      cases hc : (x.name.toList == nm.toList)
      · go_wp2
        go_roundw
        case rel => exact ⟨k + 1, by go_num, by omega, (fun j y hj hjy => by
          rcases Nat.lt_or_ge j k with h1 | h1
          · exact hz.out j y h1 hjy
          · obtain rfl : j = k := by omega
            have := hx.out.symm.trans hjy
            cases this
            exact hc), hE1, hR1⟩
        case measure => simp [intOf]; omega
      · obtain ⟨q1, q2⟩ := find_at hx.out hz.out hc
        have hF1 := ((((hR.set_ 0 (.string x.name)).set_ 1 (.int .i64 x.high)).set_ 2 (.string x.sect)).cast (cs' := #[.string x.name, .int .i64 x.high, .string x.sect]) (by simp)).alloc (.cells #[.string x.name, .int .i64 x.high, .string x.sect] 59)
        go_wp2
        go_light
        exact bodyPost_ret (v := .tuple #[.agg #[.string x.name, .int .i64 x.high, .string x.sect], .bool true]) (results_cell_row_tmp Tryz.results172 _ _ w.heap.size 59 _ (0, 0) _ rfl hF1 Tryz.underlying59 rfl (by kernel_rfl) _ rfl) rfl ⟨by first | rfl | rw [q1, q2], (((hE.setCell (p := ⟨w.heap.size, 0, none⟩) (Nat.le_refl _) _).setCell (p := ⟨w.heap.size, 1, none⟩) (Nat.le_refl _) _).setCell (p := ⟨w.heap.size, 2, none⟩) (Nat.le_refl _) _).alloc _⟩
    · obtain rfl : k = n := by omega
      have hkI : ¬ (k : Int) < k := by omega
      obtain ⟨q1, q2⟩ := find_no (P := P) (nm := nm) (by rw [hl.out]; exact hz.out)
      have hF1 := ((((hR.set_ 0 (.string ⟨#[]⟩)).set_ 1 (.int .i64 0)).set_ 2 (.string ⟨#[]⟩)).cast (cs' := #[.string ⟨#[]⟩, .int .i64 0, .string ⟨#[]⟩]) (by simp))
      go_wp2
      go_light
      exact bodyPost_ret (v := .tuple #[.agg #[.string ⟨#[]⟩, .int .i64 0, .string ⟨#[]⟩], .bool false]) (results_cell_row_tmp Tryz.results172 _ _ w.heap.size 59 _ (0, 0) _ rfl hF1 Tryz.underlying59 rfl (by kernel_rfl) _ rfl) rfl ⟨by first | rfl | rw [q1, q2], ((hE.setCell (p := ⟨w.heap.size, 0, none⟩) (Nat.le_refl _) _).setCell (p := ⟨w.heap.size, 1, none⟩) (Nat.le_refl _) _).setCell (p := ⟨w.heap.size, 2, none⟩) (Nat.le_refl _) _⟩
end Go.Proofs.YtfbegdcmnfkhgaaGreatDoor

namespace Go.Proofs.YtfbegdcmnfkhgaaGreatDoor
open Go Go.RowKit Go.Sort

/-- Nothing but draws. -/
def Drw (w w' : World) : Prop := ∃ q, w' = w.drewN q
theorem Drw.refl (w : World) : Drw w w := ⟨0, rfl⟩
theorem Drw.trans {a b c : World} (h : Drw a b) (k : Drw b c) : Drw a c := by
  obtain ⟨q, rfl⟩ := h
  obtain ⟨r, rfl⟩ := k
  exact ⟨q + r, by simp [World.drewN, Nat.add_assoc]⟩
theorem Blk.drw {w w' : World} {g : Nat} {t : TypeId} {cs : Array Value} (h : Blk w g t cs) (he : Drw w w') : Blk w' g t cs := by
  obtain ⟨q, rfl⟩ := he
  exact h
set_option maxRecDepth 100000 in
theorem cmpIntE_any (x y : Int) (w : World) :
    Calls Tryz.prog 83 #[.int .i64 x, .int .i64 y] w fun e w' => e = .returned (.int .i64 (cmpZ x y)) ∧ Drw w w' := by
  have hc : (x < y ∧ cmpZ x y = -1) ∨ (x = y ∧ cmpZ x y = 0) ∨ (y < x ∧ cmpZ x y = 1) := by unfold cmpZ; split <;> (try split) <;> omega
  rcases hc with ⟨h, hv⟩ | ⟨h, hv⟩ | ⟨h, hv⟩
  all_goals
    rw [hv]
    clear hv
    go_enter Tryz.func83, Tryz.ntmps83
    go_wp2_with (go_at_call 132; (with_reducible refine Calls.mono (isNaNI_any _ _) ?_); rintro e w' ⟨rfl, rfl⟩)
    go_ret
    exact ⟨rfl, Drw.refl _⟩

theorem grow_three (w : World) (q : Nat) (A B C : Obj) : (((w.alloc A).alloc B).drew.drewN q).alloc C = grow (w.drewN (q + 1)) #[A, B, C] := by
  rw [alloc_eq_grow, alloc_eq_grow, alloc_eq_grow, drew_eq_ahead]
  simp [grow, World.drewN, ahead, Nat.add_assoc, Nat.add_comm]
  refine ⟨?_, by omega, rfl, rfl⟩
  show ((w.heap.push A).push B).push C = _
  apply Array.ext'
  simp
set_option maxRecDepth 100000 in
set_option maxHeartbeats 1600000 in
theorem compareG_any (a b : StandV) (w : World) :
    Calls Tryz.prog 42 #[.agg #[.string a.name, .int .i64 a.row, .int .i64 a.place], .agg #[.string b.name, .int .i64 b.row, .int .i64 b.place]] w fun e w' => e = .returned (.int .i64 (cmpV a b)) ∧ ∃ q os', w' = grow (w.drewN q) os' := by
  rw [← cmpV_or]
  have hX : Blk ((w.alloc (.cells #[.string a.name, .int .i64 a.row, .int .i64 a.place] 46)).alloc (.cells #[.string b.name, .int .i64 b.row, .int .i64 b.place] 46)) w.heap.size 46 #[.string a.name, .int .i64 a.row, .int .i64 a.place] := (Blk.new' rfl).alloc _
  have hY : Blk ((w.alloc (.cells #[.string a.name, .int .i64 a.row, .int .i64 a.place] 46)).alloc (.cells #[.string b.name, .int .i64 b.row, .int .i64 b.place] 46)) (w.heap.size + 1) 46 #[.string b.name, .int .i64 b.row, .int .i64 b.place] := Blk.new' (by simp)
  go_enter Tryz.func42, Tryz.ntmps42
  go_upto_region 1 with fail
  refine wp_region_planS [(0, true), (1, true), (2, true), (3, true), (4, true), (5, true), (6, true), (7, true), (8, true), (9, true)] 10 (fun w' => Blk w' w.heap.size 46 #[.string a.name, .int .i64 a.row, .int .i64 a.place] ∧ Blk w' (w.heap.size + 1) 46 #[.string b.name, .int .i64 b.row, .int .i64 b.place]) Drw (by kernel_rfl) (by kernel_rfl) Drw.refl (fun _ _ _ => Drw.trans) (fun _ _ h he => ⟨h.1.drw he, h.2.drw he⟩) ⟨(by (repeat (with_reducible first | assumption | exact Blk.new' (by simp) | refine Blk.drew ?_ | refine Blk.alloc ?_ _ | exact Drw.refl _ | refine Ext.drew ?_ | refine Ext.alloc ?_ _))), (by (repeat (with_reducible first | assumption | exact Blk.new' (by simp) | refine Blk.drew ?_ | refine Blk.alloc ?_ _ | exact Drw.refl _ | refine Ext.drew ?_ | refine Ext.alloc ?_ _)))⟩ ?_
  repeat
    first
      | (refine plan_quiet rfl rfl (fun _ _ _ _ h => h) ?_
         apply Exists.intro
         refine ⟨fun w' hw' => ?_, ?_⟩
         · obtain ⟨hH0, hH1⟩ := hw'
           unfold Blk at hH0 hH1
           simp [go_sem, quietTo, World.cell?, hH0, hH1, Drw.refl, ↓IntWalk.iteOmega]
           first
             | rfl
             | (exact cmpIntE_any _ _ _)
         simp only [Act.put, List.setIfInBounds_toArray, List.set_cons_succ, List.set_cons_zero])
      | (refine plan_skip rfl rfl (fun _ _ _ _ h => h) ?_
         simp only [Act.put, List.setIfInBounds_toArray, List.set_cons_succ, List.set_cons_zero])
  refine plan_nil fun wr her hwr => ?_
  obtain ⟨hH0, hH1⟩ := hwr
  obtain ⟨hC0, hF0⟩ := hH0.walk
  obtain ⟨hC1, hF1⟩ := hH1.walk
  simp only [List.drop_succ_cons, List.drop_zero, List.drop_nil]
  go_wp2_with (go_at_call 82; refine (orInt_blk _ _ 2 [cmpZ a.row b.row, cmpZ a.place b.place] _ (by simp) (Blk.new' rfl)).mono ?_; rintro e w2 ⟨rfl, rfl⟩)
  go_ret
  refine ⟨rfl, ?_⟩
  obtain ⟨q, rfl⟩ := her
  exact ⟨q + 1, _, grow_three _ _ _ _ _⟩
set_option maxRecDepth 100000 in
set_option maxHeartbeats 1600000 in
theorem byPlaceG_any (a b : StandV) (w : World) :
    Calls Tryz.prog 49 #[.agg #[.string a.name, .int .i64 a.row, .int .i64 a.place], .agg #[.string b.name, .int .i64 b.row, .int .i64 b.place]] w fun e w' => e = .returned (.int .i64 (cmpV a b)) ∧ ∃ q os', w' = grow (w.drewN q) os' := by
  rw [← cmpV_or]
  have hX : Blk ((w.alloc (.cells #[.string a.name, .int .i64 a.row, .int .i64 a.place] 46)).alloc (.cells #[.string b.name, .int .i64 b.row, .int .i64 b.place] 46)) w.heap.size 46 #[.string a.name, .int .i64 a.row, .int .i64 a.place] := (Blk.new' rfl).alloc _
  have hY : Blk ((w.alloc (.cells #[.string a.name, .int .i64 a.row, .int .i64 a.place] 46)).alloc (.cells #[.string b.name, .int .i64 b.row, .int .i64 b.place] 46)) (w.heap.size + 1) 46 #[.string b.name, .int .i64 b.row, .int .i64 b.place] := Blk.new' (by simp)
  go_enter Tryz.func49, Tryz.ntmps49
  go_upto_region 1 with fail
  refine wp_region_planS [(0, true), (1, true), (2, true), (3, true), (4, true), (5, true), (6, true), (7, true), (8, true), (9, true)] 10 (fun w' => Blk w' w.heap.size 46 #[.string a.name, .int .i64 a.row, .int .i64 a.place] ∧ Blk w' (w.heap.size + 1) 46 #[.string b.name, .int .i64 b.row, .int .i64 b.place]) Drw (by kernel_rfl) (by kernel_rfl) Drw.refl (fun _ _ _ => Drw.trans) (fun _ _ h he => ⟨h.1.drw he, h.2.drw he⟩) ⟨(by (repeat (with_reducible first | assumption | exact Blk.new' (by simp) | refine Blk.drew ?_ | refine Blk.alloc ?_ _ | exact Drw.refl _ | refine Ext.drew ?_ | refine Ext.alloc ?_ _))), (by (repeat (with_reducible first | assumption | exact Blk.new' (by simp) | refine Blk.drew ?_ | refine Blk.alloc ?_ _ | exact Drw.refl _ | refine Ext.drew ?_ | refine Ext.alloc ?_ _)))⟩ ?_
  repeat
    first
      | (refine plan_quiet rfl rfl (fun _ _ _ _ h => h) ?_
         apply Exists.intro
         refine ⟨fun w' hw' => ?_, ?_⟩
         · obtain ⟨hH0, hH1⟩ := hw'
           unfold Blk at hH0 hH1
           simp [go_sem, quietTo, World.cell?, hH0, hH1, Drw.refl, ↓IntWalk.iteOmega]
           first
             | rfl
             | (exact cmpIntE_any _ _ _)
         simp only [Act.put, List.setIfInBounds_toArray, List.set_cons_succ, List.set_cons_zero])
      | (refine plan_skip rfl rfl (fun _ _ _ _ h => h) ?_
         simp only [Act.put, List.setIfInBounds_toArray, List.set_cons_succ, List.set_cons_zero])
  refine plan_nil fun wr her hwr => ?_
  obtain ⟨hH0, hH1⟩ := hwr
  obtain ⟨hC0, hF0⟩ := hH0.walk
  obtain ⟨hC1, hF1⟩ := hH1.walk
  simp only [List.drop_succ_cons, List.drop_zero, List.drop_nil]
  go_wp2_with (go_at_call 82; refine (orInt_blk _ _ 2 [cmpZ a.row b.row, cmpZ a.place b.place] _ (by simp) (Blk.new' rfl)).mono ?_; rintro e w2 ⟨rfl, rfl⟩)
  go_ret
  refine ⟨rfl, ?_⟩
  obtain ⟨q, rfl⟩ := her
  exact ⟨q + 1, _, grow_three _ _ _ _ _⟩
end Go.Proofs.YtfbegdcmnfkhgaaGreatDoor
