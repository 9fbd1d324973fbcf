/- Steps of a way; whether a place is on a leg. Conditions: as each theorem says. -/
import Derived.Test.YtlmbpgjdepmlcaaDoorWayC
import Derived.Shelf.SlicesQ.IndexFunc
namespace Go.Proofs.YtlmbpgjdepmlcaaDoor
open Go Go.RowKit

set_option maxRecDepth 100000 in
theorem way_by (v : Int × Int) (x : LegV) (w : World) (h1 : -1099511627776 ≤ v.1 + x.m ∧ v.1 + x.m ≤ 1099511627776) (h2 : -1099511627776 ≤ v.2 ∧ v.2 ≤ 1099511627776) :
    Calls Tryd.prog 41 #[.agg #[.int .i64 v.1, .int .i64 v.2], .agg #[.string x.fr, .string x.to, .int .i64 x.m]] w fun e w' => e = .returned (.agg #[.int .i64 (v.1 + x.m), .int .i64 (v.2 + 1)]) ∧ Ext w w' := by
  have e1 : IntKind.i64.wrap (v.1 + x.m) = v.1 + x.m := IntWalk.i64_in _ (by omega)
  have e2 : IntKind.i64.wrap (v.2 + 1) = v.2 + 1 := IntWalk.i64_in _ (by omega)
  go_enter Tryd.func41, Tryd.ntmps41
  go_wp2
  go_light
  exact bodyPost_ret (v := .agg #[.int .i64 (v.1 + x.m), .int .i64 (v.2 + 1)]) (by simp [results, Tryd.results41, go_sem, *]) rfl ⟨rfl, (by (repeat (with_reducible first | assumption | exact Ext.refl _ | refine Ext.drew ?_ | refine Ext.alloc ?_ _ | refine Ext.setCell ?_ (by simp <;> omega) _ | refine Ext.trans ?_ (by assumption))))⟩
set_option maxRecDepth 100000 in
theorem way_less (a b : Int × Int) (w : World) :
    Calls Tryd.prog 62 #[.agg #[.int .i64 a.1, .int .i64 a.2], .agg #[.int .i64 b.1, .int .i64 b.2]] w fun e w' => e = .returned (.bool (lessW a b)) ∧ Ext w w' := by
  obtain ⟨a1, a2⟩ := a
  obtain ⟨b1, b2⟩ := b
  simp only
  have hl : lessW (a1, a2) (b1, b2) = (decide (a1 < b1) || (decide (a1 = b1) && decide (a2 < b2))) := rfl
  rw [hl]
  go_enter Tryd.func62, Tryd.ntmps62
  by_cases h1 : a1 < b1
  · go_wp2
    go_ret
    exact ⟨by simp [h1], (by (repeat (with_reducible first | assumption | exact Ext.refl _ | refine Ext.drew ?_ | refine Ext.alloc ?_ _ | refine Ext.setCell ?_ (by simp <;> omega) _ | refine Ext.trans ?_ (by assumption))))⟩
  · by_cases h2 : a1 = b1
    · subst h2
      by_cases h3 : a2 < b2
      · go_wp2
        go_ret
        exact ⟨by simp [h3], (by (repeat (with_reducible first | assumption | exact Ext.refl _ | refine Ext.drew ?_ | refine Ext.alloc ?_ _ | refine Ext.setCell ?_ (by simp <;> omega) _ | refine Ext.trans ?_ (by assumption))))⟩
      · go_wp2
        go_ret
        exact ⟨by simp [h3], (by (repeat (with_reducible first | assumption | exact Ext.refl _ | refine Ext.drew ?_ | refine Ext.alloc ?_ _ | refine Ext.setCell ?_ (by simp <;> omega) _ | refine Ext.trans ?_ (by assumption))))⟩
    · go_wp2
      go_ret
      exact ⟨by simp [h1, h2], (by (repeat (with_reducible first | assumption | exact Ext.refl _ | refine Ext.drew ?_ | refine Ext.alloc ?_ _ | refine Ext.setCell ?_ (by simp <;> omega) _ | refine Ext.trans ?_ (by assumption))))⟩

def onLeg (t : ByteArray) (x : LegV) : Bool := x.fr.toList == t.toList || x.to.toList == t.toList
set_option maxRecDepth 100000 in
theorem ways1Pred (t : ByteArray) (B : Nat) (w : World) (hB : Blk w B 9 #[.string t]) :
    PredBelow Tryd.prog 61 #[.pointer (some ⟨B, 0, none⟩)] (fun y => .agg (legC y).toArray) (onLeg t) w := fun W y hb => by
  have hc : W.cell? ⟨B, 0, none⟩ = some (.string t) := (hb.cell (p := ⟨B, 0, none⟩) hB.lt).trans (hB.cell 0)
  have hBW : B < W.heap.size := Nat.lt_of_lt_of_le hB.lt hb.size
  have hne : B ≠ W.heap.size := by omega
  clear hB
  show Calls Tryd.prog 61 #[.agg #[.string y.fr, .string y.to, .int .i64 y.m], .pointer (some ⟨B, 0, none⟩)] W _
  cases h1 : (y.fr.toList == t.toList)
  · go_enter Tryd.func61, Tryd.ntmps61
    go_wp2
    go_ret
    exact ⟨by unfold onLeg; rw [h1]; rfl, hb.alloc hb.size _⟩
  · go_enter Tryd.func61, Tryd.ntmps61
    go_wp2
    go_ret
    exact ⟨by unfold onLeg; rw [h1]; rfl, hb.alloc hb.size _⟩
theorem ways1Has (t : ByteArray) (B b off n c : Nat) (xs : List LegV) (w : World) (hB : Blk w B 9 #[.string t]) (hn : n = xs.length) (hl : xs.length ≤ 1000) (hb : b < w.heap.size) (hE : Elems 3 legC w b off xs) :
    Calls Tryd.prog 60 #[.slice (some ⟨b, off, none⟩) n c, .func (.func 61) #[] #[.pointer (some ⟨B, 0, none⟩)]] w fun e w' => e = .returned (.bool (xs.any (onLeg t))) ∧ Ext w w' := by
  have eg : ∀ args w, (callFunc 61 args).run Tryd.prog w = .ok (.enter 61 args) w := enters_of Tryd.func61 (by kernel_rfl) rfl
  have := AnyQ.slices_ContainsFunc Tryd.lqcLeg 3 Tryd.isAgg37 Tryd.sizeOf37 legC legC_len (onLeg t) 61 #[.pointer (some ⟨B, 0, none⟩)] eg b off n c xs w
    (ways1Pred t B w hB) (by omega) (by omega) hb (fun j hj i v hi => hE j _ (by rw [List.getElem?_eq_getElem hj, getElem!_pos xs j hj]) i v hi)
  rw [List.take_of_length_le (by omega)] at this
  exact this
end Go.Proofs.YtlmbpgjdepmlcaaDoor
