/- Comparing plain numbers: the program's 'cmp' functions and the long product. Conditions: ranges as each theorem says. Parts: keys by the document's text; whether a name is there already. Conditions: sizes. -/
import Derived.Test.YtdehmioobkneiaaGreatDoorVsJ1
import Derived.Test.YtdehmioobkneiaaGreatDoorVsShelf
import Derived.Test.YtdehmioobkneiaaGreatDoorVsJ8
import Derived.Test.YtdehmioobkneiaaGreatDoorVsJ3
import Derived.Test.YtdehmioobkneiaaGreatDoorVsJ4
import Derived.Shelf.SlicesQ.IndexFunc
import Derived.Ground.SlgfProg
import Derived.WalkLawsBesides
import Derived.Outline
set_option linter.unusedSimpArgs false
set_option linter.unusedVariables false
namespace Go.Proofs.YtdehmioobkneiaaGreatDoor
open Go Go.RowKit

def cmpZ (x y : Int) : Int := if x < y then -1 else if x = y then 0 else 1
set_option maxRecDepth 100000 in
theorem isNaNI_any (x : Int) (w : World) :
    Calls Tryz.prog 96 #[.int .i64 x] w fun e w' => e = .returned (.bool false) ∧ w = w' := by
  go_enter Tryz.func96, Tryz.ntmps96
  go_wp2
  go_ret
  exact ⟨ret_bool (by simp), rfl⟩

set_option maxRecDepth 100000 in
theorem orInt_any (b off cap : Nat) (xs : List Int) (w : World) (hl : xs.length ≤ 1000) (hc : ∀ i, i < xs.length → w.cell? ⟨b, off + i, none⟩ = some (.int .i64 (xs.getD i 0))) :
    Calls Tryz.prog 54 #[.slice (some ⟨b, off, none⟩) xs.length cap] w fun e w' => e = .returned (.int .i64 (orF xs)) ∧ w = w' := by
  have HC := Lib.hid hc; clear hc
  go_enter Tryz.func54, Tryz.ntmps54
  go_wp2
  go_loop [8] (fun i => ∃ k : Nat, k ≤ xs.length ∧ i = .int .i64 k ∧ ZeroTo xs k) (fun i => xs.length - (intOf i).toNat)
  case atStart => exact ⟨0, Nat.zero_le _, rfl, fun j hj => by omega⟩
  case round =>
    obtain ⟨k, hk, rfl, hz⟩ := hrel
    by_cases hlt : k < xs.length
    · have hcell := HC.out k hlt
      obtain ⟨v, hv⟩ : ∃ v, xs.getD k 0 = v := ⟨_, rfl⟩
      rw [hv] at hcell
      have HV := Lib.hid hv; clear hv
      cases hx : v != 0
      · go_wp2
        go_round
        case rel => exact ⟨k + 1, by omega, by go_num, hz.succ (by rw [HV.out]; simpa using hx)⟩
        case measure => simp [intOf]; omega
      · go_wp2
        go_ret
        exact ⟨ret_int (by rw [orF_at xs k hlt hz (by rw [HV.out]; simpa using hx), HV.out]), rfl⟩
    · go_wp2
      go_ret
      exact ⟨ret_int (orF_zero xs k (by omega) hz).symm, rfl⟩

theorem orInt_blk (g t cap : Nat) (xs : List Int) (w : World) (hl : xs.length ≤ 1000) (hb : Blk w g t (xs.map (Value.int .i64)).toArray) :
    Calls Tryz.prog 54 #[.slice (some ⟨g, 0, none⟩) xs.length cap] w fun e w' => e = .returned (.int .i64 (orF xs)) ∧ w = w' :=
  orInt_any g 0 cap xs w hl fun i hi => by rw [hb.cell]; simp [hi]

end Go.Proofs.YtdehmioobkneiaaGreatDoor

namespace Go.Proofs.YtdehmioobkneiaaGreatDoor
open Go Go.RowKit

set_option maxRecDepth 100000 in
theorem rangeRight_any (lo hi : Int) (w : World) :
    Calls Tryz.prog 69 #[.agg #[.int .i64 lo, .int .i64 hi]] w fun e w' => e = .returned (.bool (rightR lo hi)) ∧ Ext w w' := by
  have hR : rightR lo hi = (inB lo 0 hi && decide (hi ≤ 127)) := by unfold rightR; rw [outB_inB]; simp
  replace hR := Lib.hid hR
  cases ho : inB lo 0 hi
  all_goals
    go_enter Tryz.func69, Tryz.ntmps69
    go_wp2_with (go_at_call 73; refine (in_any _ _ _ _).mono ?_; rintro e w' ⟨rfl, rfl⟩)
    go_ret
    exact ⟨ret_bool (by rw [hR.out]; simp [*]), by (repeat (with_reducible first | assumption | exact Ext.refl _ | refine Ext.drew ?_ | refine Ext.alloc ?_ _ | refine Ext.setCell ?_ (by simp <;> omega) _ | refine Ext.trans ?_ (by assumption)))⟩

structure PartV where
  name : ByteArray
  lo : Int
  hi : Int
  least : Int
  most : Int
instance : Inhabited PartV := ⟨⟨⟨#[]⟩, 0, 0, 0, 0⟩⟩
def partC (x : PartV) : List Value := [.string x.name, .int .i64 x.lo, .int .i64 x.hi, .int .i64 x.least, .int .i64 x.most]
theorem partC_len (x : PartV) : (partC x).length = 5 := rfl
theorem part_one (x : PartV) : ∀ u ∈ partC x, u.oneCell' = true := by simp [partC, Value.oneCell']
theorem Elems.part {w : World} {b off : Nat} {xs : List PartV} (h : Elems 5 partC w b off xs) {i : Nat} {x : PartV} (hx : xs[i]? = some x) :
    w.cell? ⟨b, off + i * 5, none⟩ = some (.string x.name) ∧ w.cell? ⟨b, off + i * 5 + 1, none⟩ = some (.int .i64 x.lo) ∧ w.cell? ⟨b, off + i * 5 + 2, none⟩ = some (.int .i64 x.hi) ∧ w.cell? ⟨b, off + i * 5 + 3, none⟩ = some (.int .i64 x.least) ∧ w.cell? ⟨b, off + i * 5 + 4, none⟩ = some (.int .i64 x.most) :=
  ⟨h i x hx 0 _ rfl, h i x hx 1 _ rfl, h i x hx 2 _ rfl, h i x hx 3 _ rfl, h i x hx 4 _ rfl⟩
/-- Whether a name is one of the first n. -/
def nameIn (xs : List PartV) (n : Nat) (s : ByteArray) : Bool := (xs.take n).any fun y => y.name.toList == s.toList

set_option maxRecDepth 100000 in
theorem checkPred (x : PartV) (B : Nat) (w : World) (hB : Blk w B 46 (partC x).toArray) :
    PredBelow Tryz.prog 91 #[.pointer (some ⟨B, 0, none⟩)] (fun y => .agg (partC y).toArray) (fun y => y.name.toList == x.name.toList) w := fun W y hb => by
  have hc : W.cell? ⟨B, 0, none⟩ = some (.string x.name) := (hb.cell (p := ⟨B, 0, none⟩) hB.lt).trans (hB.cell 0)
  have hBW : B < W.heap.size := Nat.lt_of_lt_of_le hB.lt hb.size
  have hne : B ≠ W.heap.size := by omega
  clear hB
  show Calls Tryz.prog 91 #[.agg #[.string y.name, .int .i64 y.lo, .int .i64 y.hi, .int .i64 y.least, .int .i64 y.most], .pointer (some ⟨B, 0, none⟩)] W _
  go_enter Tryz.func91, Tryz.ntmps91
  go_wp2
  go_ret
  exact ⟨rfl, hb.alloc hb.size _⟩

theorem checkHas (x : PartV) (B b off n c : Nat) (xs : List PartV) (w : World) (hB : Blk w B 46 (partC x).toArray) (hn : n ≤ xs.length) (hl : xs.length ≤ 1000) (hb : b < w.heap.size) (hE : Elems 5 partC w b off xs) :
    Calls Tryz.prog 71 #[.slice (some ⟨b, off, none⟩) n c, .func (.func 91) #[] #[.pointer (some ⟨B, 0, none⟩)]] w fun e w' => e = .returned (.bool (nameIn xs n x.name)) ∧ Ext w w' := by
  have eg : ∀ args w, (callFunc 91 args).run Tryz.prog w = .ok (.enter 91 args) w := enters_of Tryz.func91 (by kernel_rfl) rfl
  exact AnyQ.slices_ContainsFunc Tryz.lqcPart 5 Tryz.isAgg46 Tryz.sizeOf46 partC partC_len (fun y => y.name.toList == x.name.toList) 91 #[.pointer (some ⟨B, 0, none⟩)] eg b off n c xs w
    (checkPred x B w hB) hn (by omega) hb (fun j hj i v hi => hE j _ (by rw [List.getElem?_eq_getElem hj, getElem!_pos xs j hj]) i v hi)
set_option maxRecDepth 100000 in
theorem faultPred (x : PartV) (B : Nat) (w : World) (hB : Blk w B 46 (partC x).toArray) :
    PredBelow Tryz.prog 72 #[.pointer (some ⟨B, 0, none⟩)] (fun y => .agg (partC y).toArray) (fun y => y.name.toList == x.name.toList) w := fun W y hb => by
  have hc : W.cell? ⟨B, 0, none⟩ = some (.string x.name) := (hb.cell (p := ⟨B, 0, none⟩) hB.lt).trans (hB.cell 0)
  have hBW : B < W.heap.size := Nat.lt_of_lt_of_le hB.lt hb.size
  have hne : B ≠ W.heap.size := by omega
  clear hB
  show Calls Tryz.prog 72 #[.agg #[.string y.name, .int .i64 y.lo, .int .i64 y.hi, .int .i64 y.least, .int .i64 y.most], .pointer (some ⟨B, 0, none⟩)] W _
  go_enter Tryz.func72, Tryz.ntmps72
  go_wp2
  go_ret
  exact ⟨rfl, hb.alloc hb.size _⟩

theorem faultHas (x : PartV) (B b off n c : Nat) (xs : List PartV) (w : World) (hB : Blk w B 46 (partC x).toArray) (hn : n ≤ xs.length) (hl : xs.length ≤ 1000) (hb : b < w.heap.size) (hE : Elems 5 partC w b off xs) :
    Calls Tryz.prog 71 #[.slice (some ⟨b, off, none⟩) n c, .func (.func 72) #[] #[.pointer (some ⟨B, 0, none⟩)]] w fun e w' => e = .returned (.bool (nameIn xs n x.name)) ∧ Ext w w' := by
  have eg : ∀ args w, (callFunc 72 args).run Tryz.prog w = .ok (.enter 72 args) w := enters_of Tryz.func72 (by kernel_rfl) rfl
  exact AnyQ.slices_ContainsFunc Tryz.lqcPart 5 Tryz.isAgg46 Tryz.sizeOf46 partC partC_len (fun y => y.name.toList == x.name.toList) 72 #[.pointer (some ⟨B, 0, none⟩)] eg b off n c xs w
    (faultPred x B w hB) hn (by omega) hb (fun j hj i v hi => hE j _ (by rw [List.getElem?_eq_getElem hj, getElem!_pos xs j hj]) i v hi)
end Go.Proofs.YtdehmioobkneiaaGreatDoor
