/- Comparing plain numbers: the program's 'cmp' functions and the long product. Conditions: ranges as each theorem says. Parts: keys by the document's text; whether a name is there already. Conditions: sizes. -/
import Derived.Test.YtboplnogfjmpnaaGreatDoorVkJ2
import Derived.Test.YtboplnogfjmpnaaGreatDoorVkShelf
import Derived.Test.YtboplnogfjmpnaaGreatDoorVkJ10
import Derived.Test.YtboplnogfjmpnaaGreatDoorVkJ4
import Derived.Test.YtboplnogfjmpnaaGreatDoorVkJ7
import Derived.Shelf.SlicesQ.IndexFunc
import Derived.Ground.SlgfProg
import Derived.WalkLawsBesides
import Derived.Outline
set_option linter.unusedSimpArgs false
set_option linter.unusedVariables false
namespace Go.Proofs.YtboplnogfjmpnaaGreatDoor
open Go Go.RowKit

def cmpZ (x y : Int) : Int := if x < y then -1 else if x = y then 0 else 1
set_option maxRecDepth 100000 in
theorem orInt_any (b off cap : Nat) (xs : List Int) (w : World) (hl : xs.length ≤ 1000) (hc : ∀ i, i < xs.length → w.cell? ⟨b, off + i, none⟩ = some (.int .i64 (xs.getD i 0))) :
    Calls Tryz.prog 47 #[.slice (some ⟨b, off, none⟩) xs.length cap] w fun e w' => e = .returned (.int .i64 (orF xs)) ∧ w = w' := by
  have HC := Lib.hid hc; clear hc
  go_enter Tryz.func47, Tryz.ntmps47
  go_wp2
  go_loop [8] (fun i => ∃ k : Nat, k ≤ xs.length ∧ i = .int .i64 k ∧ ZeroTo xs k) (fun i => xs.length - (intOf i).toNat)
  case atStart => exact ⟨0, Nat.zero_le _, rfl, fun j hj => by omega⟩
  case round =>
    obtain ⟨k, hk, rfl, hz⟩ := hrel
    by_cases hlt : k < xs.length
    · have hcell := HC.out k hlt
      obtain ⟨v, hv⟩ : ∃ v, xs.getD k 0 = v := ⟨_, rfl⟩
      rw [hv] at hcell
      have HV := Lib.hid hv; clear hv
      cases hx : v != 0
      · go_wp2
        go_round
        case rel => exact ⟨k + 1, by omega, by go_num, hz.succ (by rw [HV.out]; simpa using hx)⟩
        case measure => simp [intOf]; omega
      · go_wp2
        go_ret
        exact ⟨ret_int (by rw [orF_at xs k hlt hz (by rw [HV.out]; simpa using hx), HV.out]), rfl⟩
    · go_wp2
      go_ret
      exact ⟨ret_int (orF_zero xs k (by omega) hz).symm, rfl⟩

end Go.Proofs.YtboplnogfjmpnaaGreatDoor

namespace Go.Proofs.YtboplnogfjmpnaaGreatDoor
open Go Go.RowKit

set_option maxRecDepth 100000 in
theorem rangeRight_any (lo hi : Int) (w : World) :
    Calls Tryz.prog 46 #[.agg #[.int .i64 lo, .int .i64 hi]] w fun e w' => e = .returned (.bool (rightR lo hi)) ∧ Ext w w' := by
  have hR : rightR lo hi = (inB lo 0 hi && decide (hi ≤ 127)) := by unfold rightR; rw [outB_inB]; simp
  replace hR := Lib.hid hR
  cases ho : inB lo 0 hi
  all_goals
    go_enter Tryz.func46, Tryz.ntmps46
    go_wp2_with (go_at_call 75; refine (in_any _ _ _ _).mono ?_; rintro e w' ⟨rfl, rfl⟩)
    go_ret
    exact ⟨ret_bool (by rw [hR.out]; simp [*]), by (repeat (with_reducible first | assumption | exact Ext.refl _ | refine Ext.drew ?_ | refine Ext.alloc ?_ _ | refine Ext.setCell ?_ (by simp <;> omega) _ | refine Ext.trans ?_ (by assumption)))⟩

structure PartV where
  name : ByteArray
  lo : Int
  hi : Int
  least : Int
  most : Int
instance : Inhabited PartV := ⟨⟨⟨#[]⟩, 0, 0, 0, 0⟩⟩
def partC (x : PartV) : List Value := [.string x.name, .int .i64 x.lo, .int .i64 x.hi, .int .i64 x.least, .int .i64 x.most]
theorem Elems.part {w : World} {b off : Nat} {xs : List PartV} (h : Elems 5 partC w b off xs) {i : Nat} {x : PartV} (hx : xs[i]? = some x) :
    w.cell? ⟨b, off + i * 5, none⟩ = some (.string x.name) ∧ w.cell? ⟨b, off + i * 5 + 1, none⟩ = some (.int .i64 x.lo) ∧ w.cell? ⟨b, off + i * 5 + 2, none⟩ = some (.int .i64 x.hi) ∧ w.cell? ⟨b, off + i * 5 + 3, none⟩ = some (.int .i64 x.least) ∧ w.cell? ⟨b, off + i * 5 + 4, none⟩ = some (.int .i64 x.most) :=
  ⟨h i x hx 0 _ rfl, h i x hx 1 _ rfl, h i x hx 2 _ rfl, h i x hx 3 _ rfl, h i x hx 4 _ rfl⟩
end Go.Proofs.YtboplnogfjmpnaaGreatDoor
