/- Comparing plain numbers: the program's 'cmp' functions and the long product. Conditions: ranges as each theorem says. -/
import Derived.Test.YtachmdaiecbenaaGreatDoorSbKit
import Derived.Test.YtachmdaiecbenaaGreatDoorSbShelf
set_option linter.unusedSimpArgs false
set_option linter.unusedVariables false
namespace Go.Proofs.YtachmdaiecbenaaGreatDoor
open Go Go.RowKit

def cmpZ (x y : Int) : Int := if x < y then -1 else if x = y then 0 else 1
set_option maxRecDepth 100000 in
theorem isNaNI_any (x : Int) (w : World) :
    Calls Tryz.prog 103 #[.int .i64 x] w fun e w' => e = .returned (.bool false) ∧ w = w' := by
  go_enter Tryz.func103, Tryz.ntmps103
  go_wp2
  go_ret
  exact ⟨ret_bool (by simp), rfl⟩

set_option maxRecDepth 100000 in
theorem orInt_any (b off cap : Nat) (xs : List Int) (w : World) (hl : xs.length ≤ 1000) (hc : ∀ i, i < xs.length → w.cell? ⟨b, off + i, none⟩ = some (.int .i64 (xs.getD i 0))) :
    Calls Tryz.prog 71 #[.slice (some ⟨b, off, none⟩) xs.length cap] w fun e w' => e = .returned (.int .i64 (orF xs)) ∧ w = w' := by
  have HC := Lib.hid hc; clear hc
  go_enter Tryz.func71, Tryz.ntmps71
  go_wp2
  go_loop [8] (fun i => ∃ k : Nat, k ≤ xs.length ∧ i = .int .i64 k ∧ ZeroTo xs k) (fun i => xs.length - (intOf i).toNat)
  case atStart => exact ⟨0, Nat.zero_le _, rfl, fun j hj => by omega⟩
  case round =>
    obtain ⟨k, hk, rfl, hz⟩ := hrel
    by_cases hlt : k < xs.length
    · have hcell := HC.out k hlt
      obtain ⟨v, hv⟩ : ∃ v, xs.getD k 0 = v := ⟨_, rfl⟩
      rw [hv] at hcell
      have HV := Lib.hid hv; clear hv
      cases hx : v != 0
      · go_wp2
        go_round
        case rel => exact ⟨k + 1, by omega, by go_num, hz.succ (by rw [HV.out]; simpa using hx)⟩
        case measure => simp [intOf]; omega
      · go_wp2
        go_ret
        exact ⟨ret_int (by rw [orF_at xs k hlt hz (by rw [HV.out]; simpa using hx), HV.out]), rfl⟩
    · go_wp2
      go_ret
      exact ⟨ret_int (orF_zero xs k (by omega) hz).symm, rfl⟩

theorem orInt_blk (g t cap : Nat) (xs : List Int) (w : World) (hl : xs.length ≤ 1000) (hb : Blk w g t (xs.map (Value.int .i64)).toArray) :
    Calls Tryz.prog 71 #[.slice (some ⟨g, 0, none⟩) xs.length cap] w fun e w' => e = .returned (.int .i64 (orF xs)) ∧ w = w' :=
  orInt_any g 0 cap xs w hl fun i hi => by rw [hb.cell]; simp [hi]

end Go.Proofs.YtachmdaiecbenaaGreatDoor
