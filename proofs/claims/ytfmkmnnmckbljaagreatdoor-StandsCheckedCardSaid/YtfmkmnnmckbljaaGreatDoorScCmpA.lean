/- Comparing plain numbers: the program's 'cmp' functions and the long product. Conditions: ranges as each theorem says. -/
import Derived.Test.YtfmkmnnmckbljaaGreatDoorScJ1
import Derived.Test.YtfmkmnnmckbljaaGreatDoorScShelf
namespace Go.Proofs.YtfmkmnnmckbljaaGreatDoor
open Go Go.RowKit

def hiN (m : Nat) : Int := ((m / 18446744073709551616 : Nat) : Int)
def loN (m : Nat) : Int := ((m % 18446744073709551616 : Nat) : Int)
def cmpN (x y : Nat) : Int := if x < y then -1 else if x = y then 0 else 1
def cmpZ (x y : Int) : Int := if x < y then -1 else if x = y then 0 else 1
theorem loN_range (m : Nat) : 0 ≤ loN m ∧ loN m ≤ 18446744073709551615 := by unfold loN; omega

set_option maxRecDepth 100000 in
theorem orInt_any (b off cap : Nat) (xs : List Int) (w : World) (hl : xs.length ≤ 1000) (hc : ∀ i, i < xs.length → w.cell? ⟨b, off + i, none⟩ = some (.int .i64 (xs.getD i 0))) :
    Calls Tryz.prog 70 #[.slice (some ⟨b, off, none⟩) xs.length cap] w fun e w' => e = .returned (.int .i64 (orF xs)) ∧ w = w' := by
  have HC := Lib.hid hc; clear hc
  go_enter Tryz.func70, Tryz.ntmps70
  go_wp2
  go_loop [8] (fun i => ∃ k : Nat, k ≤ xs.length ∧ i = .int .i64 k ∧ ZeroTo xs k) (fun i => xs.length - (intOf i).toNat)
  case atStart => exact ⟨0, Nat.zero_le _, rfl, fun j hj => by omega⟩
  case round =>
    obtain ⟨k, hk, rfl, hz⟩ := hrel
    by_cases hlt : k < xs.length
    · have hcell := HC.out k hlt
      obtain ⟨v, hv⟩ : ∃ v, xs.getD k 0 = v := ⟨_, rfl⟩
      rw [hv] at hcell
      have HV := Lib.hid hv; clear hv
      cases hx : v != 0
      · go_wp2
        go_round
        case rel => exact ⟨k + 1, by omega, by go_num, hz.succ (by rw [HV.out]; simpa using hx)⟩
        case measure => simp [intOf]; omega
      · go_wp2
        go_ret
        exact ⟨ret_int (by rw [orF_at xs k hlt hz (by rw [HV.out]; simpa using hx), HV.out]), rfl⟩
    · go_wp2
      go_ret
      exact ⟨ret_int (orF_zero xs k (by omega) hz).symm, rfl⟩

theorem orInt_blk (g t cap : Nat) (xs : List Int) (w : World) (hl : xs.length ≤ 1000) (hb : Blk w g t (xs.map (Value.int .i64)).toArray) :
    Calls Tryz.prog 70 #[.slice (some ⟨g, 0, none⟩) xs.length cap] w fun e w' => e = .returned (.int .i64 (orF xs)) ∧ w = w' :=
  orInt_any g 0 cap xs w hl fun i hi => by rw [hb.cell]; simp [hi]

/-- The long products decide as the numbers do. -/
theorem orF_cmp (x y : Nat) : orF [cmpZ (hiN x) (hiN y), cmpZ (loN x) (loN y)] = cmpN x y := by
  unfold orF orF orF cmpZ cmpN hiN loN
  have := Nat.div_add_mod x 18446744073709551616
  have := Nat.div_add_mod y 18446744073709551616
  by_cases h1 : x / 18446744073709551616 < y / 18446744073709551616
  · rw [if_pos (by omega : ((x / 18446744073709551616 : Nat) : Int) < _)]
    rw [if_pos (by omega : x < y)]
    rfl
  · rw [if_neg (by omega : ¬ ((x / 18446744073709551616 : Nat) : Int) < _)]
    by_cases h2 : x / 18446744073709551616 = y / 18446744073709551616
    · rw [if_pos (by omega : ((x / 18446744073709551616 : Nat) : Int) = _), if_pos rfl]
      by_cases h3 : x < y
      · rw [if_pos (by omega : ((x % 18446744073709551616 : Nat) : Int) < _), if_pos h3]; rfl
      · rw [if_neg (by omega : ¬ ((x % 18446744073709551616 : Nat) : Int) < _), if_neg h3]
        by_cases h4 : x = y
        · rw [if_pos (by omega : ((x % 18446744073709551616 : Nat) : Int) = _), if_pos h4]; rfl
        · rw [if_neg (by omega : ¬ ((x % 18446744073709551616 : Nat) : Int) = _), if_neg h4]; rfl
    · rw [if_neg (by omega : ¬ ((x / 18446744073709551616 : Nat) : Int) = _)]
      rw [if_neg (by omega : ¬ x < y), if_neg (by omega : ¬ x = y)]
      rfl

/-- The ways a comparison goes. -/
theorem cmp_ways (x y : Nat) : (hiN x < hiN y ∧ cmpN x y = -1) ∨ (hiN x = hiN y ∧ loN x < loN y ∧ cmpN x y = -1) ∨ (hiN x = hiN y ∧ loN x = loN y ∧ cmpN x y = 0) ∨ (hiN x = hiN y ∧ loN y < loN x ∧ cmpN x y = 1) ∨ (hiN y < hiN x ∧ cmpN x y = 1) := by
  unfold cmpN hiN loN
  have := Nat.div_add_mod x 18446744073709551616
  have := Nat.div_add_mod y 18446744073709551616
  by_cases h : x < y
  · rw [if_pos h]; omega
  · rw [if_neg h]
    by_cases h4 : x = y
    · rw [if_pos h4]; omega
    · rw [if_neg h4]; omega

end Go.Proofs.YtfmkmnnmckbljaaGreatDoor
