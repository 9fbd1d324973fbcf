/- The greatest common divisor, how often a prime is in a number, by both texts. Conditions: as each theorem says. -/
import Derived.Test.YtkfdolnnkbhlhaaDoorTuneB
namespace Go.Proofs.YtkfdolnnkbhlhaaDoor
open Go Go.RowKit

theorem val_tmod {k : IntKind} (x y : Nat) : Value.int k ((x : Int).tmod y) = .int k ((x % y : Nat) : Int) := by rw [Int.ofNat_tmod]
theorem val_tdiv {k : IntKind} (x y : Nat) : Value.int k ((x : Int).tdiv y) = .int k ((x / y : Nat) : Int) := by rw [Int.ofNat_tdiv]
theorem gcd_step (x y G : Nat) (h : Nat.gcd x y = G) : Nat.gcd y (x % y) = G := by rw [← h, Nat.gcd_comm x y, Nat.gcd_rec y x, Nat.gcd_comm]

theorem wrap_div (a x : Nat) (ha : a ≤ 9223372036854775807) : IntKind.i64.wrap ((a : Int) / (x : Int)) = ((a / x : Nat) : Int) := by
  have h : a / x ≤ a := Nat.div_le_self _ _
  rw [← Int.natCast_ediv]
  generalize a / x = q at *
  exact IntWalk.i64_in _ (by omega)

end Go.Proofs.YtkfdolnnkbhlhaaDoor
