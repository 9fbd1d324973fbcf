/- An interval in its octave, by both texts. Conditions: as each theorem says. -/
import Derived.Test.YtebhjmknlhmmdaaGreatDoorTuneI
import Derived.Test.YtebhjmknlhmmdaaGreatDoorMathC
namespace Go.Proofs.YtebhjmknlhmmdaaGreatDoor
open Go Go.RowKit

def shiftI (x : I4) : I4 := ⟨x.a - octI x, x.b, x.c, x.d⟩
def octR (x : I4) : Int := if rightB (shiftI x) then octI x else 0
theorem two_pow_le {d n k : Nat} (hd : 1 ≤ d) (h : d * 2 ^ k ≤ n) (hn : n ≤ 1061882796441600000) : k ≤ 60 := by
  rcases Nat.lt_or_ge 60 k with hk | hk
  · exfalso
    have h1 : 2 ^ 61 ≤ 2 ^ k := Nat.pow_le_pow_right (by omega) hk
    have h2 : 1 * 2 ^ k ≤ d * 2 ^ k := Nat.mul_le_mul_right _ hd
    omega
  · exact hk

end Go.Proofs.YtebhjmknlhmmdaaGreatDoor
