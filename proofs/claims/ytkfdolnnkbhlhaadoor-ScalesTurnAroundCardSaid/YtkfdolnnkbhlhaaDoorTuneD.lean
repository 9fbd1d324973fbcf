/- The interval of a quotient, by both texts. Conditions: as each theorem says. -/
import Derived.Test.YtkfdolnnkbhlhaaDoorTuneC
import Derived.Test.YtkfdolnnkbhlhaaDoorMathA
namespace Go.Proofs.YtkfdolnnkbhlhaaDoor
open Go Go.RowKit

set_option maxRecDepth 100000 in
theorem primes_any (w : World) :
    Calls Tryd.prog 69 #[] w fun e w' => e = .returned (.agg #[.int .i64 2, .int .i64 3, .int .i64 5, .int .i64 7]) ∧ Ext w w' := by
  go_enter Tryd.func69, Tryd.ntmps69
  go_wp2
  go_light
  exact bodyPost_ret (v := .agg #[.int .i64 2, .int .i64 3, .int .i64 5, .int .i64 7]) (by simp [results, Tryd.results69, go_sem]) rfl ⟨rfl, (by (repeat (with_reducible first | assumption | exact Ext.refl _ | refine Ext.drew ?_ | refine Ext.alloc ?_ _ | refine Ext.setCell ?_ (by simp <;> omega) _ | refine Ext.trans ?_ (by assumption))))⟩

def mCells (n d j : Nat) : Array Value := #[.int .i64 (mK n d j 0), .int .i64 (mK n d j 1), .int .i64 (mK n d j 2), .int .i64 (mK n d j 3)]
theorem mCells_zero (n d : Nat) : mCells n d 0 = #[.int .i64 0, .int .i64 0, .int .i64 0, .int .i64 0] := rfl
theorem mCells_four (n d : Nat) : mCells n d 4 = #[.int .i64 ((expK n 0 : Int) - expK d 0), .int .i64 ((expK n 1 : Int) - expK d 1), .int .i64 ((expK n 2 : Int) - expK d 2), .int .i64 ((expK n 3 : Int) - expK d 3)] := rfl
theorem mCells_walk {w : World} {g : Nat} {t : TypeId} {n d k : Nat} (h : Blk w g t (mCells n d k)) : w.cell? ⟨g, 0, none⟩ = some (.int .i64 (mK n d k 0)) ∧ w.cell? ⟨g, 1, none⟩ = some (.int .i64 (mK n d k 1)) ∧
    w.cell? ⟨g, 2, none⟩ = some (.int .i64 (mK n d k 2)) ∧ w.cell? ⟨g, 3, none⟩ = some (.int .i64 (mK n d k 3)) ∧ ∀ i, w.frozen? ⟨g, i, none⟩ = false := ⟨h.cell 0, h.cell 1, h.cell 2, h.cell 3, h.frozen⟩
theorem mCells_set (n d k : Nat) (hk : k < 4) : (mCells n d k).setIfInBounds k (.int .i64 ((expK n k : Int) - expK d k)) = mCells n d (k + 1) := by
  match k, hk with
  | 0, _ => rfl
  | 1, _ => rfl
  | 2, _ => rfl
  | 3, _ => rfl

/-- The interval that a quotient gives, if it is one. -/
def ofI (n d : Nat) : I4 := ⟨(expK n 0 : Int) - expK d 0, (expK n 1 : Int) - expK d 1, (expK n 2 : Int) - expK d 2, (expK n 3 : Int) - expK d 3⟩
def ofOK (n d : Nat) : Bool := numK n 4 == 1 && numK d 4 == 1
def ofR (n d : Nat) : I4 := if Nat.gcd n d == 1 && ofOK n d then okI (ofI n d) else zeroI
def ofE (n d : Nat) : Int := if Nat.gcd n d == 1 then (if ofOK n d then faultI (ofI n d) else 16) else 3

end Go.Proofs.YtkfdolnnkbhlhaaDoor
