/- The interval of a quotient, by the reference's text. Conditions: as each theorem says. -/
import Derived.Test.YtebhjmknlhmmdaaGreatDoorTuneD
namespace Go.Proofs.YtebhjmknlhmmdaaGreatDoor
open Go Go.RowKit

def iC (n d k : Nat) (v : Int) : Array Value := (mCells n d k).setIfInBounds k (.int .i64 v)
theorem iC_zero (n d k : Nat) (hk : k < 4) : mCells n d k = iC n d k 0 := by
  match k, hk with
  | 0, _ => rfl
  | 1, _ => rfl
  | 2, _ => rfl
  | 3, _ => rfl
theorem iC_get (n d k : Nat) (v : Int) (hk : k < 4) : (iC n d k v)[k]? = some (.int .i64 v) := by
  match k, hk with
  | 0, _ => rfl
  | 1, _ => rfl
  | 2, _ => rfl
  | 3, _ => rfl
theorem iC_set (n d k : Nat) (v u : Int) (hk : k < 4) : (iC n d k v).setIfInBounds k (.int .i64 u) = iC n d k u := by
  match k, hk with
  | 0, _ => rfl
  | 1, _ => rfl
  | 2, _ => rfl
  | 3, _ => rfl
theorem iC_next (n d k : Nat) (hk : k < 4) : iC n d k ((expK n k : Int) - expK d k) = mCells n d (k + 1) := mCells_set n d k hk

end Go.Proofs.YtebhjmknlhmmdaaGreatDoor
