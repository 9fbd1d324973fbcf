/- How many singers are lacking, by the program: the greatest need of a set of parts. Conditions: the choir lies in memory. The choir of a moment, by the program. Conditions: sizes. -/
import Derived.Test.YtdehmioobkneiaaGreatDoorTdGiD
import Derived.Deep.OwnRows
import Derived.Test.YtdehmioobkneiaaGreatDoorTdJ6
set_option linter.unusedSimpArgs false
set_option linter.unusedVariables false
namespace Go.Proofs.YtdehmioobkneiaaGreatDoor
open Go Go.RowKit
end Go.Proofs.YtdehmioobkneiaaGreatDoor
namespace Go.Proofs.YtdehmioobkneiaaGreatDoor
open Go Go.RowKit
/-- The comforts of a singer's parts, and of all singers. -/
def comRow (V : List VoiceV) (t : Int) (P : List PartV) (s : ByteArray) : List Int := P.map fun x => comF ((rgS V t V.length s).getD (0, 0)) (x.lo, x.hi)
def comL (V : List VoiceV) (t : Int) (P : List PartV) : List (List Int) := (singersL V t).map (comRow V t P)
theorem comL_len (V : List VoiceV) (t : Int) (P : List PartV) : (comL V t P).length = (singersL V t).length := by simp [comL]
theorem comRow_len (V : List VoiceV) (t : Int) (P : List PartV) (s : ByteArray) : (comRow V t P s).length = P.length := by simp [comRow]
theorem comRow_at {V : List VoiceV} {t : Int} {P : List PartV} {s : ByteArray} {k : Nat} {x : PartV} (h : P[k]? = some x) : (comRow V t P s)[k]? = some (comF ((rgS V t V.length s).getD (0, 0)) (x.lo, x.hi)) := by
  unfold comRow; rw [List.getElem?_map, h]; rfl
end Go.Proofs.YtdehmioobkneiaaGreatDoor
