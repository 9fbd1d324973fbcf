/- The choir of a moment, by the program. Conditions: sizes. -/
import Derived.Test.YtcdjkgfdhngmeaaGreatDoorSdJ28
import Derived.Test.YtcdjkgfdhngmeaaGreatDoorSdJ10
set_option linter.unusedSimpArgs false
set_option linter.unusedVariables false
namespace Go.Proofs.YtcdjkgfdhngmeaaGreatDoor
open Go Go.RowKit

/-- The comforts of a singer's parts, and of all singers. -/
def comRow (V : List VoiceV) (t : Int) (P : List PartV) (s : ByteArray) : List Int := P.map fun x => comF ((rgS V t V.length s).getD (0, 0)) (x.lo, x.hi)
def comL (V : List VoiceV) (t : Int) (P : List PartV) : List (List Int) := (singersL V t).map (comRow V t P)
theorem comL_len (V : List VoiceV) (t : Int) (P : List PartV) : (comL V t P).length = (singersL V t).length := by simp [comL]
theorem comRow_len (V : List VoiceV) (t : Int) (P : List PartV) (s : ByteArray) : (comRow V t P s).length = P.length := by simp [comRow]
theorem comRow_at {V : List VoiceV} {t : Int} {P : List PartV} {s : ByteArray} {k : Nat} {x : PartV} (h : P[k]? = some x) : (comRow V t P s)[k]? = some (comF ((rgS V t V.length s).getD (0, 0)) (x.lo, x.hi)) := by
  unfold comRow; rw [List.getElem?_map, h]; rfl
theorem comL_at {V : List VoiceV} {t : Int} {P : List PartV} {i : Nat} {s : ByteArray} (h : (singersL V t)[i]? = some s) : (comL V t P)[i]? = some (comRow V t P s) := by
  unfold comL; rw [List.getElem?_map, h]; rfl
end Go.Proofs.YtcdjkgfdhngmeaaGreatDoor
