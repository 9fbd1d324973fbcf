/- Who is hidden, by the document's text: the walk. Conditions: people, stage and stands are right. By how much rows would have to be higher, by the document's text: the walk. Conditions: people, stage and stands are right. Which part of those who stand is seen: the walks. Conditions: people, stage and stands are in memory. Hides, Seen and Lift of all arguments. Conditions: sizes. Which part of those who stand is seen, by the document's text. Conditions: people, stage and stands are right. -/
import Derived.Test.YtfbegdcmnfkhgaaGreatDoorRxStS
import Derived.Test.YtfbegdcmnfkhgaaGreatDoorRxJ19
import Derived.Test.YtfbegdcmnfkhgaaGreatDoorRxJ3
import Derived.Test.YtfbegdcmnfkhgaaGreatDoorRxStR
import Derived.Shelf.SlicesQ.IndexFunc
set_option linter.unusedSimpArgs false
set_option linter.unusedVariables false
namespace Go.Proofs.YtfbegdcmnfkhgaaGreatDoor
open Go Go.RowKit

end Go.Proofs.YtfbegdcmnfkhgaaGreatDoor

namespace Go.Proofs.YtfbegdcmnfkhgaaGreatDoor
open Go Go.RowKit

end Go.Proofs.YtfbegdcmnfkhgaaGreatDoor

namespace Go.Proofs.YtfbegdcmnfkhgaaGreatDoor
open Go Go.RowKit

def hidAny (P : List PersonV) (wide high : List Int) (S : List StandV) (b : StandV) : Bool := S.any fun a => hidesS P wide high a b
end Go.Proofs.YtfbegdcmnfkhgaaGreatDoor

namespace Go.Proofs.YtfbegdcmnfkhgaaGreatDoor
open Go Go.RowKit

theorem Elems.hid {w : World} {b off : Nat} {xs : List (ByteArray × ByteArray)} (h : Elems 2 hidC w b off xs) {i : Nat} {x : ByteArray × ByteArray} (hx : xs[i]? = some x) :
    w.cell? ⟨b, off + i * 2, none⟩ = some (.string x.1) ∧ w.cell? ⟨b, off + i * 2 + 1, none⟩ = some (.string x.2) :=
  ⟨h i x hx 0 _ rfl, h i x hx 1 _ rfl⟩

section
variable {pp : Option Addr} {pc : Nat} {P : List PersonV} {wp : Option Addr} {wcap : Nat} {wide : List Int} {hp : Option Addr} {hc : Nat} {high : List Int} {lp : Option Addr} {lc : Nat} {S : List StandV} {w : World}
end
end Go.Proofs.YtfbegdcmnfkhgaaGreatDoor

namespace Go.Proofs.YtfbegdcmnfkhgaaGreatDoor
open Go Go.RowKit

/-- How many are hidden. -/
def hidN (P : List PersonV) (wide high : List Int) (S T : List StandV) : Nat := (T.filter fun b => hidAny P wide high S b).length
theorem hidN_le (P : List PersonV) (wide high : List Int) (S T : List StandV) : hidN P wide high S T ≤ T.length := List.length_filter_le _ _
end Go.Proofs.YtfbegdcmnfkhgaaGreatDoor
