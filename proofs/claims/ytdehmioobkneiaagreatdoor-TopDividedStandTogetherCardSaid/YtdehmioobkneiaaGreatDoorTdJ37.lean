/- Who hides whom, by the document's text: the walks. Conditions: people, stage and stands are right. Who is hidden, by the document's text: the walk. Conditions: people, stage and stands are right. By how much rows would have to be higher, by the document's text: the walk. Conditions: people, stage and stands are right. Which part of those who stand is seen: the walks. Conditions: people, stage and stands are in memory. Hides, Seen and Lift of all arguments. Conditions: sizes. Which part of those who stand is seen, by the document's text. Conditions: people, stage and stands are right. The best stands: plain mathematics (a search that leaves what can't be better finds what the search of all finds). Conditions: as each theorem says. How many bits are set; who hides whom among those who stand so far: the solver's walks. Conditions: as each theorem says. The solver's memory; how high somebody stands, and who hides whom, among those who stand so far. Conditions: as each theorem says. Who is hidden behind somebody's coming: the solver's walk. Conditions: at most four stand. -/
import Derived.Test.YtdehmioobkneiaaGreatDoorTdJ35
import Derived.Test.YtdehmioobkneiaaGreatDoorTdStR
import Derived.Test.YtdehmioobkneiaaGreatDoorTdJ34
import Derived.Test.YtdehmioobkneiaaGreatDoorTdJ3
import Derived.Shelf.SlicesQ.IndexFunc
import Derived.Deep.DeepCutAuto
import Derived.Deep.Light
import Derived.Outline
set_option linter.unusedSimpArgs false
set_option linter.unusedVariables false
namespace Go.Proofs.YtdehmioobkneiaaGreatDoor
open Go Go.RowKit
end Go.Proofs.YtdehmioobkneiaaGreatDoor
namespace Go.Proofs.YtdehmioobkneiaaGreatDoor
open Go Go.RowKit
end Go.Proofs.YtdehmioobkneiaaGreatDoor
namespace Go.Proofs.YtdehmioobkneiaaGreatDoor
open Go Go.RowKit
end Go.Proofs.YtdehmioobkneiaaGreatDoor
namespace Go.Proofs.YtdehmioobkneiaaGreatDoor
open Go Go.RowKit
end Go.Proofs.YtdehmioobkneiaaGreatDoor
namespace Go.Proofs.YtdehmioobkneiaaGreatDoor
open Go Go.RowKit
theorem Elems.hid {w : World} {b off : Nat} {xs : List (ByteArray × ByteArray)} (h : Elems 2 hidC w b off xs) {i : Nat} {x : ByteArray × ByteArray} (hx : xs[i]? = some x) :
    w.cell? ⟨b, off + i * 2, none⟩ = some (.string x.1) ∧ w.cell? ⟨b, off + i * 2 + 1, none⟩ = some (.string x.2) :=
  ⟨h i x hx 0 _ rfl, h i x hx 1 _ rfl⟩
section
variable {pp : Option Addr} {pc : Nat} {P : List PersonV} {wp : Option Addr} {wcap : Nat} {wide : List Int} {hp : Option Addr} {hc : Nat} {high : List Int} {lp : Option Addr} {lc : Nat} {S : List StandV} {w : World}
end
end Go.Proofs.YtdehmioobkneiaaGreatDoor
namespace Go.Proofs.YtdehmioobkneiaaGreatDoor
open Go Go.RowKit
end Go.Proofs.YtdehmioobkneiaaGreatDoor
namespace Go.Proofs.YtdehmioobkneiaaGreatDoor
open Go Go.RowKit
section
variable (P : List PersonV) (wide high : List Int) (all : List StandV)
variable {P wide high all}
end
/-! ### who is hidden, by bits -/
section
variable (P : List PersonV) (wide high : List Int)
end
end Go.Proofs.YtdehmioobkneiaaGreatDoor
namespace Go.Proofs.YtdehmioobkneiaaGreatDoor
open Go Go.RowKit
end Go.Proofs.YtdehmioobkneiaaGreatDoor
namespace Go.Proofs.YtdehmioobkneiaaGreatDoor
open Go Go.RowKit
section
variable {v : Nat} {pp : Option Addr} {pc : Nat} {P : List PersonV} {wp : Option Addr} {wcap : Nat} {wide : List Int} {hp : Option Addr} {hc : Nat} {high : List Int} {np : Option Addr} {nc : Nat} {T : List StandV} {pls tks bs : Value} {fw : Int} {w : World}
end
end Go.Proofs.YtdehmioobkneiaaGreatDoor
namespace Go.Proofs.YtdehmioobkneiaaGreatDoor
open Go Go.RowKit
section
variable (P : List PersonV) (wide high : List Int)
end
section
variable {v : Nat} {pp : Option Addr} {pc : Nat} {P : List PersonV} {wp : Option Addr} {wcap : Nat} {wide : List Int} {hp : Option Addr} {hc : Nat} {high : List Int} {np : Option Addr} {nc : Nat} {T : List StandV} {pls tks bs : Value} {fw : Int} {w : World}
end
end Go.Proofs.YtdehmioobkneiaaGreatDoor
