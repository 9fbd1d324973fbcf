/- Who is hidden, by the document's text: the walk. Conditions: people, stage and stands are right. By how much rows would have to be higher, by the document's text: the walk. Conditions: people, stage and stands are right. Which part of those who stand is seen: the walks. Conditions: people, stage and stands are in memory. Hides, Seen and Lift of all arguments. Conditions: sizes. Which part of those who stand is seen, by the document's text. Conditions: people, stage and stands are right. -/
import Derived.Test.YtfbegdcmnfkhgaaGreatDoorLxStS
import Derived.Test.YtfbegdcmnfkhgaaGreatDoorLxJ22
import Derived.Test.YtfbegdcmnfkhgaaGreatDoorLxJ4
import Derived.Test.YtfbegdcmnfkhgaaGreatDoorLxStR
import Derived.Shelf.SlicesQ.IndexFunc
set_option linter.unusedSimpArgs false
set_option linter.unusedVariables false
namespace Go.Proofs.YtfbegdcmnfkhgaaGreatDoor
open Go Go.RowKit

end Go.Proofs.YtfbegdcmnfkhgaaGreatDoor

namespace Go.Proofs.YtfbegdcmnfkhgaaGreatDoor
open Go Go.RowKit

end Go.Proofs.YtfbegdcmnfkhgaaGreatDoor

namespace Go.Proofs.YtfbegdcmnfkhgaaGreatDoor
open Go Go.RowKit

def hidAny (P : List PersonV) (wide high : List Int) (S : List StandV) (b : StandV) : Bool := S.any fun a => hidesS P wide high a b
end Go.Proofs.YtfbegdcmnfkhgaaGreatDoor

namespace Go.Proofs.YtfbegdcmnfkhgaaGreatDoor
open Go Go.RowKit

theorem Elems.hid {w : World} {b off : Nat} {xs : List (ByteArray × ByteArray)} (h : Elems 2 hidC w b off xs) {i : Nat} {x : ByteArray × ByteArray} (hx : xs[i]? = some x) :
    w.cell? ⟨b, off + i * 2, none⟩ = some (.string x.1) ∧ w.cell? ⟨b, off + i * 2 + 1, none⟩ = some (.string x.2) :=
  ⟨h i x hx 0 _ rfl, h i x hx 1 _ rfl⟩

section
variable {pp : Option Addr} {pc : Nat} {P : List PersonV} {wp : Option Addr} {wcap : Nat} {wide : List Int} {hp : Option Addr} {hc : Nat} {high : List Int} {lp : Option Addr} {lc : Nat} {S : List StandV} {w : World}
theorem PsM.check (h : PsM w pp pc P wp wcap wide hp hc high lp lc S) {v : Int} (hv : standsF P wide high S = v) : ∀ u, Ext w u → Calls Tryz.prog 27 #[.slice pp P.length pc, .agg #[.slice wp wide.length wcap, .slice hp high.length hc], .slice lp S.length lc] u fun e w' => e = .returned (.int .i64 v) ∧ Ext u w' :=
  fun u hu => hv ▸ checkStands_any pp pc P wp wcap wide hp hc high lp lc S u (h.more hu)
theorem hides_good (h : PsM w pp pc P wp wcap wide hp hc high lp lc S) (hz : standsF P wide high S = 0) :
    Calls Tryz.prog 30 #[.slice pp P.length pc, .agg #[.slice wp wide.length wcap, .slice hp high.length hc], .slice lp S.length lc] w fun e w' => ∃ (q : Option Addr) (c : Nat), e = .returned (.tuple #[.slice q (hiddenL P wide high S).length c, .int .i64 0]) ∧ Slc 2 hidC w' q (hiddenL P wide high S).length c (hiddenL P wide high S) ∧ Ext w w' :=
  hidesL_ok pp pc P wp wcap wide hp hc high lp lc S w h.per h.wid h.hig h.sta (standsF_ok hz).1 (h.check hz)
end
end Go.Proofs.YtfbegdcmnfkhgaaGreatDoor

namespace Go.Proofs.YtfbegdcmnfkhgaaGreatDoor
open Go Go.RowKit

/-- How many are hidden. -/
def hidN (P : List PersonV) (wide high : List Int) (S T : List StandV) : Nat := (T.filter fun b => hidAny P wide high S b).length
theorem hidN_le (P : List PersonV) (wide high : List Int) (S T : List StandV) : hidN P wide high S T ≤ T.length := List.length_filter_le _ _
end Go.Proofs.YtfbegdcmnfkhgaaGreatDoor
