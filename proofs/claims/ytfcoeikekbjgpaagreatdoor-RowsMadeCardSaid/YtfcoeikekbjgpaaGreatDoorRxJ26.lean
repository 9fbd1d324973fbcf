/- By how much rows would have to be higher, by the document's text: the walk. Conditions: people, stage and stands are right. Which part of those who stand is seen: the walks. Conditions: people, stage and stands are in memory. Hides, Seen and Lift of all arguments. Conditions: sizes. Which part of those who stand is seen, by the document's text. Conditions: people, stage and stands are right. The best stands: plain mathematics (a search that leaves what can't be better finds what the search of all finds). Conditions: as each theorem says. How many bits are set; who hides whom among those who stand so far: the solver's walks. Conditions: as each theorem says. The solver's memory; how high somebody stands, and who hides whom, among those who stand so far. Conditions: as each theorem says. Who is hidden behind somebody's coming: the solver's walk. Conditions: at most four stand. -/
import Derived.Test.YtfcoeikekbjgpaaGreatDoorRxJ24
import Derived.Test.YtfcoeikekbjgpaaGreatDoorRxStL
import Derived.Test.YtfcoeikekbjgpaaGreatDoorRxJ3
import Derived.Test.YtfcoeikekbjgpaaGreatDoorRxStR
import Derived.Shelf.SlicesQ.IndexFunc
import Derived.Deep.DeepCutAuto
import Derived.Deep.Light
import Derived.Outline
set_option linter.unusedSimpArgs false
set_option linter.unusedVariables false
namespace Go.Proofs.YtfcoeikekbjgpaaGreatDoor
open Go Go.RowKit

end Go.Proofs.YtfcoeikekbjgpaaGreatDoor

namespace Go.Proofs.YtfcoeikekbjgpaaGreatDoor
open Go Go.RowKit

end Go.Proofs.YtfcoeikekbjgpaaGreatDoor

namespace Go.Proofs.YtfcoeikekbjgpaaGreatDoor
open Go Go.RowKit

theorem Elems.hid {w : World} {b off : Nat} {xs : List (ByteArray × ByteArray)} (h : Elems 2 hidC w b off xs) {i : Nat} {x : ByteArray × ByteArray} (hx : xs[i]? = some x) :
    w.cell? ⟨b, off + i * 2, none⟩ = some (.string x.1) ∧ w.cell? ⟨b, off + i * 2 + 1, none⟩ = some (.string x.2) :=
  ⟨h i x hx 0 _ rfl, h i x hx 1 _ rfl⟩

set_option maxRecDepth 100000 in
theorem noneFault_any (is : Bool) (w : World) : Calls Tryz.prog 43 #[.bool is] w fun e w' => e = .returned (.int .i64 (if is then 8 else 0)) ∧ w = w' := by
  cases is
  all_goals
    go_enter Tryz.func43, Tryz.ntmps43
    go_wp2
    go_ret
    exact ⟨rfl, rfl⟩
section
variable {pp : Option Addr} {pc : Nat} {P : List PersonV} {wp : Option Addr} {wcap : Nat} {wide : List Int} {hp : Option Addr} {hc : Nat} {high : List Int} {lp : Option Addr} {lc : Nat} {S : List StandV} {w : World}
theorem PsM.check (h : PsM w pp pc P wp wcap wide hp hc high lp lc S) {v : Int} (hv : standsF P wide high S = v) : ∀ u, Ext w u → Calls Tryz.prog 62 #[.slice pp P.length pc, .agg #[.slice wp wide.length wcap, .slice hp high.length hc], .slice lp S.length lc] u fun e w' => e = .returned (.int .i64 v) ∧ Ext u w' :=
  fun u hu => hv ▸ checkStands_any pp pc P wp wcap wide hp hc high lp lc S u (h.more hu)
theorem hides_good (h : PsM w pp pc P wp wcap wide hp hc high lp lc S) (hz : standsF P wide high S = 0) :
    Calls Tryz.prog 46 #[.slice pp P.length pc, .agg #[.slice wp wide.length wcap, .slice hp high.length hc], .slice lp S.length lc] w fun e w' => ∃ (q : Option Addr) (c : Nat), e = .returned (.tuple #[.slice q (hiddenL P wide high S).length c, .int .i64 0]) ∧ Slc 2 hidC w' q (hiddenL P wide high S).length c (hiddenL P wide high S) ∧ Ext w w' :=
  hidesL_ok pp pc P wp wcap wide hp hc high lp lc S w h.per h.wid h.hig h.sta (standsF_ok hz).1 (h.check hz)
end
end Go.Proofs.YtfcoeikekbjgpaaGreatDoor

namespace Go.Proofs.YtfcoeikekbjgpaaGreatDoor
open Go Go.RowKit

end Go.Proofs.YtfcoeikekbjgpaaGreatDoor

namespace Go.Proofs.YtfcoeikekbjgpaaGreatDoor
open Go Go.RowKit

section
variable (P : List PersonV) (wide high : List Int) (all : List StandV)
variable {P wide high all}
end

/-! ### who is hidden, by bits -/
section
variable (P : List PersonV) (wide high : List Int)
end
end Go.Proofs.YtfcoeikekbjgpaaGreatDoor

namespace Go.Proofs.YtfcoeikekbjgpaaGreatDoor
open Go Go.RowKit

end Go.Proofs.YtfcoeikekbjgpaaGreatDoor

namespace Go.Proofs.YtfcoeikekbjgpaaGreatDoor
open Go Go.RowKit

section
variable {v : Nat} {pp : Option Addr} {pc : Nat} {P : List PersonV} {wp : Option Addr} {wcap : Nat} {wide : List Int} {hp : Option Addr} {hc : Nat} {high : List Int} {np : Option Addr} {nc : Nat} {T : List StandV} {pls tks bs : Value} {fw : Int} {w : World}
end
end Go.Proofs.YtfcoeikekbjgpaaGreatDoor

namespace Go.Proofs.YtfcoeikekbjgpaaGreatDoor
open Go Go.RowKit

section
variable (P : List PersonV) (wide high : List Int)
end

section
variable {v : Nat} {pp : Option Addr} {pc : Nat} {P : List PersonV} {wp : Option Addr} {wcap : Nat} {wide : List Int} {hp : Option Addr} {hc : Nat} {high : List Int} {np : Option Addr} {nc : Nat} {T : List StandV} {pls tks bs : Value} {fw : Int} {w : World}
end
end Go.Proofs.YtfcoeikekbjgpaaGreatDoor
