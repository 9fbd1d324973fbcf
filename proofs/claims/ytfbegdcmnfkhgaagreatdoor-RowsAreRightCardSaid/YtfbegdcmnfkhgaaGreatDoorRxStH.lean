/- Whether stands are near; who stands in front of whom. Conditions: the stands are on the stage. -/
import Derived.Test.YtfbegdcmnfkhgaaGreatDoorRxJ14
set_option linter.unusedSimpArgs false
set_option linter.unusedVariables false
namespace Go.Proofs.YtfbegdcmnfkhgaaGreatDoor
open Go Go.RowKit

/-- A choir in memory. -/
structure ChM (w : World) (g : Nat) (pp : Option Addr) (pc : Nat) (P : List PersonV) (wp : Option Addr) (wc : Nat) (wide : List Int) (hp : Option Addr) (hc : Nat) (high : List Int) (lp : Option Addr) (lc : Nat) (S : List StandV) : Prop where
  blk : Blk w g 146 #[.slice pp P.length pc, .slice wp wide.length wc, .slice hp high.length hc, .slice lp S.length lc]
  per : Slc 3 perC w pp P.length pc P
  wid : Slc 1 intC w wp wide.length wc wide
  hig : Slc 1 intC w hp high.length hc high
  sta : Slc 3 staC w lp S.length lc S
theorem ChM.more {w w' : World} {g : Nat} {pp : Option Addr} {pc : Nat} {P : List PersonV} {wp : Option Addr} {wc : Nat} {wide : List Int} {hp : Option Addr} {hc : Nat} {high : List Int} {lp : Option Addr} {lc : Nat} {S : List StandV} (h : ChM w g pp pc P wp wc wide hp hc high lp lc S) (he : Ext w w') : ChM w' g pp pc P wp wc wide hp hc high lp lc S :=
  ⟨h.blk.ext he, h.per.ext he, h.wid.ext he, h.hig.ext he, h.sta.ext he⟩

end Go.Proofs.YtfbegdcmnfkhgaaGreatDoor
