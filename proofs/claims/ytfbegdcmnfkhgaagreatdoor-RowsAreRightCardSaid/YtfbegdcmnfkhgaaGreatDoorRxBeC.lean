/- The solver's memory; how high somebody stands, and who hides whom, among those who stand so far. Conditions: as each theorem says. -/
import Derived.Test.YtfbegdcmnfkhgaaGreatDoorRxJ27
set_option linter.unusedSimpArgs false
set_option linter.unusedVariables false
namespace Go.Proofs.YtfbegdcmnfkhgaaGreatDoor
open Go Go.RowKit

/-- The solver: what it reads. -/
structure SvR (w : World) (v : Nat) (pp : Option Addr) (pc : Nat) (P : List PersonV) (wp : Option Addr) (wcap : Nat) (wide : List Int) (hp : Option Addr) (hc : Nat) (high : List Int) (np : Option Addr) (nc : Nat) (T : List StandV) (pls tks bs : Value) (fw : Int) : Prop where
  blk : Blk w v 77 #[.slice pp P.length pc, .slice wp wide.length wcap, .slice hp high.length hc, pls, tks, .slice np T.length nc, bs, .int .i64 fw]
  per : Slc 3 perC w pp P.length pc P
  wid : Slc 1 intC w wp wide.length wcap wide
  hig : Slc 1 intC w hp high.length hc high
  now : Slc 3 staC w np T.length nc T
theorem SvR.more {w w' : World} {v : Nat} {pp : Option Addr} {pc : Nat} {P : List PersonV} {wp : Option Addr} {wcap : Nat} {wide : List Int} {hp : Option Addr} {hc : Nat} {high : List Int} {np : Option Addr} {nc : Nat} {T : List StandV} {pls tks bs : Value} {fw : Int} (h : SvR w v pp pc P wp wcap wide hp hc high np nc T pls tks bs fw) (he : Ext w w') : SvR w' v pp pc P wp wcap wide hp hc high np nc T pls tks bs fw :=
  ⟨h.blk.ext he, h.per.ext he, h.wid.ext he, h.hig.ext he, h.now.ext he⟩
section
variable {v : Nat} {pp : Option Addr} {pc : Nat} {P : List PersonV} {wp : Option Addr} {wcap : Nat} {wide : List Int} {hp : Option Addr} {hc : Nat} {high : List Int} {np : Option Addr} {nc : Nat} {T : List StandV} {pls tks bs : Value} {fw : Int} {w : World}
end
end Go.Proofs.YtfbegdcmnfkhgaaGreatDoor
