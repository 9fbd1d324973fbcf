/- Who is hidden, listed. Conditions: people, stage and stands are right (what CheckStands answers is a hypothesis here). -/
import Derived.Test.YtfcoeikekbjgpaaGreatDoorSxStJ
set_option linter.unusedSimpArgs false
set_option linter.unusedVariables false
namespace Go.Proofs.YtfcoeikekbjgpaaGreatDoor
open Go Go.RowKit

structure StandsOk (P : List PersonV) (wide high : List Int) (S : List StandV) : Prop where
  po : PeopleOk P
  wo : WideOk wide
  ho : HighOk high
  wh : high.length = wide.length
  len : S.length ≤ 200
  on : ∀ x ∈ S, OnStage wide x
  all : AllPeople P S

set_option maxRecDepth 100000 in
theorem choirOf_ok (pp : Option Addr) (pc : Nat) (P : List PersonV) (wp : Option Addr) (wc : Nat) (wide : List Int) (hp : Option Addr) (hc : Nat) (high : List Int) (lp : Option Addr) (lc : Nat) (S : List StandV) (w : World) (h1 : Slc 3 perC w pp P.length pc P) (h2 : Slc 1 intC w wp wide.length wc wide) (h3 : Slc 1 intC w hp high.length hc high) (h4 : Slc 3 staC w lp S.length lc S)
    (hck : ∀ u, Ext w u → Calls Tryz.prog 62 #[.slice pp P.length pc, .agg #[.slice wp wide.length wc, .slice hp high.length hc], .slice lp S.length lc] u fun e w' => e = .returned (.int .i64 0) ∧ Ext u w') :
    Calls Tryz.prog 60 #[.slice pp P.length pc, .agg #[.slice wp wide.length wc, .slice hp high.length hc], .slice lp S.length lc] w fun e w' => ∃ g, e = .returned (.tuple #[.pointer (some ⟨g, 0, none⟩), .int .i64 0]) ∧ w.heap.size ≤ g ∧ Ext w w' ∧ ChM w' g pp pc P wp wc wide hp hc high lp lc S := by
  have hX : Blk (w.alloc (.cells #[.slice wp wide.length wc, .slice hp high.length hc] 29)) w.heap.size 29 #[.slice wp wide.length wc, .slice hp high.length hc] := Blk.new' rfl
  have hE0 : Ext w (w.alloc (.cells #[.slice wp wide.length wc, .slice hp high.length hc] 29)) := (Ext.refl _).alloc _
  have hck2 := hck _ hE0
  replace hck2 := Lib.hid hck2
  replace h1 := Lib.hid h1
  replace h2 := Lib.hid h2
  replace h3 := Lib.hid h3
  replace h4 := Lib.hid h4
  clear hck
  go_enter Tryz.func60, Tryz.ntmps60
  go_wp2_with (go_at_call 62; (with_reducible refine Calls.mono hck2.out ?_); rintro e w1 ⟨rfl, hb1⟩; obtain ⟨y1, -⟩ := (hX.ext hb1).walk; have ly := (hX.ext hb1).lt)
  go_ret2
  have hE1 := (hE0.trans hb1).alloc (.cells #[.slice pp P.length pc, .slice wp wide.length wc, .slice hp high.length hc, .slice lp S.length lc] 130)
  exact ⟨w1.heap.size, rfl, (hE0.trans hb1).size, hE1, Blk.new' rfl, h1.out.ext hE1, h2.out.ext hE1, h3.out.ext hE1, h4.out.ext hE1⟩

def hidC (x : ByteArray × ByteArray) : List Value := [.string x.1, .string x.2]
end Go.Proofs.YtfcoeikekbjgpaaGreatDoor
