/- The best stands: the program's walk. Conditions: people and a stage lie in memory; four people at most where nothing is wrong. -/
import Derived.Test.YtfbegdcmnfkhgaaGreatDoorRxBeH
import Derived.Test.YtfbegdcmnfkhgaaGreatDoorRxJ34
import Derived.Test.YtfbegdcmnfkhgaaGreatDoorRxJ33
import Derived.OwnWalk
set_option linter.unusedSimpArgs false
set_option linter.unusedVariables false
namespace Go.Proofs.YtfbegdcmnfkhgaaGreatDoor
open Go Go.RowKit Go.Sort

/-- The solver while its places are laid. -/
structure PlM (w0 w : World) (v : Nat) (pv wv hv fv : Value) (lp : Option Addr) (lc : Nat) (L : List StandV) : Prop where
  ext : Ext w0 w
  low : w0.heap.size ≤ v
  blk : Blk w v 77 #[pv, wv, hv, .slice lp L.length lc, .slice none 0 0, .slice none 0 0, .slice none 0 0, fv]
  own : w.ownsRow (v + 1) 46 3 (.slice lp L.length lc) L.length (L.flatMap staC)
theorem PlM.more {w0 w w' : World} {v : Nat} {pv wv hv fv : Value} {lp : Option Addr} {lc : Nat} {L : List StandV} (h : PlM w0 w v pv wv hv fv lp lc L) (he : Ext w w') : PlM w0 w' v pv wv hv fv lp lc L :=
  ⟨h.ext.trans he, h.low, h.blk.ext he, own_ext he h.own⟩
theorem PlM.app {w0 w : World} {v : Nat} {pv wv hv fv : Value} {lp : Option Addr} {lc : Nat} {L : List StandV} (h : PlM w0 w v pv wv hv fv lp lc L) {x : StandV} {b1 c1 : Nat} {w6 : World}
    (ho : w6.ownsRow (v + 1) 46 3 (.slice (some ⟨b1, 0, none⟩) (L.length + 1) c1) (L.length + 1) (L.flatMap staC ++ staC x)) (hg : w.grownBy w6 (Value.slice lp L.length lc).ownBlock) :
    PlM w0 (w6.setCell ⟨v, 3, none⟩ (.slice (some ⟨b1, 0, none⟩) (L.length + 1) c1)) v pv wv hv fv (some ⟨b1, 0, none⟩) c1 (L ++ [x]) := by
  have hlow := h.low
  have hne : (Value.slice lp L.length lc).ownBlock ≠ some v := fun e => by have := (own_block_ge h.own e).1; omega
  have hV : Blk w6 v 77 _ := (hg.block v h.blk.lt fun e => hne e.symm).trans h.blk
  have hl : (L ++ [x]).length = L.length + 1 := by simp
  refine ⟨(h.ext.grown hg fun g hgg => by have := (own_block_ge h.own hgg).1; omega).setCell (show w0.heap.size ≤ v from hlow) _, h.low, ?_, ?_⟩
  · rw [hl]
    exact (hV.set_ 3 _).cast (by simp)
  · rw [hl, flat_snoc]
    exact ho.kept (grown_set w6 ⟨v, 3, none⟩ _) (.inr fun e => by have := (own_block_ge ho (g := v) e).1; omega)
section
variable {pp : Option Addr} {pc : Nat} {P : List PersonV} {wp : Option Addr} {wcap : Nat} {wide : List Int} {hp : Option Addr} {hc : Nat} {high : List Int} {w : World}
end
end Go.Proofs.YtfbegdcmnfkhgaaGreatDoor
