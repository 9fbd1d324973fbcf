/- The facts of the properties. Conditions: the table of the powers of ten stands. -/
import Derived.Test.YtlmbpgjdepmlcaaDoorReady
namespace Go.Proofs.YtlmbpgjdepmlcaaDoor
open Go Go.RowKit
set_option maxRecDepth 100000 in
theorem ready_any (B : Nat) (w : World) (ht : Tab B w) :
    Calls Tryd.prog 9 #[] w fun e w' => e = .returned (.bool true) ∧ Ext w w' := by
  go_enter Tryd.func9, Tryd.ntmps9
  go_wp2_with (first
    | (go_at_call 34; refine (comfort_closed _).mono ?_; rintro e w1 ⟨rfl, hb1⟩)
    | (go_at_call 35; refine (name61_any _).mono ?_; rintro e w2 ⟨rfl, hb2⟩; replace hb2 : Ext w w2 := (by exact hb1.trans hb2); clear hb1)
    | (go_at_call 36; refine (shares_closed _ B _ (by exact (ht.ext hb2).ext ((Ext.refl _).alloc _)) (by exact Blk.new' rfl)).mono ?_; rintro e w3 ⟨b, off, c, rfl, hlt, h0, h1, hb3⟩))
  go_ret
  exact ⟨rfl, by exact (hb2.alloc _).trans hb3⟩
end Go.Proofs.YtlmbpgjdepmlcaaDoor
