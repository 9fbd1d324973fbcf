/- Right voices and parts, moments and ranges that the stream makes, told exactly. Conditions: sizes. -/
import Derived.Test.YthhbhjppljblnaaGreatDoorSlVoE
set_option linter.unusedSimpArgs false
set_option linter.unusedVariables false
namespace Go.Proofs.YthhbhjppljblnaaGreatDoor
open Go Go.RowKit

theorem own_lowV {w : World} {base base' k n : Nat} {e : TypeId} {v : Value} {xs : List Value} (h : w.ownsRow base' e k v n xs) (hb : base ≤ base') : w.ownsRow base e k v n xs :=
  ⟨h.1, h.2.imp id fun ⟨g, cap, cur, hv, hg, r⟩ => ⟨g, cap, cur, hv, Nat.le_trans hb hg, r⟩⟩
def smtF (L : Src) (a : Nat) : Int := pkF L (a + 1) [0, 10, 50, 60, 120, 500, pkF L a [-1, 345686400000]]
set_option maxRecDepth 100000 in
theorem sometime_det (s k : Nat) (L : Src) (w : World) (hk : k ≤ 990000) (h : StrL w s L k) :
    Calls Tryz.prog 10 #[.pointer (some ⟨s, 0, none⟩)] w fun e w' => e = .returned (.int .i64 (smtF L k)) ∧ StrL w' s L (k + 2) ∧ ExtS s w w' := by
  have hv : smtF L k = pkF L (k + 1) [0, 10, 50, 60, 120, 500, pkF L k [-1, 345686400000]] := rfl
  replace hv := Lib.hid hv
  go_enter Tryz.func10, Tryz.ntmps10
  go_wp2_with (first
    | (go_at_call 43; have l1 := h.lt; refine (pick_det s k _ _ 2 [-1, 345686400000] L _ (by omega) (by simp) (by simp) (by exact h.ext (Ext.alloc (Ext.refl _) _)) (by exact Nat.ne_of_gt l1) (by exact Blk.new' rfl)).mono ?_; rintro e w2 ⟨rfl, hS2, hE2⟩; have hE2' := ((ExtS.refl s w).alloc _).trans hE2; clear h)
    | (go_at_call 43; have l2 := hS2.lt; refine (pick_det s (k + 1) _ _ 7 [0, 10, 50, 60, 120, 500, pkF L k [-1, 345686400000]] L _ (by omega) (by simp) (by simp) (by exact hS2.ext (Ext.alloc (Ext.refl _) _)) (by exact Nat.ne_of_gt l2) (by exact Blk.new' rfl)).mono ?_; rintro e w3 ⟨rfl, hS3, hE3⟩; have hE3' := (hE2'.alloc _).trans hE3))
  go_ret
  exact ⟨by rw [hv.out]; rfl, hS3, hE3'⟩

end Go.Proofs.YthhbhjppljblnaaGreatDoor
