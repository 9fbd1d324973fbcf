/- Behind a loud operation of a region: more may be known of the world, and quiet operations may follow. Conditions: none. -/
import Derived.Test.YtboplnogfjmpnaaGreatDoorVbPlan
set_option linter.unusedSimpArgs false
set_option linter.unusedVariables false
namespace Go.Proofs.YtboplnogfjmpnaaGreatDoor
open Go Go.RowKit

section
variable {P : Program} {ops : Array Oper} {md : Region.Mode} {Q : Exit → Act → World → Prop} {H H' : World → Prop} {E : World → World → Prop}

theorem wpE_more {T : List Nat} (hle : ∀ w, H' w → H w) : ∀ (fuel : Nat) (listed : Array Bool) (a : Act) (w : World), wpE P md ops Q H' E T fuel listed a w → wpE P md ops Q H E T fuel listed a w
  | 0, _, _, _, h => h
  | fuel + 1, _, _, _, h => fun w' he => ⟨(h w' he).1, fun i hi => wpOp_mono (fun a' w2 h' => h'.elim .inl fun h1 => .inr ⟨h1.1, hle _ h1.2.1, wpE_more hle fuel _ a' w2 h1.2.2⟩) ((h w' he).2 i hi)⟩

theorem ww_quiet {n : Nat} {listed : Array Bool} {a : Act} {w : World} (plan : List Nat) (fuel : Nat) (H' : World → Prop) (hn : plan.length + fuel = n) (hs : Region.noSelect ops = true) (hB : quietB ops plan listed = true)
    (hr : ∀ w, E w w) (ht : ∀ a b c, E a b → E b c → E a c) (hH' : ∀ w w', H' w → E w w' → H' w') (hw' : H' w) (hle : ∀ w, H' w → H w)
    (h : wpQ P ops Q H' E fuel plan listed a w) : WW P ops Q H E n listed a w := by
  intro _ hcl _
  subst hn
  exact wpE_more hle _ _ _ _ (wpE_of_quiet hr ht hH' hs plan listed a w hB hcl hw' h)

end
end Go.Proofs.YtboplnogfjmpnaaGreatDoor
