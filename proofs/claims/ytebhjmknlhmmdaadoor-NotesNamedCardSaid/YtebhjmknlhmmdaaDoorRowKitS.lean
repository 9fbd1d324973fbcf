/- The listed table of the spaces. Conditions: none. -/
import Derived.Test.YtebhjmknlhmmdaaDoorRowKit
import Derived.Test.YtebhjmknlhmmdaaDoorNameB
import Derived.Handed
import Derived.LaidLaws
namespace Go.Proofs.YtebhjmknlhmmdaaDoor
open Go Go.RowKit

/-- A start for a row that lists a variable that points. -/
theorem witness_ref {H : Type} {enc : TypeId × Value → H} {C : Checked} {os : Os} {f : FuncId} {fn : Func} {s : ChangeSpec} {conds : List PathCond} {apart : Bool} {X : World → Array Value → Prop} (modest : Bool) (w0 : World) (args : Array Value) (fuel : Nat) (hos : w0.os = os)
    (hv : (w0.forCall (fun _ _ => 0) ⟨#[], args, []⟩).variablesRefB C.prog = true)
    (hr : ((w0.forCall (fun _ _ => 0) ⟨#[], args, []⟩).heap.toList.drop C.prog.globals.size).take ((begin C.prog (fun _ _ => 0) default).world.heap.size - C.prog.globals.size) = (begin C.prog (fun _ _ => 0) default).world.heap.toList.drop C.prog.globals.size)
    (hok : Input.okWideB C.prog (w0.forCall (fun _ _ => 0) ⟨#[], args, []⟩) f ⟨#[], args, []⟩ = true)
    (hpre : s.preB enc C.prog fn conds apart (w0.forCall (fun _ _ => 0) ⟨#[], args, []⟩).memory args fuel = true)
    (hsz : s.sizedB enc C.prog fn apart (w0.forCall (fun _ _ => 0) ⟨#[], args, []⟩).memory args fuel = true)
    (hx : X (w0.forCall (fun _ _ => 0) ⟨#[], args, []⟩).memory args) :
    ∃ (w : World) (tape : Tape) (i : Input), w.os = os ∧ (w.forCall tape i).Shaped C.prog ∧ i.vars = [] ∧ Input.okWide C.prog (w.forCall tape i) .any w.heap.size f i ∧
      ((s.pre enc C.prog fn conds apart (w.forCall tape i).memory i.args ∧ X (w.forCall tape i).memory i.args) ∧ sizedMet enc C.prog fn (OpenSpec.ofChange s) apart (w.forCall tape i).memory i.args) ∧ ({ modest := modest } : Assume).holds C.prog (lone (Frame.enter C.prog f i.args .normal) [] (w.forCall tape i)) :=
  ⟨w0, fun _ _ => 0, ⟨#[], args, []⟩, hos, World.shaped_of_RefB hv hr, (Input.okWide_of_okWideB (base := 0) hok).1, (Input.okWide_of_okWideB hok).2, ⟨⟨ChangeSpec.pre_of_preB hpre, hx⟩, sizedMet_of_sizedB hsz⟩, by
    simp only [Assume.holds]
    exact ⟨by simp, by simp, fun _ => Modest.zero, by simp, by simp⟩⟩

theorem tabS_of_met {laid : List (String × DataW Unit)} {W : World} (h : laidMetH Tryd.prog laid W) (hm : (laid.all fun x => x.2.handleName?.isNone) = true) (i : Nat) (hi : laid[i]? = some ("strings.asciiSpace", Lib.tabData .u8 Lib.asciiSpaceTab)) : TabS W.heap.size W := by
  rw [Go.MakeChecks.laidMetH_plain _ _ _ hm] at h
  obtain ⟨ps, hv, _⟩ := h
  have hg : Tryd.prog.globalNamed "strings.asciiSpace" = some (Tryd.prog.globalNamed "strings.asciiSpace" |>.getD 0) := by kernel_rfl
  have hT := tab_of_vars (P := Tryd.prog) (k := .u8) (zs := Lib.asciiSpaceTab) (t := 110) (e := 5) (n := 256) hg (by kernel_rfl) Tryd.underlying110 Tryd.underlying5 (by kernel_rfl) (by kernel_rfl) laid ps hv (List.mem_of_getElem? hi)
  exact ⟨Nat.le_refl _, Lib.tabBelow_of_tabIs hT⟩
end Go.Proofs.YtebhjmknlhmmdaaDoor
