/- What the rows of the laws share: the argument's list. Conditions: none. -/
import Derived.Test.YthhbhjppljblnaaGreatDoorRows
import Derived.Test.YthhbhjppljblnaaGreatDoorSlStream
import Derived.ProofKit
import Derived.OpenShut
import Derived.ChangeOld
import Derived.ChangeSame
import Derived.ChangeVars
import Derived.JoinedOf
import Derived.LaidLaws
import Derived.LaidHandle
import Derived.MakeChecks
import Derived.Lib.LaidTab
import Derived.Stop.Joined
import Derived.Below
import Derived.Lay
set_option linter.unusedSimpArgs false
set_option linter.unusedVariables false
namespace Go.Proofs.YthhbhjppljblnaaGreatDoor
open Go.ChangeShapes Go.WideShapes Go.ChangeAt Go.RowKit

theorem own : ownKnob Tryz.prog.godebug = none := by kernel_rfl
theorem laidOut : laidOutB Tryz.prog = true := by kernel_rfl

theorem lst_of_row {W : World} {x : Addr} {len cap : Nat} {zs : List Int} (hl : len ≤ cap) (hm : cap ≤ maxLen) (hz : zs.length = cap) (hc : ∀ i, i < zs.length → W.cell? (x.add i) = some (.int .i64 (zs.getD i 0))) (hw : ∀ n ∈ zs, (Lit.int .i64 n).wf = true) :
    Lst W W.heap.size (some x) len := by
  refine ⟨Nat.le_trans (Nat.le_trans hl hm) (by decide), fun hn => ?_⟩
  obtain ⟨B, off, sp⟩ := x
  have h0 := hc 0 (by omega)
  have hs : sp = none := by
    cases sp with
    | none => rfl
    | some q => simp [Addr.add, World.cell?] at h0; split at h0 <;> simp at h0
  subst hs
  have hadd : ∀ i, (⟨B, off, none⟩ : Addr).add i = ⟨B, off + i, none⟩ := fun i => by
    unfold Addr.add
    split
    · subst_vars; rfl
    · rfl
  have hB : B < W.heap.size := by
    rcases Nat.lt_or_ge B W.heap.size with h | h
    · exact h
    · rw [hadd] at h0
      simp [World.cell?, Array.getElem?_eq_none h] at h0
  refine ⟨B, off, rfl, hB, fun i hi => ⟨zs.getD i 0, by rw [← hadd]; exact hc i (by omega), ?_⟩⟩
  have hi' : i < zs.length := by omega
  have hg : zs.getD i 0 = zs[i] := by simp [hi']
  have := hw (zs.getD i 0) (by rw [hg]; exact List.getElem_mem _)
  simp [Lit.wf, IntKind.min, IntKind.max] at this
  first | omega | exact this

end Go.Proofs.YthhbhjppljblnaaGreatDoor
