/- Comparing in a region that draws. Conditions: as each theorem says. -/
import Derived.Test.YtachmdaiecbenaaGreatDoorSbSrtA
import Derived.Test.YtachmdaiecbenaaGreatDoorSbFactsB
import Derived.Test.YtachmdaiecbenaaGreatDoorSbApp
import Derived.Sort.Grow
set_option linter.unusedSimpArgs false
set_option linter.unusedVariables false
namespace Go.Proofs.YtachmdaiecbenaaGreatDoor
open Go Go.RowKit Go.Sort

/-- Nothing but draws. -/
def Drw (w w' : World) : Prop := ∃ q, w' = w.drewN q
theorem Drw.refl (w : World) : Drw w w := ⟨0, rfl⟩
theorem Drw.trans {a b c : World} (h : Drw a b) (k : Drw b c) : Drw a c := by
  obtain ⟨q, rfl⟩ := h
  obtain ⟨r, rfl⟩ := k
  exact ⟨q + r, by simp [World.drewN, Nat.add_assoc]⟩
theorem Blk.drw {w w' : World} {g : Nat} {t : TypeId} {cs : Array Value} (h : Blk w g t cs) (he : Drw w w') : Blk w' g t cs := by
  obtain ⟨q, rfl⟩ := he
  exact h
set_option maxRecDepth 100000 in
theorem cmpIntE_any (x y : Int) (w : World) :
    Calls Tryz.prog 73 #[.int .i64 x, .int .i64 y] w fun e w' => e = .returned (.int .i64 (cmpZ x y)) ∧ Drw w w' := by
  have hc : (x < y ∧ cmpZ x y = -1) ∨ (x = y ∧ cmpZ x y = 0) ∨ (y < x ∧ cmpZ x y = 1) := by unfold cmpZ; split <;> (try split) <;> omega
  rcases hc with ⟨h, hv⟩ | ⟨h, hv⟩ | ⟨h, hv⟩
  all_goals
    rw [hv]
    clear hv
    go_enter Tryz.func73, Tryz.ntmps73
    go_wp2_with (go_at_call 103; (with_reducible refine Calls.mono (isNaNI_any _ _) ?_); rintro e w' ⟨rfl, rfl⟩)
    go_ret
    exact ⟨rfl, Drw.refl _⟩

theorem grow_three (w : World) (q : Nat) (A B C : Obj) : (((w.alloc A).alloc B).drew.drewN q).alloc C = grow (w.drewN (q + 1)) #[A, B, C] := by
  rw [alloc_eq_grow, alloc_eq_grow, alloc_eq_grow, drew_eq_ahead]
  simp [grow, World.drewN, ahead, Nat.add_assoc, Nat.add_comm]
  refine ⟨?_, by omega, rfl, rfl⟩
  show ((w.heap.push A).push B).push C = _
  apply Array.ext'
  simp
theorem cmpSE_any (a b : ByteArray) (w : World) :
    Calls Tryz.prog 72 #[.string a, .string b] w fun e w' => e = .returned (.int .i64 (cmpS a b)) ∧ Drw w w' :=
  (Tryz.strings_Compare a b w).mono fun _ _ h => ⟨h.1, h.2 ▸ Drw.refl _⟩
end Go.Proofs.YtachmdaiecbenaaGreatDoor
