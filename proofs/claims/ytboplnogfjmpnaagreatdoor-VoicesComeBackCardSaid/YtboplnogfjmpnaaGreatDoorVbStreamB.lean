/- More of the stream: flips, ranges, picks. Conditions: as each theorem says. -/
import Derived.Test.YtboplnogfjmpnaaGreatDoorVbStream
set_option linter.unusedSimpArgs false
set_option linter.unusedVariables false
namespace Go.Proofs.YtboplnogfjmpnaaGreatDoor
open Go Go.RowKit

set_option maxRecDepth 100000 in
theorem pick_any (s k b off cap : Nat) (xs : List Int) (w : World) (hk : k ≤ 1000000) (hn : 1 ≤ xs.length) (hn' : xs.length ≤ 1000000) (h : Str w s k) (hb : b < w.heap.size) (hs : b ≠ s)
    (hc : ∀ i, i < xs.length → w.cell? ⟨b, off + i, none⟩ = some (.int .i64 (xs.getD i 0))) :
    Calls Tryz.prog 37 #[.pointer (some ⟨s, 0, none⟩), .slice (some ⟨b, off, none⟩) xs.length cap] w fun e w' =>
      ∃ v : Nat, v < xs.length ∧ e = .returned (.int .i64 (xs.getD v 0)) ∧ Str w' s (k + 1) ∧ ExtS s w w' := by
  have hN := next_any s k xs.length w hk hn (by omega) h
  replace hN := Lib.hid hN
  replace hc := Lib.hid hc
  go_enter Tryz.func37, Tryz.ntmps37
  go_wp2_with (go_at_call 44; refine hN.out.mono ?_; rintro e w1 ⟨v, rfl, hv, hS, hE⟩; have hx := (hE.cell hb hs (off + v)).trans (hc.out v hv))
  go_ret
  exact ⟨v, hv, ret_int (by simp [hv]), hS, hE⟩

theorem pick_blk (s k b t cap : Nat) (xs : List Int) (w : World) (hk : k ≤ 1000000) (hn : 1 ≤ xs.length) (hn' : xs.length ≤ 1000000) (h : Str w s k) (hs : b ≠ s) (hb : Blk w b t (xs.map (Value.int .i64)).toArray) :
    Calls Tryz.prog 37 #[.pointer (some ⟨s, 0, none⟩), .slice (some ⟨b, 0, none⟩) xs.length cap] w fun e w' =>
      ∃ v : Nat, v < xs.length ∧ e = .returned (.int .i64 (xs.getD v 0)) ∧ Str w' s (k + 1) ∧ ExtS s w w' :=
  pick_any s k b 0 cap xs w hk hn hn' h hb.lt hs fun i hi => by rw [hb.cell]; simp [hi]
end Go.Proofs.YtboplnogfjmpnaaGreatDoor
