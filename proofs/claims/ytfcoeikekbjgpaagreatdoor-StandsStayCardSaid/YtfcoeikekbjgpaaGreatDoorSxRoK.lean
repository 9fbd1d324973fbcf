/- People on a stage by their sections: the program's walk. Conditions: people, the stage and the order are right. -/
import Derived.Test.YtfcoeikekbjgpaaGreatDoorSxRoE
import Derived.Test.YtfcoeikekbjgpaaGreatDoorSxRoH
import Derived.Test.YtfcoeikekbjgpaaGreatDoorSxJ44
set_option linter.unusedSimpArgs false
set_option linter.unusedVariables false
namespace Go.Proofs.YtfcoeikekbjgpaaGreatDoor
open Go Go.RowKit

/-- The lists of those who are left, in memory. -/
structure SecM (w7 w : World) (og : Nat) (G : List (List PersonV)) (vs : List Value) : Prop where
  blk : Blk w og 26 vs.toArray
  len : vs.length = G.length
  at_ : ∀ (i : Nat) (g : List PersonV), G[i]? = some g → ∃ (p : Option Addr) (c : Nat), vs[i]? = some (.slice p g.length c) ∧ Slc 3 perC w7 p g.length c g ∧ ∀ a, p = some a → a.block ≠ og
  ext : ExtS og w7 w
theorem SecM.cell {w7 w : World} {og : Nat} {G : List (List PersonV)} {vs : List Value} (h : SecM w7 w og G vs) {i : Nat} {v : Value} (hv : vs[i]? = some v) : w.cell? ⟨og, i, none⟩ = some v := (h.blk.cell i).trans (by simpa using hv)
theorem SecM.more {w7 w w' : World} {og : Nat} {G : List (List PersonV)} {vs : List Value} (h : SecM w7 w og G vs) (he : Ext w w') : SecM w7 w' og G vs := ⟨h.blk.ext he, h.len, h.at_, h.ext.ext he⟩
theorem SecM.far {w7 w : World} {og : Nat} {G : List (List PersonV)} {vs : List Value} (h : SecM w7 w og G vs) {p : Addr} (hp : w7.heap.size ≤ p.block) (hne : p.block ≠ og) (u : Value) : SecM w7 (w.setCell p u) og G vs :=
  ⟨h.blk.far (fun e => hne e.symm) _, h.len, h.at_, h.ext.setCell (.inr hp) _⟩
theorem SecM.grown {w7 w w' : World} {og : Nat} {G : List (List PersonV)} {vs : List Value} (h : SecM w7 w og G vs) {r : Option Nat} (k : w.grownBy w' r) (hr : ∀ j, r = some j → w7.heap.size ≤ j ∧ j ≠ og) : SecM w7 w' og G vs :=
  ⟨(k.block og h.blk.lt fun e => (hr og e.symm).2 rfl).trans h.blk, h.len, h.at_, ⟨k.os.trans h.ext.1, k.tape.trans h.ext.2.1, k.output.trans h.ext.2.2.1, Nat.le_trans h.ext.2.2.2.1 k.size, fun i hi hn => (k.block i (Nat.lt_of_lt_of_le hi h.ext.2.2.2.1) fun e => by have := (hr i e.symm).1; omega).trans (h.ext.2.2.2.2 i hi hn)⟩⟩
theorem SecM.put {w7 w : World} {og : Nat} {G : List (List PersonV)} {vs : List Value} (h : SecM w7 w og G vs) {i : Nat} {g g' : List PersonV} (hg : G[i]? = some g) {p' : Option Addr} {c' : Nat} (hS : Slc 3 perC w7 p' g'.length c' g') (hp : ∀ a, p' = some a → a.block ≠ og) : SecM w7 (w.setCell ⟨og, i, none⟩ (.slice p' g'.length c')) og (G.set i g') (vs.set i (.slice p' g'.length c')) := by
  have hi := (List.getElem?_eq_some_iff.1 hg).1
  refine ⟨by simpa using h.blk.set_ i (.slice p' g'.length c'), by rw [List.length_set, List.length_set]; exact h.len, fun d q hq => ?_, h.ext.setCell (p := ⟨og, i, none⟩) (.inl rfl) _⟩
  rw [List.getElem?_set] at hq
  by_cases hd : i = d
  · subst hd
    rw [if_pos rfl, if_pos hi] at hq
    cases hq
    exact ⟨p', c', by rw [List.getElem?_set, if_pos rfl, if_pos (by rw [h.len]; exact hi)], hS, hp⟩
  · rw [if_neg hd] at hq
    obtain ⟨p, c, h1, h2, h3⟩ := h.at_ d q hq
    exact ⟨p, c, by rw [List.getElem?_set, if_neg hd]; exact h1, h2, h3⟩
section
variable {w : World} {pp : Option Addr} {pc : Nat} {P : List PersonV} {wp : Option Addr} {wcap : Nat} {wide : List Int} {hp : Option Addr} {hc : Nat} {high : List Int} {op : Option Addr} {oc : Nat} {O : List ByteArray}
end
end Go.Proofs.YtfcoeikekbjgpaaGreatDoor
