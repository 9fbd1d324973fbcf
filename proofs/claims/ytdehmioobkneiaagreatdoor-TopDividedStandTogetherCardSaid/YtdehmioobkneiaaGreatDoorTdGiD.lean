/- A singer is given a part, by way of others perhaps: the search in memory. Conditions: the choir and the giver lie in memory. -/
import Derived.Test.YtdehmioobkneiaaGreatDoorTdJ21
import Derived.Test.YtdehmioobkneiaaGreatDoorTdJ6
set_option linter.unusedSimpArgs false
set_option linter.unusedVariables false
namespace Go.Proofs.YtdehmioobkneiaaGreatDoor
open Go Go.RowKit
theorem intInfo : (Tryz.prog.info? 3).map (fun i => (i.zero, i.size, i.bytes)) = some (some (.int .i64 0), 1, 8) := by kernel_rfl
theorem intsInfo : (Tryz.prog.info? 22).map (fun i => (i.zero, i.size, i.bytes)) = some (some (.slice none 0 0), 1, 24) := by kernel_rfl
/-- A choir in memory. -/
structure ChoirM (w : World) (cb : Nat) (P : List PartV) (pp : Option Addr) (pc : Nat) (C : List (List Int)) (sp : Option Addr) (sc : Nat) (cp : Option Addr) (cc : Nat) : Prop where
  blk : Blk w cb 84 #[.slice pp P.length pc, .slice sp C.length sc, .slice cp C.length cc]
  par : Slc 5 partC w pp P.length pc P
  com : RowsR intC w cp C.length cc C
  nP : P.length ≤ 12
  nC : C.length ≤ 200
  row : ∀ r ∈ C, r.length = P.length
  need : ∀ x ∈ P, 0 ≤ x.least ∧ x.least ≤ 1000
theorem ChoirM.ext {w w' : World} {cb : Nat} {P : List PartV} {pp : Option Addr} {pc : Nat} {C : List (List Int)} {sp : Option Addr} {sc : Nat} {cp : Option Addr} {cc : Nat} (h : ChoirM w cb P pp pc C sp sc cp cc) (he : Ext w w') : ChoirM w' cb P pp pc C sp sc cp cc :=
  ⟨h.blk.ext he, h.par.ext he, h.com.ext he, h.nP, h.nC, h.row, h.need⟩
/-- A giver in memory. -/
structure GivM (w0 w : World) (cb gb og : Nat) (G : List (List Nat)) (vs : List Value) : Prop where
  low : w0.heap.size ≤ gb
  blk : Blk w gb 164 #[.pointer (some ⟨cb, 0, none⟩), .slice (some ⟨og, 0, none⟩) G.length G.length]
  out : OutI w0 w og G vs
theorem GivM.more {w0 w w' : World} {cb gb og : Nat} {G : List (List Nat)} {vs : List Value} (h : GivM w0 w cb gb og G vs) (he : Ext w w') : GivM w0 w' cb gb og G vs := ⟨h.low, h.blk.ext he, h.out.more he⟩
theorem GivM.aside {w0 w : World} {cb gb og : Nat} {G : List (List Nat)} {vs : List Value} (h : GivM w0 w cb gb og G vs) {g t : Nat} {cs : Array Value} (hB : Blk w g t cs) (ht : t ≠ 3) (ht2 : t ≠ 22) (ht3 : t ≠ 164) (hg : w0.heap.size ≤ g) (i : Nat) (u : Value) : GivM w0 (w.setCell ⟨g, i, none⟩ u) cb gb og G vs := by
  have hne : gb ≠ g := fun e => by
    subst e
    have h1 := h.blk
    unfold Blk at h1 hB
    rw [h1] at hB
    simp at hB
    exact ht3 hB.2.symm
  exact ⟨h.low, h.blk.far (p := ⟨g, i, none⟩) hne _, h.out.aside hB ht ht2 hg i u⟩
theorem blk_ne {w : World} {a b t u : Nat} {cs ds : Array Value} (h : Blk w a t cs) (k : Blk w b u ds) (hne : t ≠ u) : a ≠ b := fun e => by
  subst e
  unfold Blk at h k
  rw [h] at k
  simp at k
  exact hne k.2
theorem GivM.put {w0 w : World} {cb gb og : Nat} {G : List (List Nat)} {vs : List Value} (h : GivM w0 w cb gb og G vs) {p : Nat} {r : List Nat} {g c : Nat} (hr : G[p]? = some r) (hv : vs[p]? = some (.slice (some ⟨g, 0, none⟩) r.length c)) {k x : Nat} (hk : r[k]? = some x) (y : Nat) :
    GivM w0 (w.setCell ⟨g, k, none⟩ (.int .i64 (y : Int))) cb gb og (G.set p (r.set k y)) vs := by
  have ho := h.out.own p _ r hv hr
  refine ⟨h.low, ?_, h.out.put hr hv hk y⟩
  rw [List.length_set]
  exact h.blk.far (p := ⟨g, k, none⟩) (fun e => own_no ho h.blk (by decide) (by rw [e]; rfl)) _
theorem GivM.app {w0 w : World} {cb gb og : Nat} {G : List (List Nat)} {vs : List Value} (h : GivM w0 w cb gb og G vs) {p : Nat} {r : List Nat} {q : Option Addr} {c : Nat} (hr : G[p]? = some r) (hv : vs[p]? = some (.slice q r.length c)) {w' : World} {b' c' : Nat} {s : Nat}
    (h1 : w'.ownsRow (og + 1) 3 1 (.slice (some ⟨b', 0, none⟩) (r.length + 1) c') (r.length + 1) (r.flatMap natC ++ natC s)) (hg : w.grownBy w' (Value.slice q r.length c).ownBlock) (hb : w.heap.size ≤ b' ∨ q = some ⟨b', 0, none⟩) :
    GivM w0 (w'.setCell ⟨og, p, none⟩ (.slice (some ⟨b', 0, none⟩) (r.length + 1) c')) cb gb og (G.set p (r ++ [s])) (vs.set p (.slice (some ⟨b', 0, none⟩) (r.length + 1) c')) := by
  have ho := h.out.own p _ r hv hr
  have hB : Blk w' gb 164 _ := (hg.block gb h.blk.lt fun e => own_no ho h.blk (by decide) e.symm).trans h.blk
  have hB2 : Blk w' og 22 _ := (hg.block og h.out.blk.lt fun e => own_no ho h.out.blk (by decide) e.symm).trans h.out.blk
  refine ⟨h.low, ?_, h.out.app hr hv h1 hg hb⟩
  rw [List.length_set]
  exact hB.far (p := ⟨og, p, none⟩) (blk_ne hB hB2 (by decide)) _
end Go.Proofs.YtdehmioobkneiaaGreatDoor
