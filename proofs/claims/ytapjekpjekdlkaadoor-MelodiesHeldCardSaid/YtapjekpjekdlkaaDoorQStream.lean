/- The stream of numbers: each function answers within its range, and changes the stream alone. Conditions: as each theorem says. -/
import Derived.Test.YtapjekpjekdlkaaDoorQJ2
import Derived.Deep.Light
set_option linter.unusedSimpArgs false
set_option linter.unusedVariables false
namespace Go.Proofs.YtapjekpjekdlkaaDoor
open Go Go.RowKit

/-- All that was there stands but block s. -/
def ExtS (s : Nat) (w w' : World) : Prop := w'.os = w.os ∧ w'.tape = w.tape ∧ w'.output = w.output ∧ w.heap.size ≤ w'.heap.size ∧ ∀ k, k < w.heap.size → k ≠ s → w'.heap[k]? = w.heap[k]?
theorem ExtS.refl (s : Nat) (w : World) : ExtS s w w := ⟨rfl, rfl, rfl, Nat.le_refl _, fun _ _ _ => rfl⟩
theorem ExtS.trans {s : Nat} {a b c : World} (h : ExtS s a b) (k : ExtS s b c) : ExtS s a c :=
  ⟨k.1.trans h.1, k.2.1.trans h.2.1, k.2.2.1.trans h.2.2.1, Nat.le_trans h.2.2.2.1 k.2.2.2.1, fun i hi hn => (k.2.2.2.2 i (Nat.lt_of_lt_of_le hi h.2.2.2.1) hn).trans (h.2.2.2.2 i hi hn)⟩
theorem Ext.extS {s : Nat} {a b : World} (h : Ext a b) : ExtS s a b := ⟨h.os, h.tape, h.output, h.size, fun k hk _ => h.block k hk⟩
theorem ExtS.ext {s : Nat} {a b c : World} (h : ExtS s a b) (k : Ext b c) : ExtS s a c := h.trans k.extS
theorem ExtS.drew {s : Nat} {a b : World} (h : ExtS s a b) : ExtS s a b.drew := h.ext (Ext.drew (Ext.refl _))
theorem ExtS.alloc {s : Nat} {a b : World} (h : ExtS s a b) (o : Obj) : ExtS s a (b.alloc o) := h.ext (Ext.alloc (Ext.refl _) _)
theorem ExtS.setCell {s : Nat} {a b : World} (h : ExtS s a b) {p : Addr} (hp : p.block = s ∨ a.heap.size ≤ p.block) (u : Value) : ExtS s a (b.setCell p u) := by
  refine ⟨h.1, h.2.1, h.2.2.1, by simpa using h.2.2.2.1, fun k hk hn => ?_⟩
  rw [Below.heap_setCell b p u k (by omega)]
  exact h.2.2.2.2 k hk hn
theorem ExtS.back {s : Nat} {a b c : World} (h : Ext a b) (hs : a.heap.size ≤ s) (k : ExtS s b c) : Ext a c :=
  ⟨k.1.trans h.os, k.2.1.trans h.tape, k.2.2.1.trans h.output, Nat.le_trans h.size k.2.2.2.1, fun i hi => (k.2.2.2.2 i (Nat.lt_of_lt_of_le hi h.size) (by omega)).trans (h.block i hi)⟩
theorem Blk.extS {s : Nat} {w w' : World} {g : Nat} {t : TypeId} {cs : Array Value} (h : Blk w g t cs) (hs : g ≠ s) (he : ExtS s w w') : Blk w' g t cs := (he.2.2.2.2 g h.lt hs).trans h
theorem ExtS.cell {s : Nat} {w w' : World} (he : ExtS s w w') {b : Nat} (hb : b < w.heap.size) (hs : b ≠ s) (o : Nat) : w'.cell? ⟨b, o, none⟩ = w.cell? ⟨b, o, none⟩ := World.cell?_of_block (w := w) (he.2.2.2.2 b hb hs)

/-- The list behind a stream. -/
def Lst (w : World) (s : Nat) (p : Option Addr) (n : Nat) : Prop :=
  n ≤ 9223372036854775807 ∧ (n ≠ 0 → ∃ B off, p = some ⟨B, off, none⟩ ∧ B < s ∧ ∀ i, i < n → ∃ x : Int, w.cell? ⟨B, off + i, none⟩ = some (.int .i64 x) ∧ -9223372036854775808 ≤ x ∧ x ≤ 9223372036854775807)
/-- A stream that has handed out k numbers at most. -/
def Str (w : World) (s : Nat) (k : Nat) : Prop :=
  ∃ (p : Option Addr) (n c a : Nat), a ≤ k ∧ Blk w s 25 #[.slice p n c, .int .i64 a] ∧ Lst w s p n
theorem Lst.low {s : Nat} {w w' : World} {p : Option Addr} {n : Nat} (h : Lst w s p n) (he : ∀ j, j < s → w'.heap[j]? = w.heap[j]?) : Lst w' s p n := by
  refine ⟨h.1, fun hn => ?_⟩
  obtain ⟨B, off, hp, hB, hc⟩ := h.2 hn
  refine ⟨B, off, hp, hB, fun i hi => ?_⟩
  obtain ⟨x, hx, hr⟩ := hc i hi
  exact ⟨x, (World.cell?_of_block (w := w) (a := ⟨B, off + i, none⟩) (he B hB)).trans hx, hr⟩
theorem Str.lt {w : World} {s k : Nat} (h : Str w s k) : s < w.heap.size := by
  obtain ⟨p, n, c, a, ha, hb, hl⟩ := h
  exact hb.lt
theorem Str.low {w w' : World} {s k : Nat} (h : Str w s k) (he : ∀ j, j ≤ s → w'.heap[j]? = w.heap[j]?) : Str w' s k := by
  obtain ⟨p, n, c, a, ha, hb, hl⟩ := h
  exact ⟨p, n, c, a, ha, (he s (Nat.le_refl _)).trans hb, hl.low fun j hj => he j (Nat.le_of_lt hj)⟩
theorem Str.ext {w w' : World} {s k : Nat} (h : Str w s k) (he : Ext w w') : Str w' s k := h.low fun j hj => he.block j (Nat.lt_of_le_of_lt hj h.lt)
theorem Str.set {w : World} {s k : Nat} (h : Str w s k) {p : Addr} (hp : s < p.block) (u : Value) : Str (w.setCell p u) s k := h.low fun j hj => Below.heap_setCell w p u j (by omega)
theorem Str.more {w : World} {s k k' : Nat} (h : Str w s k) (hk : k ≤ k') : Str w s k' := by
  obtain ⟨p, n, c, a, ha, hb, hl⟩ := h
  exact ⟨p, n, c, a, by omega, hb, hl⟩

def belF (x n : Int) : Int := if x.tmod n < 0 then x.tmod n + n else x.tmod n
theorem belF_range (x n : Int) (h : 1 ≤ n) : 0 ≤ belF x n ∧ belF x n < n := by
  have h1 := Int.tmod_lt_of_pos x (show 0 < n by omega)
  have h2 := Int.lt_tmod_of_pos x (show 0 < n by omega)
  unfold belF
  split <;> omega

set_option maxRecDepth 100000 in
theorem below_any (x n : Int) (w : World) (h0 : -9223372036854775808 ≤ x) (h1 : x ≤ 9223372036854775807) (hn : 1 ≤ n) (hn' : n ≤ 9223372036854775807) :
    Calls Tryd.prog 31 #[.int .i64 x, .int .i64 n] w fun e w' => e = .returned (.int .i64 (belF x n)) ∧ w = w' := by
  have k1 := Int.tmod_lt_of_pos x (show 0 < n by omega)
  have k2 := Int.lt_tmod_of_pos x (show 0 < n by omega)
  have hF : (x.tmod n < 0 ∧ belF x n = x.tmod n + n) ∨ (0 ≤ x.tmod n ∧ belF x n = x.tmod n) := by unfold belF; split <;> omega
  have hz : ¬ n = 0 := by omega
  rcases hF with ⟨hs, hv⟩ | ⟨hs, hv⟩
  all_goals
    rw [hv]
    clear hv
    go_enter Tryd.func31, Tryd.ntmps31
    go_wp2
    go_ret
    exact ⟨ret_int (by simp <;> omega), rfl⟩

end Go.Proofs.YtapjekpjekdlkaaDoor
