/- A stage that the stream makes. Conditions: sizes. -/
import Derived.Test.YtfcoeikekbjgpaaGreatDoorSxJ25
set_option linter.unusedSimpArgs false
set_option linter.unusedVariables false
namespace Go.Proofs.YtfcoeikekbjgpaaGreatDoor
open Go Go.RowKit

theorem Str.grown {s q : Nat} {b c : World} {r : Option Nat} (h : Str b s q) (hg : b.grownBy c r) (hr : ∀ g, r = some g → s < g) : Str c s q :=
  h.low fun j hj => hg.block j (Nat.lt_of_le_of_lt hj h.lt) fun e => by have := hr j e.symm; omega
theorem Blk.grownI {b c : World} {g : Nat} {t : TypeId} {cs : Array Value} {r : Option Nat} (h : Blk b g t cs) (hg : b.grownBy c r) (hr : ∀ q, r = some q → q ≠ g) : Blk c g t cs := (hg.block g h.lt fun e => hr g e.symm rfl).trans h
/-- A stage that is being made. -/
structure StgM (w0 w : World) (s k z : Nat) (pw : Option Addr) (cw : Nat) (ph : Option Addr) (ch n m : Nat) : Prop where
  ext : ExtS s w0 w
  str : Str w s k
  low : s < w0.heap.size
  zz : z = w0.heap.size + 1
  res : Blk w w0.heap.size 29 #[.slice none 0 0, .slice none 0 0]
  blk : Blk w z 29 #[.slice pw n cw, .slice ph m ch]
  wr : OwI w (z + 1) pw n cw
  hr : OwI w (z + 1) ph m ch
  far : ∀ a b, pw = some a → ph = some b → a.block ≠ b.block
theorem StgM.extS {w0 w w' : World} {s k k' z cw ch n m : Nat} {pw ph : Option Addr} (h : StgM w0 w s k z pw cw ph ch n m) (he : ExtS s w w') (hs : Str w' s k') : StgM w0 w' s k' z pw cw ph ch n m := by
  have h1 := h.low
  have h2 := h.zz
  exact ⟨h.ext.trans he, hs, h1, h2, h.res.extS (by omega) he, h.blk.extS (by omega) he, h.wr.extS (by omega) he, h.hr.extS (by omega) he, h.far⟩
theorem StgM.more {w0 w w' : World} {s k z cw ch n m : Nat} {pw ph : Option Addr} (h : StgM w0 w s k z pw cw ph ch n m) (he : Ext w w') : StgM w0 w' s k z pw cw ph ch n m := h.extS he.extS (h.str.ext he)

def StageP (s k : Nat) (w : World) (e : Ending) (w' : World) : Prop := ∃ (wp : Option Addr) (wc : Nat) (hp : Option Addr) (hc : Nat) (wide high : List Int), e = .returned (.agg #[.slice wp wide.length wc, .slice hp high.length hc]) ∧ wide.length ≤ 4 ∧ high.length ≤ 4 ∧ SmallL wide ∧ SmallL high ∧ Slc 1 intC w' wp wide.length wc wide ∧ Slc 1 intC w' hp high.length hc high ∧ (∀ a, wp = some a → w.heap.size ≤ a.block) ∧ (∀ a, hp = some a → w.heap.size ≤ a.block) ∧ Str w' s (k + 40) ∧ ExtS s w w'
theorem StgM.post {w w' : World} {s k k' cw ch n m : Nat} {pw ph : Option Addr} (h : StgM w w' s k' (w.heap.size + 1) pw cw ph ch n m) (hn : n ≤ 4) (hm : m ≤ 4) (hk : k' ≤ k + 40) :
    StageP s k w (.returned (.agg #[.slice pw n cw, .slice ph m ch])) ((w'.setCell ⟨w.heap.size, 0, none⟩ (.slice pw n cw)).setCell ⟨w.heap.size, 1, none⟩ (.slice ph m ch)) ∧ Blk ((w'.setCell ⟨w.heap.size, 0, none⟩ (.slice pw n cw)).setCell ⟨w.heap.size, 1, none⟩ (.slice ph m ch)) w.heap.size 29 #[.slice pw n cw, .slice ph m ch] := by
  have hw1 := (h.wr.far (q := ⟨w.heap.size, 0, none⟩) (fun a ha => by have := (h.wr.lt ha).1; simp only; omega) (.slice pw n cw))
  have hw2 := (hw1.far (q := ⟨w.heap.size, 1, none⟩) (fun a ha => by have := (h.wr.lt ha).1; simp only; omega) (.slice ph m ch))
  have hh1 := (h.hr.far (q := ⟨w.heap.size, 0, none⟩) (fun a ha => by have := (h.hr.lt ha).1; simp only; omega) (.slice pw n cw))
  have hh2 := (hh1.far (q := ⟨w.heap.size, 1, none⟩) (fun a ha => by have := (h.hr.lt ha).1; simp only; omega) (.slice ph m ch))
  obtain ⟨wide, l1, s1, S1⟩ := hw2.slc (by omega)
  obtain ⟨high, l2, s2, S2⟩ := hh2.slc (by omega)
  have hl := h.low
  subst l1; subst l2
  exact ⟨⟨pw, cw, ph, ch, wide, high, rfl, hn, hm, s1, s2, S1, S2, (fun a ha => by have := (h.wr.lt ha).1; omega), (fun a ha => by have := (h.hr.lt ha).1; omega), ((h.str.set (p := ⟨w.heap.size, 0, none⟩) hl _).set (p := ⟨w.heap.size, 1, none⟩) hl _).more hk, (h.ext.setCell (p := ⟨w.heap.size, 0, none⟩) (.inr (Nat.le_refl _)) _).setCell (p := ⟨w.heap.size, 1, none⟩) (.inr (Nat.le_refl _)) _⟩, ((h.res.set_ 0 _).set_ 1 _).cast (by simp)⟩

end Go.Proofs.YtfcoeikekbjgpaaGreatDoor
