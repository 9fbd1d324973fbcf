/- A cell of an own row changes; two merges of the same slips are the same. Conditions: as each theorem says. -/
import Derived.Test.YtehboinleolihaaGreatDoorZkSkA
import Derived.Test.YtehboinleolihaaGreatDoorZkJ22
set_option linter.unusedSimpArgs false
set_option linter.unusedVariables false
namespace Go.Proofs.YtehboinleolihaaGreatDoor
open Go Go.RowKit
theorem own_setAt {w : World} {base k n g c : Nat} {e : TypeId} {xs : List Value} (h : w.ownsRow base e k (.slice (some ⟨g, 0, none⟩) n c) n xs) (i : Nat) (u : Value) : (w.setCell ⟨g, i, none⟩ u).ownsRow base e k (.slice (some ⟨g, 0, none⟩) n c) n (xs.set i u) := by
 obtain ⟨hl, h⟩ := h
 refine ⟨by rw [List.length_set]; exact hl, ?_⟩
 rcases h with ⟨e, -⟩ | ⟨g', cap, cur, e, hb, hg, h1, h2, h3, h4⟩
 ·cases e
 ·cases e
  have hB : Blk w g e (cur) := hg
  refine .inr ⟨g, c, cur.setIfInBounds i u, rfl, hb, hB.set_ i u, h1, h2, by simpa using h3, ?_⟩
  rw [← h4, Array.toList_setIfInBounds, List.take_set]
theorem own_walk {w : World} {base k n g c : Nat} {e : TypeId} {xs : List Value} (h : w.ownsRow base e k (.slice (some ⟨g, 0, none⟩) n c) n xs) : (∀ i, i < n * k → w.cell? ⟨g, i, none⟩ = xs[i]?) ∧ (∀ i, w.frozen? ⟨g, i, none⟩ = false) ∧ g < w.heap.size := by
 obtain ⟨hl, h⟩ := h
 rcases h with ⟨e, -⟩ | ⟨g', cap, cur, e, hb, hg, h1, h2, h3, h4⟩
 ·cases e
 ·cases e
  have hB : Blk w g e cur := hg
  refine ⟨fun i hi => ?_, hB.frozen, hB.lt⟩
  rw [hB.cell, ← h4, List.getElem?_take_of_lt hi, Array.getElem?_toList]
theorem Slc.setD {α : Type} {k : Nat} {enc : α → List Value} {w : World} {p : Option Addr} {n c : Nat} {xs : List α} (h : Slc k enc w p n c xs) {q : Addr} (hp : ∀ a, p = some a → a.block ≠ q.block) (u : Value) : Slc k enc (w.setCell q u) p n c xs := by
 obtain ⟨⟨h1, h2, h3⟩, h4, h5, h6⟩ := h
 refine ⟨⟨h1, h2, fun hn => ?_⟩, h4, h5, fun a ha => ?_⟩
 ·obtain ⟨b, off, e, hb, hE⟩ := h3 hn
  refine ⟨b, off, e, by simpa using hb, fun i x hx j v hv => ?_⟩
  exact (World.cell?_of_block (w := w) (a := ⟨b, off + i * k + j, none⟩) (Below.heap_setCell w q u b (hp _ e))).trans (hE i x hx j v hv)
 ·obtain ⟨b, off, e, hb⟩ := h6 a ha
  exact ⟨b, off, e, by simpa using hb⟩
theorem slip_set5 (x : SlipV) (r : List SlipV) (v : Int) : ((x :: r).flatMap slipC).set 5 (.int .i64 v) = ((⟨x.by_, x.no, x.at_, x.kind, x.piece, v, x.singer⟩ : SlipV) :: r).flatMap slipC := rfl
theorem mrgV_uniq {A B M M' : List SlipV} {f f' : Int} (h : MrgV A B M f) (h' : MrgV A B M' f') : M = M' ∧ f = f' := by
 unfold MrgV at h h'
 split at h
 ·rename_i hA
  rw [if_pos hA] at h'
  exact ⟨h.1.trans h'.1.symm, h.2.trans h'.2.symm⟩
 rename_i hA
 rw [if_neg hA] at h'
 split at h
 ·rename_i hB
  rw [if_pos hB] at h'
  exact ⟨h.1.trans h'.1.symm, h.2.trans h'.2.symm⟩
 rename_i hB
 rw [if_neg hB] at h'
 cases hm : mrgF [] (A ++ B) with
 | none =>
   rw [hm] at h h'
   exact ⟨h.1.trans h'.1.symm, h.2.trans h'.2.symm⟩
 | some o =>
   rw [hm] at h h'
   obtain ⟨S, h1, h2, h3⟩ := h
   obtain ⟨S', k1, k2, k3⟩ := h'
   obtain rfl : S = S' := same_of (fun _ _ => sliLt_asym) h2 k2 (h1.trans k1.symm)
   rcases h3 with ⟨a, b, c⟩ | ⟨a, b, c⟩ <;> rcases k3 with ⟨a', b', c'⟩ | ⟨a', b', c'⟩
   ·exact ⟨b.trans b'.symm, c.trans c'.symm⟩
   ·exact absurd a a'
   ·exact absurd a' a
   ·exact ⟨b.trans b'.symm, c.trans c'.symm⟩
theorem MrgR.row {A B : List SlipV} {w w' : World} {e : Ending} (h : MrgR A B w e w') (hl : A.length + B.length ≤ 1000) : ∃ (p : Option Addr) (c : Nat) (M : List SlipV) (f : Int), e = .returned (.tuple #[.slice p M.length c, .int .i64 f]) ∧ Slc 7 slipC w' p M.length c M ∧ MrgV A B M f ∧ M.length ≤ 1000 ∧ Ext w w' := by
 obtain ⟨v, M, f, rfl, ho, hv, hx⟩ := h
 have hM : M.length ≤ 1000 := by
  unfold MrgV at hv
  split at hv
  ·rw [hv.1]; simp
  split at hv
  ·rw [hv.1]; simp
  cases hm : mrgF [] (A ++ B) with
  | none => rw [hm] at hv; rw [hv.1]; simp
  | some o =>
    rw [hm] at hv
    obtain ⟨S, h1, h2, h3⟩ := hv
    obtain ⟨-, -, h5⟩ := mrg_mem _ _ _ hm List.Pairwise.nil
    have := h1.length_eq
    simp only [List.length_append, List.length_nil] at h5
    rcases h3 with ⟨-, rfl, -⟩ | ⟨-, rfl, -⟩
    ·omega
    ·simp
 obtain ⟨p, c, rfl, hS⟩ := slc_of_own slipC_len ho (by decide) (by omega)
 exact ⟨p, c, M, f, rfl, hS, hv, hM, hx⟩
end Go.Proofs.YtehboinleolihaaGreatDoor
