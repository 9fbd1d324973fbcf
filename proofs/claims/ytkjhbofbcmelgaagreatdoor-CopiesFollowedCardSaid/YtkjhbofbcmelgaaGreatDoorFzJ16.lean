/- Slips in order; slips of two lists as one: plain. Conditions: as each theorem says. The text of slips, by both texts: what is written. Conditions: sizes. (Printed by gen_sle.py.) A line is read. Conditions: sizes. A text of slips is read, by copies. Conditions: sizes. -/
import Derived.Test.YtkjhbofbcmelgaaGreatDoorFzSlD
import Derived.Test.YtkjhbofbcmelgaaGreatDoorFzJ13
import Derived.Test.YtkjhbofbcmelgaaGreatDoorFzJ11
import Derived.Test.YtkjhbofbcmelgaaGreatDoorFzJ3
import Derived.Test.YtkjhbofbcmelgaaGreatDoorFzJ4
set_option linter.unusedSimpArgs false
set_option linter.unusedVariables false
namespace Go.Proofs.YtkjhbofbcmelgaaGreatDoor
open Go Go.RowKit Go.Sort
theorem bytesB {a b : ByteArray} : (a.toList == b.toList) = true ↔ a = b := by
 rw [ByteArray.toList_eq, ByteArray.toList_eq]
 constructor
 ·intro h
  have := eq_of_beq h
  cases a; cases b
  simp only at this
  congr 1
  exact Array.toList_inj.1 this
 ·rintro rfl
  exact beq_self_eq_true _
theorem scanZ {n : Nat} {f : Nat → Int} (h : scanF n f = 0) : Zeros f n := by
 have hz : ∀ k, k ≤ n → Zeros f k := by
  intro k
  induction k with
  | zero => intro _ j hj; omega
  | succ k ih =>
    intro hk
    have hz := ih (by omega)
    refine hz.succ ?_
    rcases (inferInstance : Decidable (f k = 0)) with hn | hy
    ·have := scan_at (n := n) k (by omega) hz hn
     rw [h] at this
     exact this.symm
    ·exact hy
 exact hz n (Nat.le_refl _)
instance : DecidableEq SlipV := fun a b =>
 if h : a.by_ = b.by_ ∧ a.no = b.no ∧ a.at_ = b.at_ ∧ a.kind = b.kind ∧ a.piece = b.piece ∧ a.copy = b.copy ∧ a.singer = b.singer then
  .isTrue (by cases a; cases b; simp only at h; obtain ⟨rfl, rfl, rfl, rfl, rfl, rfl, rfl⟩ := h; rfl)
 else .isFalse fun e => h (by subst e; exact ⟨rfl, rfl, rfl, rfl, rfl, rfl, rfl⟩)
def sliLt (a b : SlipV) : Prop := cmpS a.by_ b.by_ = -1 ∨ (a.by_ = b.by_ ∧ a.no < b.no)
theorem sliLt_iff (a b : SlipV) : sliO a b < 0 ↔ sliLt a b := by
 unfold sliO sliLt orF
 rcases cmpS_three a.by_ b.by_ with h | h | h
 ·rw [h]; simp
 ·have e := cmpS_zero h
  rw [h]
  simp only [e, cmpS_refl]
  unfold orF
  by_cases h1 : a.no < b.no
  ·have : cmpZ a.no b.no = -1 := by unfold cmpZ; rw [if_pos h1]
   rw [this]; simp [h1]
  ·have : 0 ≤ cmpZ a.no b.no := by have h' : ¬ cmpZ a.no b.no < 0 := fun h' => h1 (cmpZ_lt.1 h'); omega
   simp only [if_pos]
   by_cases h2 : cmpZ a.no b.no = 0
   ·rw [h2]; simp [h1, orF]
   ·simp [h2, h1]; omega
 ·have hne : a.by_ ≠ b.by_ := fun e => by rw [e, cmpS_refl] at h; cases h
  rw [h]; simp [hne]
theorem sliLt_trans {a b c : SlipV} (h : sliLt a b) (k : sliLt b c) : sliLt a c := by
 rcases h with h | ⟨h, h'⟩ <;> rcases k with k | ⟨k, k'⟩
 ·exact .inl (cmpS_trans h k)
 ·exact .inl (k ▸ h)
 ·exact .inl (h ▸ k)
 ·exact .inr ⟨h.trans k, by omega⟩
theorem sliLt_asym {a b : SlipV} (h : sliLt a b) (k : sliLt b a) : False := by
 rcases sliLt_trans h k with e | ⟨_, e⟩
 ·rw [cmpS_refl] at e; cases e
 ·omega
theorem sliLt_tri (a b : SlipV) : sliLt a b ∨ sliLt b a ∨ (a.by_ = b.by_ ∧ a.no = b.no) := by
 rcases cmpS_three a.by_ b.by_ with h | h | h
 ·exact .inl (.inl h)
 ·have e := cmpS_zero h
  rcases Int.lt_trichotomy a.no b.no with h1 | h1 | h1
  ·exact .inl (.inr ⟨e, h1⟩)
  ·exact .inr (.inr ⟨e, h1⟩)
  ·exact .inr (.inl (.inr ⟨e.symm, h1⟩))
 ·exact .inr (.inl (.inl (cmpS_anti h)))
def LateOk (x y : SlipV) : Prop := x.by_ = y.by_ → x.at_ ≤ y.at_
/-- Right slips. -/
structure RightS (V : List SlipV) : Prop where
 len : V.length ≤ 3000
 one : ∀ x ∈ V, slipE x = 0
 rise : V.Pairwise sliLt
 late : V.Pairwise LateOk
theorem pw_of_next {α : Type} {r : α → α → Prop} (ht : ∀ a b c, r a b → r b c → r a c) {V : List α} (h : ∀ i x y, V[i]? = some x → V[i + 1]? = some y → r x y) : ∀ (d i : Nat) (x y : α), V[i]? = some x → V[i + 1 + d]? = some y → r x y
 | 0, i, x, y, hx, hy => h i x y hx hy
 | d + 1, i, x, y, hx, hy => by
   have hl := (List.getElem?_eq_some_iff.1 hy).1
   have hz : V[i + 1 + d]? = some V[i + 1 + d] := List.getElem?_eq_getElem (by omega)
   exact ht _ _ _ (pw_of_next ht h d i x _ hx hz) (h (i + 1 + d) _ y hz (by rw [← hy]; congr 1))
theorem pw_get {α : Type} {r : α → α → Prop} {V : List α} (h : ∀ (d i : Nat) (x y : α), V[i]? = some x → V[i + 1 + d]? = some y → r x y) : V.Pairwise r := by
 rw [List.pairwise_iff_getElem]
 intro i j hi hj hij
 obtain ⟨d, rfl⟩ : ∃ d, j = i + 1 + d := ⟨j - (i + 1), by omega⟩
 exact h d i _ _ (List.getElem?_eq_getElem hi) (List.getElem?_eq_getElem hj)
theorem slipsF_right {V : List SlipV} (h : slipsF V = 0) : RightS V := by
 obtain ⟨hl, ho⟩ := slipsF_good h
 unfold slipsF at h
 rw [if_neg (by omega)] at h
 have hs : scanF V.length (chkSli V) = 0 := by
  refine Classical.byContradiction fun hne => ?_
  rw [if_neg hne] at h; exact hne h
 rw [if_pos hs] at h
 have hc := scanZ hs
 have ht := scanZ h
 have hn : ∀ i x y, V[i]? = some x → V[i + 1]? = some y → sliLt x y := fun i x y hx hy => by
  have h0 := hc (i + 1) (List.getElem?_eq_some_iff.1 hy).1
  unfold chkSli at h0
  rw [atL_of hy, Nat.add_sub_cancel, atL_of hx, if_pos (ho y (List.mem_of_getElem? hy))] at h0
  refine (sliLt_iff x y).1 ?_
  refine Classical.byContradiction fun hge => ?_
  rw [if_pos (by simp; omega)] at h0
  cases h0
 have hl1 : ∀ i x y, V[i]? = some x → V[i + 1]? = some y → LateOk x y := fun i x y hx hy e => by
  have h0 := ht (i + 1) (List.getElem?_eq_some_iff.1 hy).1
  unfold lateS at h0
  rw [atL_of hy, Nat.add_sub_cancel, atL_of hx] at h0
  refine Classical.byContradiction fun hge => ?_
  rw [if_pos (by simp [e]; omega)] at h0
  cases h0
 have hp := pw_of_next (r := sliLt) (fun _ _ _ h k => sliLt_trans h k) hn
 refine ⟨hl, ho, pw_get hp, pw_get fun d => ?_⟩
 induction d with
 | zero => exact fun i x y hx hy => hl1 i x y hx hy
 | succ d ih =>
   intro i x y hx hy e
   have hl := (List.getElem?_eq_some_iff.1 hy).1
   have hz : V[i + 1 + d]? = some V[i + 1 + d] := List.getElem?_eq_getElem (by omega)
   generalize V[i + 1 + d] = z at hz
   have h1 := hp d i x z hx hz
   have hy' : V[i + 1 + d + 1]? = some y := by rw [← hy]; congr 1
   have h2 := hn (i + 1 + d) z y hz hy'
   have e1 : x.by_ = z.by_ := by
    rcases h1 with h1 | ⟨h1, _⟩
    ·rcases h2 with h2 | ⟨h2, _⟩
     ·have := cmpS_trans h1 h2
      rw [e, cmpS_refl] at this; cases this
     ·rw [h2, ← e, cmpS_refl] at h1; cases h1
    ·exact h1
   have a1 := ih i x z hx hz e1
   have a2 := hl1 (i + 1 + d) z y hz hy' (e1.symm.trans e)
   omega
/-! ### slips of two lists as one -/
end Go.Proofs.YtkjhbofbcmelgaaGreatDoor
namespace Go.Proofs.YtkjhbofbcmelgaaGreatDoor
open Go Go.RowKit
end Go.Proofs.YtkjhbofbcmelgaaGreatDoor
namespace Go.Proofs.YtkjhbofbcmelgaaGreatDoor
open Go Go.RowKit
theorem results_rowT {P : Program} {fn : Func} {p q : Tmp} {ty : TypeId} (h : fn.results = #[.cell p ty, .tmp q]) (tmps : Array Value) (w : World) (g : Nat) (t : TypeId) (cs : Array Value) (fr : Nat × Nat) (d : TypeDesc)
 (hp : tmps.getD p undef = .pointer (some ⟨g, 0, none⟩)) (hg : w.heap[g]? = some (.cells cs t fr))
 (hu : P.underlying ty = some d) (hd : (match d with | .struct _ | .array _ _ => true | _ => false) = true) (hi : (P.info? ty).map (·.size) = some cs.size) (v : Value) (hq : tmps.getD q undef = v) :
 (results fn tmps).run P w = .ok (.tuple #[.agg cs, v]) w := by
 have hp' : tmps[p]?.getD undef = .pointer (some ⟨g, 0, none⟩) := by simpa using hp
 have hq' : tmps[q]?.getD undef = v := by simpa using hq
 simp [results, h, hp', hq', asAddr, run_loadVar_row w g t ty cs fr d hg hu hd hi]
end Go.Proofs.YtkjhbofbcmelgaaGreatDoor
namespace Go.Proofs.YtkjhbofbcmelgaaGreatDoor
open Go Go.RowKit
theorem sliInfo : (Tryz.prog.info? 101).map (fun i => (i.zero, i.size, i.bytes)) = some (some (.agg #[.string ⟨#[]⟩, .int .i64 0, .int .i64 0, .int .i64 0, .string ⟨#[]⟩, .int .i64 0, .string ⟨#[]⟩]), 7,80) := by kernel_rfl
end Go.Proofs.YtkjhbofbcmelgaaGreatDoor
