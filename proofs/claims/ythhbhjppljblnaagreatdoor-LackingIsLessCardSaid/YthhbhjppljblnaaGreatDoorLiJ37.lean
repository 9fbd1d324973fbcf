/- How many singers are lacking, and which parts are short, by the program. Conditions: sizes; at most three parts. Plain mathematics: the least set of parts that lacks as many, by both texts. Conditions: sets below 8. -/
import Derived.Test.YthhbhjppljblnaaGreatDoorLiGiI
set_option linter.unusedSimpArgs false
set_option linter.unusedVariables false
namespace Go.Proofs.YthhbhjppljblnaaGreatDoor
open Go Go.RowKit

/-- What is wrong with a question for a moment. -/
def errL (V : List VoiceV) (P : List PartV) (t : Int) : Int := if bothF V P = 0 then (if momB t then 0 else 1) else bothF V P
theorem errL_zero {V : List VoiceV} {P : List PartV} {t : Int} : errL V P t = 0 ↔ voicesF V = 0 ∧ partsF P = 0 ∧ momB t = true := by
  unfold errL bothF
  by_cases h1 : voicesF V = 0
  · rw [if_pos h1]
    by_cases h2 : partsF P = 0
    · rw [if_pos h2]
      cases momB t <;> simp [h1, h2]
    · rw [if_neg h2]
      exact ⟨fun e => absurd e h2, fun e => absurd e.2.1 h2⟩
  · rw [if_neg h1, if_neg h1]
    exact ⟨fun e => absurd e h1, fun e => absurd e.1 h1⟩
theorem parts_need {P : List PartV} (h : partsF P = 0) : P.length ≤ 12 ∧ ∀ x ∈ P, 0 ≤ x.least ∧ x.least ≤ 1000 := by
  obtain ⟨h1, h2⟩ := partsF_right h
  refine ⟨h1, fun x hx => ?_⟩
  have h3 := (h2 x hx).2
  unfold rightP at h3
  simp only [Bool.and_eq_true] at h3
  have h4 := inB_iff.1 h3.1.2
  have h5 := of_decide_eq_true h3.2
  omega
/-- How many singers are lacking at a moment. -/
def lackV (V : List VoiceV) (P : List PartV) (t : Int) : Int := lackF (canC (comL V t P)) (lstP P) P.length (comL V t P).length
section
variable {w : World} {vp pp : Option Addr} {vc pc : Nat} {V : List VoiceV} {P : List PartV}
theorem mom_call (t : Int) : ∀ u g ty cap, Blk u g ty #[.int .i64 t] → Calls Tryz.prog 65 #[.slice (some ⟨g, 0, none⟩) 1 cap] u fun e w' => e = .returned (.int .i64 (if momB t then 0 else 1)) ∧ Ext u w' := fun u g ty cap hB => momentFault1_any t g ty cap u hB
set_option maxRecDepth 100000 in
set_option maxHeartbeats 1600000 in
theorem lacking_good (h : VpM w vp vc V pp pc P) (t : Int) (hz : errL V P t = 0) :
    Calls Tryz.prog 23 #[.slice vp V.length vc, .slice pp P.length pc, .int .i64 t] w fun e w' => e = .returned (.tuple #[.int .i64 (lackV V P t), .int .i64 0]) ∧ Ext w w' := by
  obtain ⟨z1, z2, z3⟩ := errL_zero.1 hz
  obtain ⟨hP, hN⟩ := parts_need z2
  have hb0 : bothF V P = 0 := by unfold bothF; rw [if_pos z1, z2]
  have hbo : Calls Tryz.prog 64 #[.slice vp V.length vc, .slice pp P.length pc] w fun e w' => e = .returned (.int .i64 (bothF V P)) ∧ Ext w w' := bothFault_any h
  have hmo := mom_call t
  have hch := fun u (hu : Ext w u) => choirOf_any (h.more hu) t hP hN
  rw [hb0] at hbo
  rw [z3] at hmo
  have hlv : lackV V P t = lackF (canC (comL V t P)) (lstP P) P.length (comL V t P).length := rfl
  generalize hlw : lackV V P t = lv at *
  replace hlw := Lib.hid hlw
  replace hlv := Lib.hid hlv
  replace hmo := Lib.hid hmo
  replace hbo := Lib.hid hbo
  replace hch := Lib.hid hch
  replace hN := Lib.hid hN
  clear h z1 z2 z3 hb0 hz
  go_enter Tryz.func23, Tryz.ntmps23
  go_wp2_with (first
    | (go_at_call 64; (with_reducible refine Calls.mono hbo.out ?_); rintro e w1 ⟨rfl, hb1⟩)
    | (go_at_call 65; (with_reducible refine Calls.mono (hmo.out _ _ _ _ (by exact Blk.new' rfl)) ?_); rintro e w2 ⟨rfl, hb2⟩; simp only [if_true]; have hE2 := (hb1.alloc _).trans hb2)
    | (go_at_call 66; (with_reducible refine Calls.mono (hch.out _ hE2) ?_); rintro e w3 ⟨cb, sp, sc, cp, cc, rfl, hC, hb3⟩; have hE3 := hE2.trans hb3; replace hC := Lib.hid hC)
    | (go_at_call 67; (with_reducible refine Calls.mono (lacking_any hC.out) ?_); rintro e w4 ⟨rfl, hb4⟩; rw [← hlv.out]; have hE4 := hE3.trans hb4))
  go_ret2
  exact ⟨rfl, hE4⟩
end
end Go.Proofs.YthhbhjppljblnaaGreatDoor

namespace Go.Proofs.YthhbhjppljblnaaGreatDoor

/-- Whether a set comes ahead of another one, as the program and as the document says. -/
def betB (s b : Nat) : Bool := decide ((numL s).length < (numL b).length) || (decide ((numL s).length = (numL b).length) && decide (lexN (numL s) (numL b) ≤ 0))
/-- The least set with a property among those ahead of k (none: 0). -/
def bestF (h : Nat → Bool) : Nat → Nat
  | 0 => 0
  | k + 1 => if k ≠ 0 ∧ h k = true ∧ (bestF h k = 0 ∨ betB k (bestF h k) = true) then k else bestF h k
theorem bestF_lt (h : Nat → Bool) : ∀ k, 0 < k → bestF h k < k
  | 0, hk => absurd hk (Nat.lt_irrefl 0)
  | k + 1, _ => by
    simp only [bestF]
    split
    · omega
    · rcases Nat.eq_zero_or_pos k with rfl | h0
      · simp [bestF]
      · have := bestF_lt h k h0; omega
theorem bestF_one (h : Nat → Bool) : bestF h 1 = 0 := by simp [bestF]
theorem bestF_ne {h : Nat → Bool} : ∀ {k : Nat}, (∃ j, j < k ∧ j ≠ 0 ∧ h j = true) → bestF h k ≠ 0
  | 0, ⟨j, hj, _⟩ => absurd hj (Nat.not_lt_zero j)
  | k + 1, ⟨j, hj, h0, h1⟩ => by
    simp only [bestF]
    split
    · rename_i hc; exact hc.1
    · rename_i hc
      rcases Nat.lt_or_ge j k with hlt | hge
      · exact bestF_ne ⟨j, hlt, h0, h1⟩
      · obtain rfl : j = k := by omega
        intro e
        exact hc ⟨h0, h1, .inl e⟩
/-- The parts of a number, by their names. -/
def namesF (P : List PartV) (set : Nat) : List ByteArray := (numL set).map fun i => (P.getD i default).name
section
variable (can : Nat → Nat → Bool) (lst : Nat → Nat) (n m : Nat)
def hitF (set : Nat) : Bool := needF can lst n m (bitX set) == lackF can lst n m
/-- The least set that lacks as many as are lacking. -/
def shortF : Nat := bestF (hitF can lst n m) (2 ^ n)
end
theorem need_none (can : Nat → Nat → Bool) (lst : Nat → Nat) (n m : Nat) : needF can lst n m (bitX 0) = 0 := by
  have h0 : ∀ p, bitX 0 p = false := fun p => by unfold bitX; simp
  have h1 : ∀ k, needN lst (bitX 0) k = 0 := by
    intro k
    induction k with
    | zero => rfl
    | succ k ih => simp [needN, ih, h0]
  have h2 : canN can n (bitX 0) m = 0 := by
    unfold canN
    have : ∀ s, touchB can n (bitX 0) s = false := fun s => by unfold touchB; simp [h0]
    simp [this]
  unfold needF
  rw [h1, h2]; rfl
theorem short_ne {can : Nat → Nat → Bool} {lst : Nat → Nat} {n m : Nat} (h : lackF can lst n m ≠ 0) : shortF can lst n m ≠ 0 := by
  unfold shortF
  refine bestF_ne ?_
  rcases maxF_hit (f := fun set => needF can lst n m (bitX set)) (2 ^ n) with h0 | ⟨j, hj, e⟩
  · exact absurd h0 h
  · have e : needF can lst n m (bitX j) = lackF can lst n m := e
    refine ⟨j, hj, fun hz => ?_, by unfold hitF; rw [e]; exact beq_self_eq_true _⟩
    subst hz
    rw [need_none] at e
    exact h e.symm
end Go.Proofs.YthhbhjppljblnaaGreatDoor
