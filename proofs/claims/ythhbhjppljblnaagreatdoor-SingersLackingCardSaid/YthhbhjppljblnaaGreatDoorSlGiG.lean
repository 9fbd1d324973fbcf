/- Sets of parts as numbers: their members, in order; how many singers they lack, by the program. Conditions: sizes. -/
import Derived.Test.YthhbhjppljblnaaGreatDoorSlGiF
set_option linter.unusedSimpArgs false
set_option linter.unusedVariables false
namespace Go.Proofs.YthhbhjppljblnaaGreatDoor
open Go Go.RowKit

def numL (set : Nat) : List Nat := (List.range 12).filter (bitX set)
theorem bit_div (set p : Nat) : bitX set p = decide (set / 2 ^ p % 2 = 1) := by
  unfold bitX
  rw [Nat.testBit_eq_decide_div_mod_eq]
theorem i64_and1 (n : Int) : bits .and .i64 n 1 = n % 2 := by
  have h1 : (BitVec.ofInt 64 1).toNat = 2 ^ 1 - 1 := by decide
  have key : (BitVec.ofInt 64 n &&& BitVec.ofInt 64 1).toNat = (n % ((2 ^ 64 : Nat) : Int)).toNat % 2 ^ 1 := by
    rw [BitVec.toNat_and, BitVec.toNat_ofInt, h1, Nat.and_two_pow_sub_one_eq_mod]
  show IntKind.i64.wrap ((BitVec.ofInt 64 n &&& BitVec.ofInt 64 1).toNat : Nat) = n % 2
  rw [key, IntKind.wrap_i64]
  omega
theorem bits_up (set p : Nat) : (List.range (p + 1)).filter (bitX set) = (List.range p).filter (bitX set) ++ if bitX set p then [p] else [] := by
  rw [List.range_succ, List.filter_append]
  congr 1
  cases h : bitX set p <;> simp [h]
theorem bits_end {set p : Nat} (hp : p ≤ 12) (hz : set / 2 ^ p = 0) : (List.range p).filter (bitX set) = numL set := by
  unfold numL
  have h : ∀ k, (List.range (p + k)).filter (bitX set) = (List.range p).filter (bitX set) := by
    intro k
    induction k with
    | zero => rfl
    | succ k ih =>
      rw [← Nat.add_assoc, bits_up, ih]
      have : bitX set (p + k) = false := by
        rw [bit_div]
        have e : set / 2 ^ (p + k) = 0 := by rw [Nat.pow_add, ← Nat.div_div_eq_div_mul, hz, Nat.zero_div]
        rw [e]; rfl
      rw [this]; simp
  rw [← h (12 - p), show p + (12 - p) = 12 by omega]
theorem bits_len (set p : Nat) : ((List.range p).filter (bitX set)).length ≤ p := Nat.le_trans (List.length_filter_le _ _) (by simp)
set_option maxRecDepth 100000 in
set_option maxHeartbeats 1600000 in
theorem numbers_any (set : Nat) (h : set < 4096) (w : World) :
    Calls Tryz.prog 70 #[.int .i64 set] w fun e w' => ∃ v, e = .returned v ∧ w'.ownsRow w.heap.size 3 1 v (numL set).length ((numL set).flatMap natC) ∧ Ext w w' := by
  go_enter Tryz.func70, Tryz.ntmps70
  go_wp2
  go_loopw [4, 3] (fun v4 v3 wr => ∃ (p : Nat) (v : Value) (T : List Nat), v4 = .int .i64 p ∧ v3 = v ∧ p ≤ 12 ∧ T = (List.range p).filter (bitX set) ∧ wr.ownsRow w.heap.size 3 1 v T.length (T.flatMap natC) ∧ Ext w wr) (fun v4 _ _ => 14 - (intOf v4).toNat)
  case atStart => exact ⟨0, _, _, rfl, rfl, Nat.zero_le _, rfl, World.ownsRow_nil _ _ _ _, Ext.refl _⟩
  case round =>
    obtain ⟨p, v, T, rfl, rfl, hp, hT, hown, hE⟩ := hrel
    obtain ⟨q, hq⟩ : ∃ q, set / 2 ^ p = q := ⟨_, rfl⟩
    have hsh : (set : Int) / 2 ^ p = (q : Int) := by rw [← hq]; norm_cast
    have hq8 : q ≤ 4096 := by rw [← hq]; exact Nat.le_trans (Nat.div_le_self _ _) (by omega)
    have hTl : T.length ≤ p := by rw [hT]; exact bits_len _ _
    by_cases hlt : 0 < q
    · have hp12 : p < 12 := by
        rcases Nat.lt_or_ge p 12 with h1 | h1
        · exact h1
        · have e : p = 12 := by omega
          subst e
          rw [Nat.div_eq_of_lt (by omega)] at hq
          omega
      have hup := bits_up set p
      have hbd := bit_div set p
      rw [hq] at hbd
      rw [← hT] at hup
      have hand := i64_and1 (q : Int)
      replace hq := Lib.hid hq
      replace hT := Lib.hid hT
      cases hb : bitX set p
      · rw [hb] at hup hbd
        have hq2 : q % 2 = 0 := by
          have : ¬ q % 2 = 1 := fun e => by rw [e] at hbd; simp at hbd
          omega
        rw [show (q : Int) % 2 = 0 by omega] at hand
        simp only [Bool.false_eq_true, if_false, List.append_nil] at hup
        replace hown := Lib.hid hown
        replace hup := Lib.hid hup
        clear hbd
        go_wp2
        go_roundw
        case rel => exact ⟨p + 1, u3, T, by go_num, rfl, by omega, hup.out.symm, hown.out, hE⟩
        case measure => simp [intOf]; omega
      · rw [hb] at hup hbd
        have hq2 : q % 2 = 1 := by
          have := hbd.symm
          exact of_decide_eq_true this
        rw [show (q : Int) % 2 = 1 by omega] at hand
        simp only [if_true] at hup
        replace hup := Lib.hid hup
        clear hbd
        go_wp2_with (at_builtin; go_loud (refine wp_app1 _ (.tmp 16) (.tmp 18) 22 3 1 8 _ rfl rfl Tryz.underlying22 intInfo rfl (by decide) (by decide) w.heap.size _ _ _ rfl (hown.alloc _) wr.heap.size (natC p) rfl rfl (Blk.new' rfl) (by simp [natC, Value.oneCell']) (by omega) (by have := hE.size; simp; omega) ?_; intro v' w6 hown6 hgrow6 _))
        have hE6 := (hE.alloc _).app (hown.alloc _) (Nat.le_refl _) hgrow6
        go_roundw
        case rel => exact ⟨p + 1, v', T ++ [p], by go_num, rfl, by omega, hup.out.symm, by rw [List.length_append, List.length_singleton, flat_snoc]; exact hown6, hE6⟩
        case measure => simp [intOf]; omega
    · obtain rfl : q = 0 := by omega
      have hend := bits_end hp hq
      rw [hend] at hT
      subst hT
      replace hown := Lib.hid hown
      clear hend hTl
      go_wp2
      go_ret
      exact ⟨u3, rfl, hown.out, hE⟩
end Go.Proofs.YthhbhjppljblnaaGreatDoor
