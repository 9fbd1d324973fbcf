/- Names of notes are as the document says: the law answers true. Conditions: the argument is a list of ints that lies in memory; the two tables stand. -/
import Derived.Test.YtebhjmknlhmmdaaDoorNoteT
import Derived.Test.YtebhjmknlhmmdaaDoorTuneL
import Derived.Outline
namespace Go.Proofs.YtebhjmknlhmmdaaDoor
open Go Go.RowKit

set_option maxRecDepth 100000 in
set_option maxHeartbeats 3200000 in
theorem law_any (B : Nat) (w : World) (p : Option Addr) (n c : Nat) (h : Lst w w.heap.size p n) (ht : Tab B w) (hT : TabS B w) :
    Calls Tryd.prog 4 #[.slice p n c] w fun e w' => e = .returned (.bool true) ∧ Ext w w' := by
  have hS0 : Str (w.alloc (.cells #[.slice p n c, .int .i64 0] 25)) w.heap.size 0 := ⟨p, n, c, 0, Nat.le_refl _, Blk.new' rfl, h.low fun j hj => Below.heap_alloc w _ j hj⟩
  have hB := ht.1
  clear h
  go_enter Tryd.func4, Tryd.ntmps4
  go_upto_region 5 with (first
    | (go_at_call 11; (with_reducible refine Calls.mono (odd_any w.heap.size 0 0 127 _ (by omega) (by omega) (by omega) (by omega) (by omega) hS0) ?_); rintro e w1 ⟨v, rfl, hv1, hv2, hS1, hE1⟩; have hE2 : Ext w w1 := ExtS.back (Ext.refl w) (Nat.le_refl _) (((ExtS.refl _ w).alloc _).trans hE1))
    | (go_at_call 12; (with_reducible refine Calls.mono (noteText_any w.heap.size (0 + 2) B _ (by omega) hS1 hB (by exact ht.ext hE2) (by exact hT.ext hE2)) ?_); rintro e w2 ⟨t, rfl, hX, hS2, hE3⟩)
    | (go_at_call 13; (with_reducible refine Calls.mono (flip_any w.heap.size (0 + 2 + 3) 2 _ (by omega) (by omega) (by omega) hS2) ?_); rintro e w3 ⟨b, rfl, hS3, hE4⟩; have hE5 := (hE1.trans hE3).trans hE4; cases b)
    | (go_at_call 14; (with_reducible refine Calls.mono (range_any w.heap.size (0 + 2 + 3 + 1) 0 127 _ (by omega) (by omega) (by omega) (by omega) (by omega) hS3) ?_); rintro e w4 ⟨u, rfl, hu1, hu2, hS4, hE6⟩; have hE7 := hE5.trans hE6))
  · have hE : Ext w w3 := ExtS.back (Ext.refl w) (Nat.le_refl _) (((ExtS.refl _ w).alloc _).trans hE5)
    obtain ⟨hx1, hx2, hx3, hx4⟩ := hX
    have hq1 := fun W => note_any t W (by omega)
    have hq2 := fun W (hW : Tab B W) => noteOf_any t B W hx1 hW
    rw [hx2, hx3] at hq2
    generalize noteR t = nr at *
    generalize noteE t = ne at *
    clear hx1 hx2 hx3 hx4 hS0 hS1 hS2 hS3 hE1 hE2 hE3 hE4 hE5
    replace hq1 := Lib.hid hq1
    replace hq2 := Lib.hid hq2
    cases ho : outB v 0 127
    · have hsp : spanF v 0 127 = 0 := by unfold spanF; rw [outB_inB] at ho; cases hi : inB v 0 127 <;> simp_all
      have hs1 : ∀ W, Calls Tryd.prog 16 #[.int .i64 v, .int .i64 0, .int .i64 127] W fun e w' => e = .returned (.int .i64 0) ∧ Ext W w' := fun W => (spanFault_any v 0 127 W).mono fun _ _ h => ⟨hsp ▸ h.1, h.2 ▸ Ext.refl _⟩
      obtain ⟨m, hm, hm'⟩ : ∃ m : Nat, v = m ∧ m ≤ 127 := ⟨(v).toNat, by unfold outB at ho; simp at ho; omega, by unfold outB at ho; simp at ho; omega⟩
      clear hsp ho
      rw [hm] at hs1
      subst hm
      have hn1 := fun W (hW : Tab B W) => name_any m B W hm' hW
      have e0 : letterB (m % 12) ++ ⟨(Lib.itoa ((m / 12 : Nat) - 1)).toArray⟩ = nameB m := rfl
      simp only [e0] at hn1
      have hn2 := fun W (hW : Tab B W) (hV : TabS B W) => nameOf_any m B W hm' hW hV
      generalize nameB m = nb at *
      clear e0
      replace hn1 := Lib.hid hn1
      replace hn2 := Lib.hid hn2
      replace hs1 := Lib.hid hs1
      go_wp2_with (first
        | (go_at_call 15; with_reducible refine Calls.mono (hn1.out _ (by exact ht.ext hE)) ?_; rintro e wc1 ⟨rfl, hbc1⟩; have ec1 := Ext.trans hE hbc1; clear hbc1)
        | (go_at_call 16; with_reducible refine Calls.mono (hs1.out _) ?_; rintro e wc2 ⟨rfl, hbc2⟩; have ec2 := Ext.trans ec1 hbc2; clear hbc2)
        | (go_at_call 17; with_reducible refine Calls.mono (hn2.out _ (by exact ht.ext ec2) (by exact hT.ext ec2)) ?_; rintro e wc3 ⟨rfl, hbc3⟩; have ec3 := Ext.trans ec2 hbc3; clear hbc3)
        | (go_at_call 18; with_reducible refine Calls.mono (hq1.out _) ?_; rintro e wc4 ⟨rfl, hbc4⟩; have ec4 := Ext.trans ec3 hbc4; clear hbc4)
        | (go_at_call 19; with_reducible refine Calls.mono (hq2.out _ (by exact ht.ext ec4)) ?_; rintro e wc5 ⟨rfl, hbc5⟩; have ec5 := Ext.trans ec4 hbc5; clear hbc5)
        | (go_at_call 20; with_reducible refine Calls.mono (tuned_any _) ?_; rintro e wc6 ⟨rfl, hbc6⟩; have ec6 := Ext.trans ec5 hbc6; clear hbc6))
      go_ret
      exact ⟨rfl, ec6⟩
    · have hsp : spanF v 0 127 = 1 := by unfold spanF; rw [outB_inB] at ho; cases hi : inB v 0 127 <;> simp_all
      have hs0 : ∀ W, Calls Tryd.prog 16 #[.int .i64 v, .int .i64 0, .int .i64 127] W fun e w' => e = .returned (.int .i64 1) ∧ Ext W w' := fun W => (spanFault_any v 0 127 W).mono fun _ _ h => ⟨hsp ▸ h.1, h.2 ▸ Ext.refl _⟩
      have hn0 := fun W => name0_any v W ho
      clear hsp ho
      replace hs0 := Lib.hid hs0
      replace hn0 := Lib.hid hn0
      go_wp2_with (first
        | (go_at_call 15; with_reducible refine Calls.mono (hn0.out _) ?_; rintro e wc1 ⟨rfl, hbc1⟩; have ec1 := Ext.trans hE hbc1; clear hbc1)
        | (go_at_call 16; with_reducible refine Calls.mono (hs0.out _) ?_; rintro e wc2 ⟨rfl, hbc2⟩; have ec2 := Ext.trans ec1 hbc2; clear hbc2)
        | (go_at_call 18; with_reducible refine Calls.mono (hq1.out _) ?_; rintro e wc3 ⟨rfl, hbc3⟩; have ec3 := Ext.trans ec2 hbc3; clear hbc3)
        | (go_at_call 19; with_reducible refine Calls.mono (hq2.out _ (by exact ht.ext ec3)) ?_; rintro e wc4 ⟨rfl, hbc4⟩; have ec4 := Ext.trans ec3 hbc4; clear hbc4)
        | (go_at_call 20; with_reducible refine Calls.mono (tuned_any _) ?_; rintro e wc5 ⟨rfl, hbc5⟩; have ec5 := Ext.trans ec4 hbc5; clear hbc5))
      go_ret
      exact ⟨rfl, ec5⟩
  · have hE : Ext w w4 := ExtS.back (Ext.refl w) (Nat.le_refl _) (((ExtS.refl _ w).alloc _).trans hE7)
    obtain ⟨hx1, hx2, hx3, hx4⟩ := hX
    have hq1 := fun W => note_any t W (by omega)
    have hq2 := fun W (hW : Tab B W) => noteOf_any t B W hx1 hW
    rw [hx2, hx3] at hq2
    generalize noteR t = nr at *
    generalize noteE t = ne at *
    clear hx1 hx2 hx3 hx4 hS0 hS1 hS2 hS3 hE1 hE2 hE3 hE4 hE5
    replace hq1 := Lib.hid hq1
    replace hq2 := Lib.hid hq2
    cases ho : outB u 0 127
    · have hsp : spanF u 0 127 = 0 := by unfold spanF; rw [outB_inB] at ho; cases hi : inB u 0 127 <;> simp_all
      have hs1 : ∀ W, Calls Tryd.prog 16 #[.int .i64 u, .int .i64 0, .int .i64 127] W fun e w' => e = .returned (.int .i64 0) ∧ Ext W w' := fun W => (spanFault_any u 0 127 W).mono fun _ _ h => ⟨hsp ▸ h.1, h.2 ▸ Ext.refl _⟩
      obtain ⟨m, hm, hm'⟩ : ∃ m : Nat, u = m ∧ m ≤ 127 := ⟨(u).toNat, by unfold outB at ho; simp at ho; omega, by unfold outB at ho; simp at ho; omega⟩
      clear hsp ho
      rw [hm] at hs1
      subst hm
      have hn1 := fun W (hW : Tab B W) => name_any m B W hm' hW
      have e0 : letterB (m % 12) ++ ⟨(Lib.itoa ((m / 12 : Nat) - 1)).toArray⟩ = nameB m := rfl
      simp only [e0] at hn1
      have hn2 := fun W (hW : Tab B W) (hV : TabS B W) => nameOf_any m B W hm' hW hV
      generalize nameB m = nb at *
      clear e0
      replace hn1 := Lib.hid hn1
      replace hn2 := Lib.hid hn2
      replace hs1 := Lib.hid hs1
      go_wp2_with (first
        | (go_at_call 15; with_reducible refine Calls.mono (hn1.out _ (by exact ht.ext hE)) ?_; rintro e wc1 ⟨rfl, hbc1⟩; have ec1 := Ext.trans hE hbc1; clear hbc1)
        | (go_at_call 16; with_reducible refine Calls.mono (hs1.out _) ?_; rintro e wc2 ⟨rfl, hbc2⟩; have ec2 := Ext.trans ec1 hbc2; clear hbc2)
        | (go_at_call 17; with_reducible refine Calls.mono (hn2.out _ (by exact ht.ext ec2) (by exact hT.ext ec2)) ?_; rintro e wc3 ⟨rfl, hbc3⟩; have ec3 := Ext.trans ec2 hbc3; clear hbc3)
        | (go_at_call 18; with_reducible refine Calls.mono (hq1.out _) ?_; rintro e wc4 ⟨rfl, hbc4⟩; have ec4 := Ext.trans ec3 hbc4; clear hbc4)
        | (go_at_call 19; with_reducible refine Calls.mono (hq2.out _ (by exact ht.ext ec4)) ?_; rintro e wc5 ⟨rfl, hbc5⟩; have ec5 := Ext.trans ec4 hbc5; clear hbc5)
        | (go_at_call 20; with_reducible refine Calls.mono (tuned_any _) ?_; rintro e wc6 ⟨rfl, hbc6⟩; have ec6 := Ext.trans ec5 hbc6; clear hbc6))
      go_ret
      exact ⟨rfl, ec6⟩
    · have hsp : spanF u 0 127 = 1 := by unfold spanF; rw [outB_inB] at ho; cases hi : inB u 0 127 <;> simp_all
      have hs0 : ∀ W, Calls Tryd.prog 16 #[.int .i64 u, .int .i64 0, .int .i64 127] W fun e w' => e = .returned (.int .i64 1) ∧ Ext W w' := fun W => (spanFault_any u 0 127 W).mono fun _ _ h => ⟨hsp ▸ h.1, h.2 ▸ Ext.refl _⟩
      have hn0 := fun W => name0_any u W ho
      clear hsp ho
      replace hs0 := Lib.hid hs0
      replace hn0 := Lib.hid hn0
      go_wp2_with (first
        | (go_at_call 15; with_reducible refine Calls.mono (hn0.out _) ?_; rintro e wc1 ⟨rfl, hbc1⟩; have ec1 := Ext.trans hE hbc1; clear hbc1)
        | (go_at_call 16; with_reducible refine Calls.mono (hs0.out _) ?_; rintro e wc2 ⟨rfl, hbc2⟩; have ec2 := Ext.trans ec1 hbc2; clear hbc2)
        | (go_at_call 18; with_reducible refine Calls.mono (hq1.out _) ?_; rintro e wc3 ⟨rfl, hbc3⟩; have ec3 := Ext.trans ec2 hbc3; clear hbc3)
        | (go_at_call 19; with_reducible refine Calls.mono (hq2.out _ (by exact ht.ext ec3)) ?_; rintro e wc4 ⟨rfl, hbc4⟩; have ec4 := Ext.trans ec3 hbc4; clear hbc4)
        | (go_at_call 20; with_reducible refine Calls.mono (tuned_any _) ?_; rintro e wc5 ⟨rfl, hbc5⟩; have ec5 := Ext.trans ec4 hbc5; clear hbc5))
      go_ret
      exact ⟨rfl, ec5⟩

end Go.Proofs.YtebhjmknlhmmdaaDoor
