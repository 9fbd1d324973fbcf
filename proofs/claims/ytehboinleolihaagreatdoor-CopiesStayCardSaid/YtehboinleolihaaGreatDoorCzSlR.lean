/- Right slips that the stream makes, told exactly. Conditions: sizes. (Printed by gen_slr.py.) -/
import Derived.Test.YtehboinleolihaaGreatDoorCzJ24
import Derived.Test.YtehboinleolihaaGreatDoorCzSlT
set_option linter.unusedSimpArgs false
set_option linter.unusedVariables false
namespace Go.Proofs.YtehboinleolihaaGreatDoor
open Go Go.RowKit
def rsG (L : Src) (k : Nat) : Nat → List SlipV × Nat
 | 0 => ([], k)
 | n + 1 => if slipsF (slF L k).1 = 0 then slF L k else rsG L (slF L k).2 n
theorem rsG_next {L : Src} {k k2 m : Nat} {V : List SlipV} (h : slF L k = (V, k2)) (hq : slipsF V ≠ 0) : rsG L k (m + 1) = rsG L k2 m := by
 show (if slipsF (slF L k).1 = 0 then slF L k else rsG L (slF L k).2 m) = _
 rw [h]
 simp only
 rw [if_neg hq]
def RightD (L : Src) (s k : Nat) (w : World) (e : Ending) (w' : World) : Prop := ∃ (p : Option Addr) (n c : Nat) (V : List SlipV) (k' : Nat), rsG L k 6 = (V, k') ∧ k' ≤ k + 720 ∧ e = .returned (.slice p n c) ∧ n ≤ 14 ∧ Slc 7 slipC w' p n c V ∧ (∀ a, p = some a → w.heap.size ≤ a.block) ∧ V.length = n ∧ (∀ x ∈ V, x.Small) ∧ slipsF V = 0 ∧ StrL w' s L k' ∧ ExtS s w w'
set_option maxRecDepth 100000 in
set_option maxHeartbeats 3200000 in
theorem rightSlips_det (s k : Nat) (L : Src) (w : World) (hk : k ≤ 800000) (h : StrL w s L k) :
 Calls Tryz.prog 41 #[.pointer (some ⟨s, 0, none⟩)] w (RightD L s k w) := by
 go_enter Tryz.func41, Tryz.ntmps41
 go_wp2
 go_loopw [4] (fun v4 wr => ∃ (j kk : Nat), Hid (rsG L k 6 = rsG L kk (6 - j)) ∧ kk ≤ k + 120 * j ∧ j ≤ 6 ∧ v4 = .int .i64 j ∧ StrL wr s L kk ∧ ExtS s w wr) (fun v4 _ => 6 - (intOf v4).toNat)
 case atStart => exact ⟨0, k, Lib.hid rfl, by omega, Nat.zero_le _, rfl, h, ExtS.refl _ _⟩
 case round =>
  obtain ⟨j, kk, hrs, hkk, hj, rfl, hS, hE⟩ := hrel
  by_cases hlt : j < 6
  ·have hjI : (j : Int) < 6 := by omega
   have hsl := slips_det s kk L wr (by omega) hS
   obtain ⟨m, hm⟩ : ∃ m, 6 - j = m + 1 := ⟨5 - j, by omega⟩
   have hm2 : 6 - (j + 1) = m := by omega
   replace hm := Lib.hid hm; replace hm2 := Lib.hid hm2
   have hwr := hE.2.2.2.1
   have hlow : ∀ (w' : World) (p : Option Addr) (n c : Nat) (V : List SlipV), w'.ownsRow (wr.heap.size + 1) 79 7 (.slice p n c) n (V.flatMap slipC) → n ≤ 14 → Slc 7 slipC w' p n c V ∧ ∀ a, p = some a → w.heap.size ≤ a.block := fun w' p n c V ho hn => by
    obtain ⟨p', c', e', hS'⟩ := slc_of_own slipC_len ho (by decide) (by omega)
    cases e'
    refine ⟨hS', fun a ha => ?_⟩
    subst ha
    have := (ho.lt a.block rfl).1
    omega
   replace hsl := Lib.hid hsl; replace hlow := Lib.hid hlow
   go_upto_if 10 with (first
    | (go_at_call 10; (with_reducible refine Calls.mono hsl.out ?_); rintro e w2 ⟨p, n, c, V, k2, hF2, hk2, rfl, hn, hown, hVl, hsm, hS2, hE2⟩; replace hF2 := Lib.hid hF2; obtain ⟨hSl, hpb⟩ := hlow.out w2 p n c V hown hn; clear hown; replace hpb := Lib.hid hpb)
    | (go_at_call 68; refine (slipsFault_any p n c V w2 hSl.1 hsm (by omega)).mono ?_; rintro e w3 ⟨rfl, hb3⟩))
   have hE3 : ExtS s w w3 := (hE.trans hE2).ext hb3
   have hS3 := hS2.ext hb3
   have hSl3 := hSl.ext hb3
   clear hSl hE hS hE2 hS2
   by_cases hq : slipsF V = 0
   ·have hres : RightD L s k w (.returned (.slice p n c)) w3 := ⟨p, n, c, V, k2, by rw [hrs.out, hm.out]; unfold rsG; rw [hF2.out]; simp only; rw [if_pos hq], by omega, rfl, hn, hSl3, hpb.out, hVl, hsm, hq, hS3, hE3⟩
    replace hres := Lib.hid hres; replace hSl3 := Lib.hid hSl3; replace hsm := Lib.hid hsm
    generalize slipsF V = f at *
    go_wp2
    go_ret
    exact hres.out
   ·have hnx : Hid (rsG L k 6 = rsG L k2 (6 - (j + 1))) := Lib.hid (by rw [hrs.out, hm.out, hm2.out, rsG_next hF2.out hq])
    replace hSl3 := Lib.hid hSl3; replace hsm := Lib.hid hsm
    generalize slipsF V = f at *
    go_wp2
    go_roundw
    case rel => exact ⟨j + 1, k2, hnx, by omega, by omega, by go_num, hS3, hE3⟩
    case measure => simp [intOf]; omega
  ·obtain rfl : j = 6 := by omega
   go_wp2
   go_ret
   exact ⟨none, 0,0,[], kk, by rw [hrs.out]; rfl, by omega, rfl, by omega, Slc.nil _ _ _, (fun a ha => by cases ha), rfl, (fun x hx => by cases hx), rfl, hS, hE⟩
end Go.Proofs.YtehboinleolihaaGreatDoor
