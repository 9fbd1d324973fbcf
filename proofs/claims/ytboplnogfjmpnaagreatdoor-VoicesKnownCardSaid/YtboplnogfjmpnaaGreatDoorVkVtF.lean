/- Texts of voices that the stream makes. Conditions: sizes. -/
import Derived.Test.YtboplnogfjmpnaaGreatDoorVkVtD
import Derived.Test.YtboplnogfjmpnaaGreatDoorVkVoQ
import Derived.Test.YtboplnogfjmpnaaGreatDoorVkTxF
set_option linter.unusedSimpArgs false
set_option linter.unusedVariables false
namespace Go.Proofs.YtboplnogfjmpnaaGreatDoor
open Go Go.RowKit

theorem StrL.str {w : World} {s a : Nat} {L : Src} (h : StrL w s L a) : Str w s a := by
  obtain ⟨h0, p, c, hb, h1, h2, h3⟩ := h
  refine ⟨p, L.xs.length, c, a, Nat.le_refl _, hb, h1, fun hn => ?_⟩
  obtain ⟨B, off, hp, hlt, hc⟩ := h3 hn
  refine ⟨B, off, hp, by omega, fun i hi => ⟨L.xs.getD i 0, hc i hi, ?_⟩⟩
  exact h2 _ (by rw [List.getD_eq_getElem?_getD, List.getElem?_eq_getElem hi]; exact List.getElem_mem hi)
def chV : ByteArray := ⟨#[32, 10, 48, 49, 97, 110, 45]⟩
set_option maxRecDepth 100000 in
set_option maxHeartbeats 3200000 in
theorem voiceString_any (B s k : Nat) (L : Src) (w : World) (hk : k ≤ 700000) (h : StrL w s L k) (hB : B ≤ s) (ht : Tab B w) :
    Calls Tryz.prog 9 #[.pointer (some ⟨s, 0, none⟩)] w fun e w' => ∃ y : ByteArray, e = .returned (.string y) ∧ y.size ≤ 5000 ∧ Str w' s (k + 400) ∧ ExtS s w w' := by
  have hrs := rightVoices_det s k 5 L w (by omega) (by omega) h
  replace hrs := Lib.hid hrs
  go_enter Tryz.func9, Tryz.ntmps9
  go_wp2_with (first
    | (go_at_call 5; (with_reducible refine Calls.mono hrs.out ?_); rintro e w1 ⟨p, n, c, V, k', rfl, hn, hown, hVl, hsm, hq, -, hk', hSL, hE1⟩; have hok := voi_ok hq; obtain ⟨p', c', e', hSl⟩ := slc_of_own voiC_len hown (by decide) (by omega); cases e'; have hS1 := hSL.str; have hSs := hSl.1; clear hSl hown hSL; replace hok := Lib.hid hok; replace hsm := Lib.hid hsm; replace hq := Lib.hid hq)
    | (go_at_call 26; (with_reducible refine Calls.mono (voiceLines_any B p n c V w1 hSs hok.out (by omega) (ht.extS hB hE1)) ?_); rintro e w2 ⟨rfl, hb2⟩; have hS2 := hS1.ext hb2; have hE2 := hE1.ext hb2; clear hS1 hE1 hSs)
    | (go_at_call 37; have l2 := hS2.lt; refine (pick_in s k' _ _ 4 [0, 0, 1, 2] 0 2 _ (by omega) (by simp) (by simp) (by exact hS2.ext (Ext.alloc (Ext.refl _) _)) (by exact Nat.ne_of_gt l2) (by exact Blk.new' rfl) (by decide)).mono ?_; rintro e w3 ⟨m0, hm0, hm2, rfl, hS3, hE3⟩; have hE3' := (hE2.alloc _).trans hE3; clear hS2 hE2 hE3))
  obtain ⟨m, rfl⟩ : ∃ m : Nat, m0 = m := ⟨m0.toNat, by omega⟩
  have htl := textG_len (ln := lnVo) (m := 164) (d := V) fun x hx => lnVo_len (hok.out x hx)
  have htn : V.length * (164 + 1) ≤ 10 * 165 := Nat.mul_le_mul (by omega) (Nat.le_refl _)
  have hy0 : (⟨(textG lnVo V).toArray⟩ : ByteArray).size ≤ 4200 := by show (textG lnVo V).toArray.size ≤ _; simp; omega
  generalize (⟨(textG lnVo V).toArray⟩ : ByteArray) = y0 at *
  clear htl htn
  go_loopw [3, 10] (fun v3 v10 wr => ∃ (j : Nat) (y : ByteArray), j ≤ m ∧ v10 = .int .i64 j ∧ v3 = .string y ∧ y.size ≤ 4200 + 11 * j ∧ Str wr s (k' + 1 + 3 * j) ∧ ExtS s w wr) (fun _ v10 _ => m - (intOf v10).toNat)
  case atStart => exact ⟨0, y0, Nat.zero_le _, rfl, rfl, hy0, hS3, hE3'⟩
  case round =>
    clear hS3 hE3' hy0
    obtain ⟨j, y, hj, rfl, rfl, hy, hS, hE⟩ := hrel
    by_cases hlt : j < m
    · have hcg := changed_any s (k' + 1 + 3 * j) y chV wr (by omega) (by omega) (by decide) (by decide) hS
      unfold chV at hcg
      replace hcg := Lib.hid hcg
      go_wp2_with (go_at_call 38; go_loud ((with_reducible refine Calls.mono hcg.out ?_); rintro e w4 ⟨z, rfl, hz, hS4, hE4⟩; replace hz : z.size ≤ y.size + 7 + 4 := hz))
      go_roundw
      case rel => exact ⟨j + 1, z, by omega, by go_num, rfl, by omega, hS4.more (by omega), hE.trans hE4⟩
      case measure => simp [intOf]; omega
    · obtain rfl : j = m := by omega
      go_wp2
      go_ret
      exact ⟨y, rfl, by omega, hS.more (by omega), hE⟩
end Go.Proofs.YtboplnogfjmpnaaGreatDoor
