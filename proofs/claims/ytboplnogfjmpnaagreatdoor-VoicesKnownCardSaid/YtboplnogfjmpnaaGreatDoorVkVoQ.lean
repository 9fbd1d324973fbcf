/- Right voices that the stream makes, and moments, told exactly. Conditions: sizes. -/
import Derived.Test.YtboplnogfjmpnaaGreatDoorVkVoE
set_option linter.unusedSimpArgs false
set_option linter.unusedVariables false
namespace Go.Proofs.YtboplnogfjmpnaaGreatDoor
open Go Go.RowKit

theorem own_lowV {w : World} {base base' k n : Nat} {e : TypeId} {v : Value} {xs : List Value} (h : w.ownsRow base' e k v n xs) (hb : base ≤ base') : w.ownsRow base e k v n xs :=
  ⟨h.1, h.2.imp id fun ⟨g, cap, cur, hv, hg, r⟩ => ⟨g, cap, cur, hv, Nat.le_trans hb hg, r⟩⟩
/-- Right voices: the first ones of so many tries. -/
def rvF (L : Src) (most : Nat) : Nat → Nat → List VoiceV × Nat
  | 0, a => ([], a)
  | t + 1, a => if voicesF (vrF L a most).1 = 0 then vrF L a most else rvF L most t (vrF L a most).2
theorem rvF_good {L : Src} {most t a k' : Nat} {V : List VoiceV} (h : vrF L a most = (V, k')) (hz : voicesF V = 0) : rvF L most (t + 1) a = (V, k') := by
  unfold rvF; rw [h]; exact if_pos hz
theorem rvF_bad {L : Src} {most t a k' : Nat} {V : List VoiceV} (h : vrF L a most = (V, k')) (hz : voicesF V ≠ 0) : rvF L most (t + 1) a = rvF L most t k' := by
  rw [show rvF L most (t + 1) a = if voicesF (vrF L a most).1 = 0 then vrF L a most else rvF L most t (vrF L a most).2 from rfl, h]; exact if_neg hz
def RVoiR (F : List VoiceV × Nat) (s k : Nat) (L : Src) (w : World) (e : Ending) (w' : World) : Prop :=
  ∃ (p : Option Addr) (n c : Nat) (V : List VoiceV) (k' : Nat), e = .returned (.slice p n c) ∧ n ≤ 10 ∧ w'.ownsRow (w.heap.size + 1) 37 4 (.slice p n c) n (V.flatMap voiC) ∧ V.length = n ∧ (∀ x ∈ V, x.Small) ∧ voicesF V = 0 ∧ F = (V, k') ∧ k' ≤ k + 360 ∧ StrL w' s L k' ∧ ExtS s w w'
set_option maxRecDepth 100000 in
set_option maxHeartbeats 1600000 in
theorem rightVoices_det (s k most : Nat) (L : Src) (w : World) (hk : k ≤ 980000) (hmo : most ≤ 5) (h : StrL w s L k) :
    Calls Tryz.prog 5 #[.pointer (some ⟨s, 0, none⟩), .int .i64 most] w (RVoiR (rvF L most 6 k) s k L w) := by
  have l0 := h.lt
  go_enter Tryz.func5, Tryz.ntmps5
  go_wp2
  go_loopw [6] (fun i wr => ∃ j t p : Nat, j + t = 6 ∧ i = .int .i64 j ∧ rvF L most 6 k = rvF L most t p ∧ p ≤ k + 60 * j ∧ StrL wr s L p ∧ ExtS s w wr) (fun i _ => 6 - (intOf i).toNat)
  case atStart => exact ⟨0, 6, k, rfl, rfl, rfl, by omega, h, ExtS.refl s w⟩
  case round =>
    clear h
    obtain ⟨j, t, p, hj, rfl, hF, hp, hS, hE⟩ := hrel
    replace hF := Lib.hid hF
    by_cases hlt : j < 6
    · obtain ⟨t, rfl⟩ : ∃ u, t = u + 1 := ⟨t - 1, by omega⟩
      have hsz := hE.2.2.2.1
      have hjI : (j : Int) < 6 := by omega
      go_upto_region 4 with (go_at_call 11; (with_reducible refine Calls.mono (voiceRows_det s p most L _ (by omega) (by omega) hS) ?_); rintro e w2 ⟨q, n, c, V, k', rfl, hn, hown, hVl, hf, hvr, hk', hS2, hE2⟩; obtain ⟨q2, c2, hq2, hSl⟩ := slc_of_own voiC_len hown (by decide) (by omega); cases hq2)
      have hchk := voicesFault_any q n c V w2 hSl.1 hf (by omega)
      have hown2 : w2.ownsRow (w.heap.size + 1) 37 4 (.slice q n c) n (V.flatMap voiC) := own_lowV hown (by omega)
      clear hown hS hSl
      replace hf := Lib.hid hf
      have hE2' := hE.trans hE2
      clear hE hE2
      by_cases hz : voicesF V = 0
      · rw [hz] at hchk
        have hres : ∀ u, Ext w2 u → RVoiR (rvF L most 6 k) s k L w (.returned (.slice q n c)) u := fun u hu => ⟨q, n, c, V, k', rfl, hn, own_ext hu hown2, hVl, hf.out, hz, by rw [hF.out]; exact rvF_good hvr hz, by omega, hS2.ext hu, hE2'.ext hu⟩
        replace hres := Lib.hid hres
        replace hchk := Lib.hid hchk
        replace hown2 := Lib.hid hown2
        replace hVl := Lib.hid hVl
        replace hvr := Lib.hid hvr
        replace hz := Lib.hid hz
        go_wp2_with (go_at_call 14; (with_reducible refine Calls.mono hchk.out ?_); rintro e w3 ⟨rfl, hb3⟩)
        go_ret
        exact hres.out _ hb3
      · have hnx := rvF_bad (t := t) hvr hz
        have hz' : (voicesF V == 0) = false := by simpa using hz
        replace hnx := Lib.hid hnx
        replace hchk := Lib.hid hchk
        replace hown2 := Lib.hid hown2
        replace hVl := Lib.hid hVl
        replace hvr := Lib.hid hvr
        replace hz := Lib.hid hz
        go_wp2_with (go_at_call 14; (with_reducible refine Calls.mono hchk.out ?_); rintro e w3 ⟨rfl, hb3⟩)
        go_roundw
        case rel => exact ⟨j + 1, t, k', by omega, by go_num, by rw [hF.out, hnx.out], by omega, hS2.ext hb3, hE2'.ext hb3⟩
        case measure => simp [intOf]; omega
    · obtain rfl : j = 6 := by omega
      obtain rfl : t = 0 := by omega
      have hres : RVoiR (rvF L most 6 k) s k L w (.returned (.slice none 0 0)) wr := ⟨none, 0, 0, [], p, rfl, by omega, World.ownsRow_nil _ _ _ _, rfl, (fun x hx => by cases hx), rfl, hF.out, by omega, hS, hE⟩
      replace hres := Lib.hid hres
      rw [show ((6 : Nat) : Int) = 6 from rfl]
      go_wp2
      go_ret
      exact hres.out

def smtF (L : Src) (a : Nat) : Int := pkF L (a + 1) [0, 10, 50, 60, 120, 500, pkF L a [-1, 345686400000]]
theorem smtF_in (L : Src) (a : Nat) : -1 ≤ smtF L a ∧ smtF L a ≤ 345686400000 := by
  have h1 := pkF_in (L := L) (a := a) (xs := [-1, 345686400000]) (lo := -1) (hi := 345686400000) (by simp) (by decide)
  exact pkF_in (by simp) (by intro y hy; simp at hy; omega)
set_option maxRecDepth 100000 in
theorem sometime_det (s k : Nat) (L : Src) (w : World) (hk : k ≤ 990000) (h : StrL w s L k) :
    Calls Tryz.prog 13 #[.pointer (some ⟨s, 0, none⟩)] w fun e w' => e = .returned (.int .i64 (smtF L k)) ∧ StrL w' s L (k + 2) ∧ ExtS s w w' := by
  have hv : smtF L k = pkF L (k + 1) [0, 10, 50, 60, 120, 500, pkF L k [-1, 345686400000]] := rfl
  replace hv := Lib.hid hv
  go_enter Tryz.func13, Tryz.ntmps13
  go_wp2_with (first
    | (go_at_call 37; have l1 := h.lt; refine (pick_det s k _ _ 2 [-1, 345686400000] L _ (by omega) (by simp) (by simp) (by exact h.ext (Ext.alloc (Ext.refl _) _)) (by exact Nat.ne_of_gt l1) (by exact Blk.new' rfl)).mono ?_; rintro e w2 ⟨rfl, hS2, hE2⟩; have hE2' := ((ExtS.refl s w).alloc _).trans hE2; clear h)
    | (go_at_call 37; have l2 := hS2.lt; refine (pick_det s (k + 1) _ _ 7 [0, 10, 50, 60, 120, 500, pkF L k [-1, 345686400000]] L _ (by omega) (by simp) (by simp) (by exact hS2.ext (Ext.alloc (Ext.refl _) _)) (by exact Nat.ne_of_gt l2) (by exact Blk.new' rfl)).mono ?_; rintro e w3 ⟨rfl, hS3, hE3⟩; have hE3' := (hE2'.alloc _).trans hE3))
  go_ret
  exact ⟨by rw [hv.out]; rfl, hS3, hE3'⟩

end Go.Proofs.YtboplnogfjmpnaaGreatDoor
