/- By how many half tones parts can be shifted so that nobody is lacking, by the document. Conditions: sizes. -/
import Derived.Test.YthhbhjppljblnaaGreatDoorSlGiQ
set_option linter.unusedSimpArgs false
set_option linter.unusedVariables false
namespace Go.Proofs.YthhbhjppljblnaaGreatDoor
open Go Go.RowKit

set_option maxRecDepth 100000 in
set_option maxHeartbeats 6400000 in
theorem shiftsOf_any {w : World} {vp pp : Option Addr} {vc pc : Nat} {V : List VoiceV} {P : List PartV} (h : VpM w vp vc V pp pc P) (t : Int) (hP : P.length ≤ 12) (hN : ∀ x ∈ P, 0 ≤ x.least ∧ x.least ≤ 1000) :
    Calls Tryz.prog 29 #[.slice vp V.length vc, .slice pp P.length pc, .int .i64 t] w fun e w' => ∃ (q : Option Addr) (m d : Nat), e = .returned (.slice q m d) ∧ Slc 1 intC w' q m d (shiftsV V P t) ∧ Ext w w' := by
  have hsh := fun u (hu : Ext w u) d (hd : -1000 ≤ d ∧ d ≤ 1000) => shiftedOf_any pp P.length pc P d u (h.par.ext hu) h.nP h.sP hd
  have hch : ∀ u (hu : Ext w u) (q : Option Addr) (c : Nat) d, okUp P d = true → Slc 5 partC u q P.length c (upL P d) →
      Calls Tryz.prog 26 #[.slice vp V.length vc, .slice q P.length c, .int .i64 t] u fun e w' => e = .returned (.int .i64 (lackV V (upL P d) t)) ∧ Ext u w' := fun u hu q c d hok hS => by
    have hl := up_len P d
    have := lackingOf_any (w := u) (vp := vp) (pp := q) (vc := vc) (pc := c) (V := V) (P := upL P d) ⟨h.voi.ext hu, by rw [hl]; exact hS, h.sV, up_small h.sP hok, h.nV, by rw [hl]; exact h.nP⟩ t (by rw [hl]; exact hP) (up_need hN)
    rw [hl] at this
    exact this
  replace hsh := Lib.hid hsh
  replace hch := Lib.hid hch
  clear h hN
  go_enter Tryz.func29, Tryz.ntmps29
  go_wp2
  go_loopw [8, 7] (fun v8 v7 wr => ∃ (k : Nat) (d : Int) (v : Value) (T : List Int), v8 = .int .i64 d ∧ v7 = v ∧ d = (k : Int) - 12 ∧ k ≤ 25 ∧ T = spanL V P t k ∧ wr.ownsRow w.heap.size 3 1 v T.length (T.flatMap intC) ∧ Ext w wr) (fun v8 _ _ => (25 - (intOf v8 + 12)).toNat)
  case atStart => exact ⟨0, _, _, _, rfl, rfl, by decide, Nat.zero_le _, rfl, World.ownsRow_nil _ _ _ _, Ext.refl _⟩
  case round =>
    obtain ⟨k, d, v, T, rfl, rfl, hd, hk, hT, hown, hE⟩ := hrel
    have hTl : T.length ≤ k := by rw [hT]; exact spanL_len _ _ _ _
    have hup := spanL_succ V P t k
    rw [← hT, ← hd] at hup
    have hd1 : d + 1 = ((k + 1 : Nat) : Int) - 12 := by omega
    by_cases hk25 : k < 25
    · have hd2 : d ≤ 12 := by omega
      have hd3 : -12 ≤ d := by omega
      have hfb : fitB V P t d = (okUp P d && (lackV V (upL P d) t == 0)) := rfl
      have hsb : shB P d = okUp P d := by unfold shB; rw [inB_iff.2 (by omega)]; rfl
      have hsh2 := hsh.out wr hE d ⟨by omega, by omega⟩
      rw [hsb] at hsh2
      have hch2 := fun u hu q c hok => hch.out u hu q c d hok
      generalize lackV V (upL P d) t = lv at *
      replace hT := Lib.hid hT
      replace hd1 := Lib.hid hd1
      clear hsb
      cases hok : okUp P d
      · rw [hok] at hfb hsh2
        rw [hfb] at hup
        simp only [Bool.false_and, Bool.false_eq_true, if_false, List.append_nil] at hup
        simp only [Bool.false_eq_true, if_false] at hsh2
        replace hup := Lib.hid hup
        replace hsh2 := Lib.hid hsh2
        replace hok := Lib.hid hok
        clear hfb hd hch2
        go_wp2_with (go_at_call 75; (with_reducible refine Calls.mono hsh2.out ?_); rintro e w3 ⟨v3, rfl, -, -, hb3⟩)
        go_roundw
        case rel => exact ⟨k + 1, d + 1, u7, T, by go_num, rfl, hd1.out, by omega, hup.out.symm, own_ext hb3 hown, hE.trans hb3⟩
        case measure => simp [intOf]; omega
      · replace hch2 := fun u hu q c => hch2 u hu q c hok
        rw [hok] at hfb hsh2
        rw [hfb] at hup
        simp only [Bool.true_and] at hup
        simp only [if_true] at hsh2
        replace hsh2 := Lib.hid hsh2
        replace hch2 := Lib.hid hch2
        replace hok := Lib.hid hok
        clear hfb hd
        go_upto_if 29 with (first
          | (go_at_call 75; (with_reducible refine Calls.mono hsh2.out ?_); rintro e w3 ⟨v3, rfl, hv3, -, hb3⟩; obtain ⟨q3, c3, rfl, hS3⟩ := slc_of_own partC_len (hv3 (by trivial)) (by decide) (by omega); have hE3 := hE.trans hb3; replace hS3 : Slc 5 partC w3 q3 P.length c3 (upL P d) := hS3; replace hS3 := Lib.hid hS3)
          | (go_at_call 26; (with_reducible refine Calls.mono (hch2.out _ hE3 _ _ hS3.out) ?_); rintro e w5 ⟨rfl, hb5⟩; have hb35 := hb3.trans hb5))
        have hown5 := own_ext hb35 hown
        have hE5 := hE.trans hb35
        clear hb3 hb5 hE3 hS3 hv3 hown hb35 hch2 hsh2
        have hz5 := hE5.size
        cases hl0 : (lv == 0)
        · rw [hl0] at hup
          simp only [Bool.false_eq_true, if_false, List.append_nil] at hup
          replace hup := Lib.hid hup
          replace hown5 := Lib.hid hown5
          go_wp2
          go_roundw
          case rel => exact ⟨k + 1, d + 1, u7, T, by go_num, rfl, hd1.out, by omega, hup.out.symm, hown5.out, hE5⟩
          case measure => simp [intOf]; omega
        · rw [hl0] at hup
          simp only [if_true] at hup
          replace hup := Lib.hid hup
          go_wp2_with (at_builtin; go_loud (refine wp_app1 _ (.tmp 30) (.tmp 32) 22 3 1 8 _ rfl rfl Tryz.underlying22 intInfo rfl (by decide) (by decide) w.heap.size _ T.length _ rfl (hown5.alloc _) w5.heap.size (intC d) rfl rfl (Blk.new' rfl) (by simp [intC, Value.oneCell']) (by omega) (by simp; omega) ?_; intro v' w6 hown6 hgrow6 _))
          have hE6 := (hE5.alloc _).app (hown5.alloc _) (Nat.le_refl _) hgrow6
          go_roundw
          case rel => exact ⟨k + 1, d + 1, v', T ++ [d], by go_num, rfl, hd1.out, by omega, hup.out.symm, by rw [List.length_append, List.length_singleton, flat_snoc]; exact hown6, hE6⟩
          case measure => simp [intOf]; omega
    · obtain rfl : k = 25 := by omega
      have hd12 : ¬ d ≤ 12 := by omega
      obtain ⟨q, m, rfl, hS⟩ := slc_of_own intC_len hown (by decide) (by omega)
      rw [show spanL V P t 25 = shiftsV V P t from rfl] at hT
      replace hT := Lib.hid hT
      replace hS := Lib.hid hS
      clear hown hup hd hd1
      go_wp2
      go_ret
      exact ⟨q, _, m, rfl, by rw [← hT.out]; exact hS.out, hE⟩
end Go.Proofs.YthhbhjppljblnaaGreatDoor
