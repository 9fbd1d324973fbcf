/- How many singers are lacking, by the document. Conditions: sizes. -/
import Derived.Test.YthhbhjppljblnaaGreatDoorSlGiO
set_option linter.unusedSimpArgs false
set_option linter.unusedVariables false
namespace Go.Proofs.YthhbhjppljblnaaGreatDoor
open Go Go.RowKit

theorem need_is (V : List VoiceV) (t : Int) (P : List PartV) (X : Nat → Bool) : needF (canD (canBL V t P)) (lstP P) P.length (canBL V t P).length X = needF (canC (comL V t P)) (lstP P) P.length (comL V t P).length X := by
  rw [canBL_len]
  exact needF_congr (fun _ _ => rfl) (fun s p hs hp => canD_is hs hp) (fun _ _ => rfl)
theorem canBL_rows (V : List VoiceV) (t : Int) (P : List PartV) : ∀ r ∈ canBL V t P, r.length = P.length := fun r hr => by
  obtain ⟨s, _, rfl⟩ := List.mem_map.1 hr
  exact canRow_len _ _ _ _
theorem canBL_le (V : List VoiceV) (t : Int) (P : List PartV) : (canBL V t P).length ≤ V.length := by rw [canBL_len, comL_len]; exact singers_len V t
def needV (V : List VoiceV) (t : Int) (P : List PartV) (set : Nat) : Int := needF (canC (comL V t P)) (lstP P) P.length (comL V t P).length (bitX set)
theorem lackV_max (V : List VoiceV) (t : Int) (P : List PartV) : lackV V P t = maxF (needV V t P) (2 ^ P.length) := rfl
theorem neededV_any {w : World} {P : List PartV} {pp cp : Option Addr} {pc cc : Nat} {V : List VoiceV} {t : Int} (hpar : Slc 5 partC w pp P.length pc P) (hR : RowsR boolC w cp (canBL V t P).length cc (canBL V t P)) (hP : P.length ≤ 12) (hV : V.length ≤ 200) (hN : ∀ x ∈ P, 0 ≤ x.least ∧ x.least ≤ 1000) (set : Nat) (hset : set < 4096) :
    Calls Tryz.prog 74 #[.slice cp (canBL V t P).length cc, .slice pp P.length pc, .int .i64 set] w fun e w' => e = .returned (.int .i64 (needV V t P set)) ∧ Ext w w' := by
  have := needed_any hpar hR hP (Nat.le_trans (canBL_le V t P) hV) (canBL_rows V t P) hN set hset
  rw [need_is] at this
  exact this
theorem needV_le {V : List VoiceV} {t : Int} {P : List PartV} (hP : P.length ≤ 12) (hV : V.length ≤ 200) (hN : ∀ x ∈ P, 0 ≤ x.least ∧ x.least ≤ 1000) (set : Nat) : -200 ≤ needV V t P set ∧ needV V t P set ≤ 12000 := by
  have h1 := needN_le hN (bitX set) P.length (Nat.le_refl _)
  have h2 := canN_le (canC (comL V t P)) P.length (bitX set) (comL V t P).length
  have h3 : (comL V t P).length ≤ V.length := by rw [comL_len]; exact singers_len V t
  unfold needV needF
  omega
set_option maxRecDepth 100000 in
set_option maxHeartbeats 1600000 in
theorem lackingOf_any {w : World} {vp pp : Option Addr} {vc pc : Nat} {V : List VoiceV} {P : List PartV} (h : VpM w vp vc V pp pc P) (t : Int) (hP : P.length ≤ 12) (hN : ∀ x ∈ P, 0 ≤ x.least ∧ x.least ≤ 1000) :
    Calls Tryz.prog 26 #[.slice vp V.length vc, .slice pp P.length pc, .int .i64 t] w fun e w' => e = .returned (.int .i64 (lackV V P t)) ∧ Ext w w' := by
  have hab := able_any h t
  have hlv := lackV_max V t P
  have hnV := h.nV
  obtain ⟨N, hNN⟩ : ∃ N, 2 ^ P.length = N := ⟨_, rfl⟩
  have hN4 : N ≤ 4096 := by rw [← hNN]; exact (Nat.pow_le_pow_right (by decide) hP : 2 ^ P.length ≤ 2 ^ 12)
  have hshw : IntKind.i64.wrap ((2 : Int) ^ P.length) = (N : Int) := by
    rw [show (2 : Int) ^ P.length = (N : Int) by rw [← hNN]; norm_cast]
    exact IntWalk.i64_in _ (by omega)
  have hnv := fun set => needV_le (V := V) (t := t) hP hnV hN set
  have hnd := fun u (hu : Ext w u) (cp : Option Addr) (cc : Nat) (hR : RowsR boolC u cp (canBL V t P).length cc (canBL V t P)) set hset => neededV_any (V := V) (t := t) (h.par.ext hu) hR hP hnV hN set hset
  rw [hNN] at hlv
  generalize lackV V P t = lv at *
  have hpr := fun u (hu : Ext w u) => h.par.ext hu
  generalize needV V t P = f at *
  replace hab := Lib.hid hab
  replace hnd := Lib.hid hnd
  replace hlv := Lib.hid hlv
  replace hNN := Lib.hid hNN
  replace hnv := Lib.hid hnv
  clear hpr hN h
  go_enter Tryz.func26, Tryz.ntmps26
  go_wp2_with (go_at_call 73; (with_reducible refine Calls.mono hab.out ?_); rintro e w1 ⟨cp, cc, rfl, hR, hb1⟩; replace hR := Lib.hid hR)
  go_loopw [17, 8] (fun v17 v8 wr => ∃ k : Nat, v17 = .int .i64 k ∧ k ≤ N ∧ v8 = .int .i64 (maxF f k) ∧ Ext w1 wr) (fun v17 _ _ => N - (intOf v17).toNat)
  case atStart => exact ⟨0, rfl, Nat.zero_le _, rfl, Ext.refl _⟩
  case round =>
    obtain ⟨k, rfl, hk, rfl, hE⟩ := hrel
    by_cases hkN : k < N
    · have hnx : maxF f (k + 1) = max (maxF f k) (f k) := rfl
      have hnd2 := hnd.out wr (hb1.trans hE) cp cc (hR.out.ext hE) k (by omega)
      have hkI : (k : Int) < N := by omega
      have hnb := hnv.out k
      generalize maxF f k = m at *
      generalize f k = fk at *
      replace hnx := Lib.hid hnx
      replace hnd2 := Lib.hid hnd2
      by_cases hlt : m < fk
      · have hmx : max m fk = fk := by omega
        replace hmx := Lib.hid hmx
        go_wp2_with (go_at_call 74; (with_reducible refine Calls.mono hnd2.out ?_); rintro e w3 ⟨rfl, hb3⟩)
        go_roundw
        case rel => exact ⟨k + 1, by go_num, by omega, by rw [hnx.out, hmx.out], hE.trans hb3⟩
        case measure => simp [intOf]; omega
      · have hmx : max m fk = m := by omega
        replace hmx := Lib.hid hmx
        go_wp2_with (go_at_call 74; (with_reducible refine Calls.mono hnd2.out ?_); rintro e w3 ⟨rfl, hb3⟩)
        go_roundw
        case rel => exact ⟨k + 1, by go_num, by omega, by rw [hnx.out, hmx.out], hE.trans hb3⟩
        case measure => simp [intOf]; omega
    · obtain rfl : k = N := by omega
      go_wp2
      go_ret
      exact ⟨ret_int hlv.out.symm, hb1.trans hE⟩

/-! ### the least set, by the document -/
def bestR (h : Nat → Bool) : Nat → Nat
  | 0 => 0
  | k + 1 => if h k = true ∧ (bestR h k = 0 ∨ betR k (bestR h k) = true) then k else bestR h k
theorem bestR_is {h : Nat → Bool} (h0 : h 0 = false) : ∀ k, k ≤ 8 → bestR h k = bestF h k
  | 0, _ => rfl
  | k + 1, hk => by
    have ih := bestR_is h0 k (by omega)
    simp only [bestR, bestF]
    rw [ih]
    rcases Nat.eq_zero_or_pos k with rfl | hkp
    · simp [h0]
    · have hl := bestF_lt h k hkp
      rw [bet_same k (bestF h k) (by omega) (by omega) (by omega)]
      by_cases hc : h k = true ∧ (bestF h k = 0 ∨ betR k (bestF h k) = true)
      · rw [if_pos hc, if_pos ⟨by omega, hc⟩]
      · rw [if_neg hc, if_neg fun e => hc e.2]
theorem bestR_lt {h : Nat → Bool} : ∀ k, 0 < k → bestR h k < k
  | 0, hk => absurd hk (Nat.lt_irrefl 0)
  | k + 1, _ => by
    simp only [bestR]
    split
    · omega
    · rcases Nat.eq_zero_or_pos k with rfl | h0
      · simp [bestR]
      · have := bestR_lt (h := h) k h0; omega
theorem lexN_in : ∀ (xs ys : List Nat), -1 ≤ lexN xs ys ∧ lexN xs ys ≤ 1
  | [], [] => by simp [lexN]
  | [], _ :: _ => by simp [lexN]
  | _ :: _, [] => by simp [lexN]
  | x :: xs, y :: ys => by
    simp only [lexN]
    split
    · omega
    · split
      · omega
      · exact lexN_in xs ys
theorem betR_or (s b : Nat) : decide (orF [cmpZ ((numL s).length : Int) ((numL b).length : Int), lexN (numL s) (numL b)] < 0) = betR s b := by
  unfold betR
  generalize (numL s).length = m
  generalize (numL b).length = n
  generalize lexN (numL s) (numL b) = l
  simp only [orF]
  rcases Nat.lt_trichotomy m n with h | h | h
  · have : cmpZ (m : Int) n = -1 := by unfold cmpZ; split <;> (try split) <;> omega
    rw [this]; simp [h]
  · subst h
    have : cmpZ (m : Int) m = 0 := by unfold cmpZ; simp
    rw [this]
    simp
    by_cases hl : l = 0
    · simp [hl]
    · simp [hl]
  · have : cmpZ (m : Int) n = 1 := by unfold cmpZ; split <;> (try split) <;> omega
    rw [this]
    have h1 : ¬ m < n := by omega
    have h2 : ¬ m = n := by omega
    simp [h1, h2]
end Go.Proofs.YthhbhjppljblnaaGreatDoor
