/- How many bits a small set has; lists of numbers compared. Conditions: sizes. How many singers are lacking, and which parts are short, by the program. Conditions: sizes; at most three parts. Plain mathematics: the least set of parts that lacks as many, by both texts. Conditions: sets below 8. -/
import Derived.Test.YtdehmioobkneiaaGreatDoorVsJ35
set_option linter.unusedSimpArgs false
set_option linter.unusedVariables false
namespace Go.Proofs.YtdehmioobkneiaaGreatDoor
open Go Go.RowKit

set_option maxRecDepth 100000 in
theorem ones64_any (set : Nat) (h : set < 8) (w : World) :
    Calls Tryz.prog 105 #[.int .u64 set] w fun e w' => e = .returned (.int .i64 (numL set).length) ∧ w = w' := by
  have hc : set = 0 ∨ set = 1 ∨ set = 2 ∨ set = 3 ∨ set = 4 ∨ set = 5 ∨ set = 6 ∨ set = 7 := by omega
  rcases hc with rfl | rfl | rfl | rfl | rfl | rfl | rfl | rfl
  all_goals
    go_enter Tryz.func105, Tryz.ntmps105
    go_wp2
    go_ret
    exact ⟨ret_int (by decide +kernel), rfl⟩
set_option maxRecDepth 100000 in
theorem ones_any (set : Nat) (h : set < 8) (w : World) :
    Calls Tryz.prog 61 #[.int .u64 set] w fun e w' => e = .returned (.int .i64 (numL set).length) ∧ w = w' := by
  have h1 := fun w => ones64_any set h w
  generalize (numL set).length = n at *
  replace h1 := Lib.hid h1
  go_enter Tryz.func61, Tryz.ntmps61
  go_wp2_with (go_at_call 105; (with_reducible refine Calls.mono (h1.out _) ?_); rintro e w1 ⟨rfl, rfl⟩)
  go_ret
  exact ⟨rfl, rfl⟩

/-- Lists of numbers, compared as Go does. -/
def lexN : List Nat → List Nat → Int
  | [], [] => 0
  | [], _ :: _ => -1
  | _ :: _, [] => 1
  | x :: xs, y :: ys => if x < y then -1 else if y < x then 1 else lexN xs ys
theorem lexN_drop : ∀ (k : Nat) (xs ys : List Nat), (∀ j, j < k → xs[j]? = ys[j]? ∧ j < xs.length) → lexN (xs.drop k) (ys.drop k) = lexN xs ys
  | 0, xs, ys, _ => by simp
  | k + 1, [], ys, h => absurd (h 0 (by omega)).2 (by simp)
  | k + 1, x :: xs, [], h => by have := (h 0 (by omega)).1; simp at this
  | k + 1, x :: xs, y :: ys, h => by
    have h0 : x = y := by simpa using (h 0 (by omega)).1
    have ih := lexN_drop k xs ys fun j hj => by simpa using h (j + 1) (by omega)
    simp only [List.drop_succ_cons, lexN]
    rw [ih, h0]; simp
theorem lexN_short {k : Nat} {xs ys : List Nat} (h : ∀ j, j < k → xs[j]? = ys[j]? ∧ j < xs.length) (hk : k < xs.length) (hy : ys.length ≤ k) : lexN xs ys = 1 := by
  rw [← lexN_drop k xs ys h, List.drop_eq_getElem_cons hk, List.drop_eq_nil_of_le hy]; rfl
theorem lexN_at {k x y : Nat} {xs ys : List Nat} (h : ∀ j, j < k → xs[j]? = ys[j]? ∧ j < xs.length) (hx : xs[k]? = some x) (hy : ys[k]? = some y) (hne : x ≠ y) : lexN xs ys = if x < y then -1 else 1 := by
  obtain ⟨h1, rfl⟩ := List.getElem?_eq_some_iff.1 hx
  obtain ⟨h2, rfl⟩ := List.getElem?_eq_some_iff.1 hy
  rw [← lexN_drop k xs ys h, List.drop_eq_getElem_cons h1, List.drop_eq_getElem_cons h2]
  simp only [lexN]
  by_cases hl : xs[k] < ys[k]
  · rw [if_pos hl, if_pos hl]
  · rw [if_neg hl, if_neg hl, if_pos (by omega)]
theorem lexN_all {xs ys : List Nat} (h : ∀ j, j < xs.length → xs[j]? = ys[j]? ∧ j < xs.length) : lexN xs ys = if xs.length < ys.length then -1 else 0 := by
  rw [← lexN_drop xs.length xs ys h, List.drop_length]
  by_cases hl : xs.length < ys.length
  · rw [if_pos hl, List.drop_eq_getElem_cons hl]; rfl
  · rw [if_neg hl, List.drop_eq_nil_of_le (by omega)]; rfl
set_option maxRecDepth 100000 in
set_option maxHeartbeats 1600000 in
theorem compareN_any (xs ys : List Nat) (p q : Option Addr) (c d : Nat) (w : World) (hx : Slc 1 natC w p xs.length c xs) (hy : Slc 1 natC w q ys.length d ys) (lx : xs.length ≤ 1000) (ly : ys.length ≤ 1000) (sx : ∀ x ∈ xs, x ≤ 1000) (sy : ∀ y ∈ ys, y ≤ 1000) :
    Calls Tryz.prog 62 #[.slice p xs.length c, .slice q ys.length d] w fun e w' => e = .returned (.int .i64 (lexN xs ys)) ∧ Ext w w' := by
  have hcm := fun a b w => vcmpI_any a b w
  obtain ⟨-, hxs⟩ := slcC hx
  obtain ⟨-, hys⟩ := slcC hy
  replace hcm := Lib.hid hcm
  replace sx := Lib.hid sx
  replace sy := Lib.hid sy
  go_enter Tryz.func62, Tryz.ntmps62
  go_wp2
  go_loopw [11] (fun v11 wr => ∃ k : Nat, v11 = .int .i64 k ∧ k ≤ xs.length ∧ (∀ j, j < k → xs[j]? = ys[j]? ∧ j < xs.length) ∧ Ext w wr) (fun v11 _ => xs.length - (intOf v11).toNat)
  case atStart => exact ⟨0, rfl, Nat.zero_le _, (fun j hj => absurd hj (Nat.not_lt_zero _)), Ext.refl _⟩
  case round =>
    obtain ⟨k, rfl, hk, hsame, hE⟩ := hrel
    by_cases hkl : k < xs.length
    · obtain ⟨x, hxk⟩ := getD_some (rfl : xs.length = xs.length) hkl
      rcases hxs with ⟨_, rfl⟩ | ⟨b, off, rfl, hb, hEl⟩
      · cases hxk
      have c0 := (hEl.ext hE hb) k x hxk 0 _ rfl
      simp only [Nat.mul_one, Nat.add_zero] at c0
      have hkI : (k : Int) < xs.length := by omega
      have hx1 := sx.out x (List.mem_of_getElem? hxk)
      by_cases hky : k < ys.length
      · obtain ⟨y, hyk⟩ := getD_some (rfl : ys.length = ys.length) hky
        rcases hys with ⟨_, rfl⟩ | ⟨b2, off2, rfl, hb2, hEl2⟩
        · cases hyk
        have c1 := (hEl2.ext hE hb2) k y hyk 0 _ rfl
        simp only [Nat.mul_one, Nat.add_zero] at c1
        have hkJ : (k : Int) < ys.length := by omega
        have hy1 := sy.out y (List.mem_of_getElem? hyk)
        by_cases hxy : x = y
        · subst hxy
          have hz : cmpZ (x : Int) x = 0 := by unfold cmpZ; simp
          have hsm : ∀ j, j < k + 1 → xs[j]? = ys[j]? ∧ j < xs.length := fun j hj => by
            rcases Nat.lt_or_ge j k with h1 | h1
            · exact hsame j h1
            · obtain rfl : j = k := by omega
              exact ⟨hxk.trans hyk.symm, hkl⟩
          replace hsm := Lib.hid hsm
          replace hz := Lib.hid hz
          replace hxk := Lib.hid hxk
          replace hyk := Lib.hid hyk
          clear hsame hEl hEl2
          go_upto_region 8 with (go_at_call 55; (with_reducible refine Calls.mono (hcm.out _ _ _) ?_); rintro e w3 ⟨rfl, hb3⟩; rw [hz.out]; have hE3 := hE.trans hb3)
          go_wp2
          go_roundw
          case rel => exact ⟨k + 1, by go_num, by omega, hsm.out, hE3⟩
          case measure => simp [intOf]; omega
        · have hcat := lexN_at hsame hxk hyk hxy
          have hz : cmpZ (x : Int) y = if x < y then -1 else 1 := by
            unfold cmpZ
            by_cases hl : x < y
            · rw [if_pos hl]; simp [hl]
            · rw [if_neg hl]
              have : (y : Int) < x := by omega
              simp [this]; omega
          rw [← hcat] at hz
          have hnz : lexN xs ys ≠ 0 := by rw [hcat]; split <;> decide
          obtain ⟨v, hv⟩ : ∃ v, lexN xs ys = v := ⟨_, rfl⟩
          rw [hv] at hz hnz
          replace hz := Lib.hid hz
          replace hv := Lib.hid hv
          replace hxk := Lib.hid hxk
          replace hyk := Lib.hid hyk
          clear hsame hEl hEl2 hcat
          go_upto_region 8 with (go_at_call 55; (with_reducible refine Calls.mono (hcm.out _ _ _) ?_); rintro e w3 ⟨rfl, hb3⟩; rw [hz.out]; have hE3 := hE.trans hb3)
          go_wp2
          go_ret
          exact ⟨ret_int hv.out.symm, hE3⟩
      · have hsh := lexN_short hsame hkl (by omega)
        replace hsh := Lib.hid hsh
        replace hxk := Lib.hid hxk
        clear hsame hEl
        go_wp2
        go_ret
        exact ⟨ret_int hsh.out.symm, hE⟩
    · obtain rfl : k = xs.length := by omega
      have hal := lexN_all hsame
      replace hal := Lib.hid hal
      clear hsame
      by_cases hl : xs.length < ys.length
      · go_wp2
        go_ret
        exact ⟨ret_int (by rw [hal.out, if_pos hl]), hE⟩
      · go_wp2
        go_ret
        exact ⟨ret_int (by rw [hal.out, if_neg hl]), hE⟩
end Go.Proofs.YtdehmioobkneiaaGreatDoor

namespace Go.Proofs.YtdehmioobkneiaaGreatDoor
open Go Go.RowKit

/-- What is wrong with a question for a moment. -/
def errL (V : List VoiceV) (P : List PartV) (t : Int) : Int := if bothF V P = 0 then (if momB t then 0 else 1) else bothF V P
theorem errL_zero {V : List VoiceV} {P : List PartV} {t : Int} : errL V P t = 0 ↔ voicesF V = 0 ∧ partsF P = 0 ∧ momB t = true := by
  unfold errL bothF
  by_cases h1 : voicesF V = 0
  · rw [if_pos h1]
    by_cases h2 : partsF P = 0
    · rw [if_pos h2]
      cases momB t <;> simp [h1, h2]
    · rw [if_neg h2]
      exact ⟨fun e => absurd e h2, fun e => absurd e.2.1 h2⟩
  · rw [if_neg h1, if_neg h1]
    exact ⟨fun e => absurd e h1, fun e => absurd e.1 h1⟩
theorem parts_need {P : List PartV} (h : partsF P = 0) : P.length ≤ 12 ∧ ∀ x ∈ P, 0 ≤ x.least ∧ x.least ≤ 1000 := by
  obtain ⟨h1, h2⟩ := partsF_right h
  refine ⟨h1, fun x hx => ?_⟩
  have h3 := (h2 x hx).2
  unfold rightP at h3
  simp only [Bool.and_eq_true] at h3
  have h4 := inB_iff.1 h3.1.2
  have h5 := of_decide_eq_true h3.2
  omega
/-- How many singers are lacking at a moment. -/
def lackV (V : List VoiceV) (P : List PartV) (t : Int) : Int := lackF (canC (comL V t P)) (lstP P) P.length (comL V t P).length
section
variable {w : World} {vp pp : Option Addr} {vc pc : Nat} {V : List VoiceV} {P : List PartV}
theorem mom_call (t : Int) : ∀ u g ty cap, Blk u g ty #[.int .i64 t] → Calls Tryz.prog 58 #[.slice (some ⟨g, 0, none⟩) 1 cap] u fun e w' => e = .returned (.int .i64 (if momB t then 0 else 1)) ∧ Ext u w' := fun u g ty cap hB => momentFault1_any t g ty cap u hB
end
end Go.Proofs.YtdehmioobkneiaaGreatDoor

namespace Go.Proofs.YtdehmioobkneiaaGreatDoor

/-- Whether a set comes ahead of another one, as the program and as the document says. -/
def betB (s b : Nat) : Bool := decide ((numL s).length < (numL b).length) || (decide ((numL s).length = (numL b).length) && decide (lexN (numL s) (numL b) ≤ 0))
/-- The least set with a property among those ahead of k (none: 0). -/
def bestF (h : Nat → Bool) : Nat → Nat
  | 0 => 0
  | k + 1 => if k ≠ 0 ∧ h k = true ∧ (bestF h k = 0 ∨ betB k (bestF h k) = true) then k else bestF h k
theorem bestF_lt (h : Nat → Bool) : ∀ k, 0 < k → bestF h k < k
  | 0, hk => absurd hk (Nat.lt_irrefl 0)
  | k + 1, _ => by
    simp only [bestF]
    split
    · omega
    · rcases Nat.eq_zero_or_pos k with rfl | h0
      · simp [bestF]
      · have := bestF_lt h k h0; omega
theorem bestF_one (h : Nat → Bool) : bestF h 1 = 0 := by simp [bestF]
/-- The parts of a number, by their names. -/
def namesF (P : List PartV) (set : Nat) : List ByteArray := (numL set).map fun i => (P.getD i default).name
section
variable (can : Nat → Nat → Bool) (lst : Nat → Nat) (n m : Nat)
def hitF (set : Nat) : Bool := needF can lst n m (bitX set) == lackF can lst n m
/-- The least set that lacks as many as are lacking. -/
def shortF : Nat := bestF (hitF can lst n m) (2 ^ n)
end
end Go.Proofs.YtdehmioobkneiaaGreatDoor
