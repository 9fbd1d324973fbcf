/- What is wrong with parts, by both texts. Conditions: sizes. -/
import Derived.Test.YtdehmioobkneiaaGreatDoorVsJ9
set_option linter.unusedSimpArgs false
set_option linter.unusedVariables false
namespace Go.Proofs.YtdehmioobkneiaaGreatDoor
open Go Go.RowKit

def rightP (x : PartV) : Bool := rightR x.lo x.hi && inB x.least 0 x.most && decide (x.most ≤ 100)
def chkPart (xs : List PartV) (i : Nat) : Int :=
  if keyB (atL default xs i).name then (if nameIn xs i (atL default xs i).name then 6 else if rightP (atL default xs i) then 0 else 1) else 5
def partsF (xs : List PartV) : Int := if 12 < xs.length then 2 else scanF xs.length (chkPart xs)
def PartV.Small (x : PartV) : Prop := x.name.size ≤ 1000 ∧ (-1000 ≤ x.lo ∧ x.lo ≤ 1000) ∧ (-1000 ≤ x.hi ∧ x.hi ≤ 1000) ∧ (-1000 ≤ x.least ∧ x.least ≤ 1000) ∧ (-1000 ≤ x.most ∧ x.most ≤ 1000)

theorem partsF_right {xs : List PartV} (h : partsF xs = 0) : xs.length ≤ 12 ∧ ∀ x ∈ xs, keyB x.name = true ∧ rightP x = true := by
  unfold partsF at h
  have hl : xs.length ≤ 12 := by
    rcases Nat.lt_or_ge 12 xs.length with h1 | h1
    · rw [if_pos h1] at h; cases h
    · exact h1
  rw [if_neg (by omega)] at h
  have hz : ∀ k, k ≤ xs.length → Zeros (chkPart xs) k := by
    intro k
    induction k with
    | zero => intro _ j hj; omega
    | succ k ih =>
      intro hk
      have hz := ih (by omega)
      refine hz.succ ?_
      rcases (inferInstance : Decidable (chkPart xs k = 0)) with hn | hy
      · have := scan_at (n := xs.length) k (by omega) hz hn
        rw [h] at this
        exact this.symm
      · exact hy
  refine ⟨hl, fun x hx => ?_⟩
  obtain ⟨i, hi, e⟩ := List.getElem_of_mem hx
  have h0 := hz xs.length (Nat.le_refl _) i hi
  unfold chkPart at h0
  rw [atL_of (show xs[i]? = some x by rw [List.getElem?_eq_getElem hi, e])] at h0
  cases hk : keyB x.name with
  | false => rw [hk] at h0; cases h0
  | true =>
    rw [hk] at h0
    cases hn : nameIn xs i x.name with
    | true => rw [hn] at h0; cases h0
    | false =>
      rw [hn] at h0
      cases hr : rightP x with
      | false => rw [hr] at h0; cases h0
      | true => exact ⟨rfl, rfl⟩

set_option maxRecDepth 100000 in
set_option maxHeartbeats 1600000 in
theorem checkParts_any (p : Option Addr) (n c : Nat) (xs : List PartV) (w : World) (h : Sl 5 partC w p n xs) (hs : ∀ x ∈ xs, x.Small) (hn : n ≤ 1000) (hnc : n ≤ c) :
    Calls Tryz.prog 45 #[.slice p n c] w fun e w' => e = .returned (.int .i64 (partsF xs)) ∧ Ext w w' := by
  have hl := h.1
  have hF : partsF xs = if 12 < n then 2 else scanF n (chkPart xs) := by unfold partsF; rw [hl]
  replace hF := Lib.hid hF
  by_cases h12 : 12 < n
  · clear h hl hs
    go_enter Tryz.func45, Tryz.ntmps45
    go_wp2
    go_ret
    exact ⟨ret_int (by rw [hF.out, if_pos h12]), Ext.refl _⟩
  by_cases h0 : n = 0
  · subst h0
    clear h hs
    go_enter Tryz.func45, Tryz.ntmps45
    go_wp2
    refine wp_loop_rounds 1 ?_
    rw [rounds_succ]
    go_wp2
    go_ret
    exact ⟨ret_int (by rw [hF.out]; rfl), Ext.refl _⟩
  · obtain ⟨b, off, rfl, hb, hE⟩ := h.2.2 h0
    clear h
    replace hl := Lib.hid hl
    replace h0 := Lib.hid h0
    have hd : decide (12 < (n : Int)) = false := by simp; omega
    go_enter Tryz.func45, Tryz.ntmps45
    go_wp2
    go_loopw [10] (fun i w' => ∃ k : Nat, k ≤ n ∧ i = .int .i64 k ∧ Zeros (chkPart xs) k ∧ Ext w w') (fun i _ => n - (intOf i).toNat)
    case atStart => exact ⟨0, Nat.zero_le _, rfl, (fun j hj => by omega), Ext.refl _⟩
    case round =>
      obtain ⟨k, hk, rfl, hz, he⟩ := hrel
      have hbw := Nat.lt_of_lt_of_le hb he.size
      by_cases hlt : k < n
      · obtain ⟨x, hx⟩ := getD_some hl.out hlt
        have hxm : x.Small := hs x (List.mem_of_getElem? hx)
        obtain ⟨s1, ⟨s2, s3⟩, ⟨s4, s5⟩, ⟨s6, s7⟩, ⟨s8, s9⟩⟩ := hxm
        obtain ⟨c0, c1, c2, c3, c4⟩ := (hE.ext he hb).part hx
        have hxl : n ≤ xs.length := by rw [hl.out]; exact Nat.le_refl _
        have hxt : xs.length ≤ 1000 := by rw [hl.out]; omega
        have hv : chkPart xs k = if keyB x.name then (if nameIn xs k x.name then 6 else if rightP x then 0 else 1) else 5 := by
          unfold chkPart; rw [atL_of hx]
        have hr : rightP x = (rightR x.lo x.hi && inB x.least 0 x.most && decide (x.most ≤ 100)) := rfl
        replace hx := Lib.hid hx
        replace hv := Lib.hid hv
        have hX := Blk.new' (w := wr) (t := 46) (cs := #[.string x.name, .int .i64 x.lo, .int .i64 x.hi, .int .i64 x.least, .int .i64 x.most]) rfl
        replace hX := Lib.hid hX
        have hE' := Lib.hid (hE.ext he hb)
        have hg := fun W (hW : Ext (wr.alloc (.cells #[.string x.name, .int .i64 x.lo, .int .i64 x.hi, .int .i64 x.least, .int .i64 x.most] 46)) W) => checkHas x wr.heap.size b off k c xs W (hX.out.ext hW) (by omega) hxt (Nat.lt_of_lt_of_le hbw (Nat.le_trans (by simp) hW.size)) (hE'.out.ext ((Ext.alloc (Ext.refl _) _).trans hW) hbw)
        clear hs hxl hxt
        cases hk1 : keyB x.name
        · go_wp2_with (go_at_call 80; (with_reducible refine Calls.mono (isKey_is hk1 (by omega) _) ?_); rintro e w1 ⟨rfl, hb1⟩)
          go_ret
          exact ⟨ret_int (by rw [hF.out, if_neg h12]; exact scan_is hz hlt (by rw [hv.out, hk1]; rfl) (by decide)), (he.alloc _).trans hb1⟩
        · cases hk2 : nameIn xs k x.name
          case' false => cases hk3 : rightR x.lo x.hi
          case' false.true => cases hk4 : inB x.least 0 x.most
          case' false.true.true => cases hk5 : decide (x.most ≤ 100)
          all_goals
            rw [hk2] at hg
            try simp only [*, Bool.and_true, Bool.and_false, Bool.false_and, Bool.true_and, Bool.and_self] at hr
            replace hg := Lib.hid hg
            replace hr := Lib.hid hr
          all_goals
            try have hk4' : outB x.least 0 x.most = !(inB x.least 0 x.most) := outB_inB _ _ _
            try rw [hk4] at hk4'
            try have hk5' : decide (100 < x.most) = !decide (x.most ≤ 100) := by simp
            try rw [hk5] at hk5'
            try have hk5p : x.most ≤ 100 := by simpa using hk5
            try have hk5q : 100 < x.most := by simpa using hk5
            try simp only [Bool.not_true, Bool.not_false] at *
            go_wp2_with (first
              | (go_at_call 80; (with_reducible refine Calls.mono (isKey_is hk1 (by omega) _) ?_); rintro e w1 ⟨rfl, hb1⟩; obtain ⟨p1, q1⟩ := (hX.out.ext hb1).walk; have lt1 := (hX.out.ext hb1).lt)
              | (go_at_call 71; (with_reducible refine Calls.mono (hg.out _ (by exact hb1)) ?_); rintro e w2 ⟨rfl, hb2⟩; clear p1 q1; obtain ⟨p2, q2⟩ := ((hX.out.ext hb1).ext hb2).walk; have lt2 := ((hX.out.ext hb1).ext hb2).lt)
              | (go_at_call 48; (with_reducible refine Calls.mono (isRight_any x.lo x.hi _) ?_); rintro e w3 ⟨rfl, hb3⟩; clear p2 q2; obtain ⟨p3, q3⟩ := (((hX.out.ext hb1).ext hb2).ext hb3).walk)
              | (go_at_call 42; (with_reducible refine Calls.mono (outside_any _ _ _ _) ?_); rintro e w4 ⟨rfl, rfl⟩))
          all_goals
            first
              | (go_ret
                 exact ⟨ret_int (by rw [hF.out, if_neg h12]; exact scan_is hz hlt (by rw [hv.out, hk1, hk2]; simp [hr.out]) (by decide)), by first | exact ((((he.alloc _).trans hb1).trans hb2).trans hb3) | exact (((he.alloc _).trans hb1).trans hb2)⟩)
              | (go_roundw
                 case rel => exact ⟨k + 1, by omega, by go_num, hz.succ (by rw [hv.out, hk1, hk2]; simp [hr.out]), ((((he.alloc _).trans hb1).trans hb2).trans hb3)⟩
                 case measure => simp [intOf]; omega)
      · go_wp2
        go_ret
        exact ⟨ret_int (by rw [hF.out, if_neg h12]; exact (scan_zero (by rw [show n = k by omega]; exact hz)).symm), he⟩

set_option maxRecDepth 100000 in
set_option maxHeartbeats 1600000 in
theorem faultParts_any (p : Option Addr) (n c : Nat) (xs : List PartV) (w : World) (h : Sl 5 partC w p n xs) (hs : ∀ x ∈ xs, x.Small) (hn : n ≤ 1000) (hnc : n ≤ c) :
    Calls Tryz.prog 26 #[.slice p n c] w fun e w' => e = .returned (.int .i64 (partsF xs)) ∧ Ext w w' := by
  have hl := h.1
  have hF : partsF xs = if 12 < n then 2 else scanF n (chkPart xs) := by unfold partsF; rw [hl]
  replace hF := Lib.hid hF
  by_cases h12 : 12 < n
  · clear h hl hs
    go_enter Tryz.func26, Tryz.ntmps26
    go_wp2
    go_ret
    exact ⟨ret_int (by rw [hF.out, if_pos h12]), Ext.refl _⟩
  by_cases h0 : n = 0
  · subst h0
    clear h hs
    go_enter Tryz.func26, Tryz.ntmps26
    go_wp2
    refine wp_loop_rounds 1 ?_
    rw [rounds_succ]
    go_wp2
    go_ret
    exact ⟨ret_int (by rw [hF.out]; rfl), Ext.refl _⟩
  · obtain ⟨b, off, rfl, hb, hE⟩ := h.2.2 h0
    clear h
    replace hl := Lib.hid hl
    replace h0 := Lib.hid h0
    have hd : decide (12 < (n : Int)) = false := by simp; omega
    go_enter Tryz.func26, Tryz.ntmps26
    go_wp2
    go_loopw [10] (fun i w' => ∃ k : Nat, k ≤ n ∧ i = .int .i64 k ∧ Zeros (chkPart xs) k ∧ Ext w w') (fun i _ => n - (intOf i).toNat)
    case atStart => exact ⟨0, Nat.zero_le _, rfl, (fun j hj => by omega), Ext.refl _⟩
    case round =>
      obtain ⟨k, hk, rfl, hz, he⟩ := hrel
      have hbw := Nat.lt_of_lt_of_le hb he.size
      by_cases hlt : k < n
      · obtain ⟨x, hx⟩ := getD_some hl.out hlt
        have hxm : x.Small := hs x (List.mem_of_getElem? hx)
        obtain ⟨s1, ⟨s2, s3⟩, ⟨s4, s5⟩, ⟨s6, s7⟩, ⟨s8, s9⟩⟩ := hxm
        obtain ⟨c0, c1, c2, c3, c4⟩ := (hE.ext he hb).part hx
        have hxl : n ≤ xs.length := by rw [hl.out]; exact Nat.le_refl _
        have hxt : xs.length ≤ 1000 := by rw [hl.out]; omega
        have hv : chkPart xs k = if keyB x.name then (if nameIn xs k x.name then 6 else if rightP x then 0 else 1) else 5 := by
          unfold chkPart; rw [atL_of hx]
        have hr : rightP x = (rightR x.lo x.hi && inB x.least 0 x.most && decide (x.most ≤ 100)) := rfl
        replace hx := Lib.hid hx
        replace hv := Lib.hid hv
        have hX := Blk.new' (w := wr) (t := 46) (cs := #[.string x.name, .int .i64 x.lo, .int .i64 x.hi, .int .i64 x.least, .int .i64 x.most]) rfl
        replace hX := Lib.hid hX
        have hE' := Lib.hid (hE.ext he hb)
        have hg := fun W (hW : Ext (wr.alloc (.cells #[.string x.name, .int .i64 x.lo, .int .i64 x.hi, .int .i64 x.least, .int .i64 x.most] 46)) W) => faultHas x wr.heap.size b off k c xs W (hX.out.ext hW) (by omega) hxt (Nat.lt_of_lt_of_le hbw (Nat.le_trans (by simp) hW.size)) (hE'.out.ext ((Ext.alloc (Ext.refl _) _).trans hW) hbw)
        clear hs hxl hxt
        cases hk1 : keyB x.name
        · go_wp2_with (go_at_call 67; (with_reducible refine Calls.mono (key_is hk1 (by omega) _) ?_); rintro e w1 ⟨rfl, hb1⟩)
          go_ret
          exact ⟨ret_int (by rw [hF.out, if_neg h12]; exact scan_is hz hlt (by rw [hv.out, hk1]; rfl) (by decide)), (he.alloc _).trans hb1⟩
        · cases hk2 : nameIn xs k x.name
          case' false => cases hk3 : rightR x.lo x.hi
          case' false.true => cases hk4 : inB x.least 0 x.most
          case' false.true.true => cases hk5 : decide (x.most ≤ 100)
          all_goals
            rw [hk2] at hg
            try simp only [*, Bool.and_true, Bool.and_false, Bool.false_and, Bool.true_and, Bool.and_self] at hr
            replace hg := Lib.hid hg
            replace hr := Lib.hid hr
          all_goals
            try have hk4' : outB x.least 0 x.most = !(inB x.least 0 x.most) := outB_inB _ _ _
            try rw [hk4] at hk4'
            try have hk5' : decide (100 < x.most) = !decide (x.most ≤ 100) := by simp
            try rw [hk5] at hk5'
            try have hk5p : x.most ≤ 100 := by simpa using hk5
            try have hk5q : 100 < x.most := by simpa using hk5
            try simp only [Bool.not_true, Bool.not_false] at *
            go_wp2_with (first
              | (go_at_call 67; (with_reducible refine Calls.mono (key_is hk1 (by omega) _) ?_); rintro e w1 ⟨rfl, hb1⟩; obtain ⟨p1, q1⟩ := (hX.out.ext hb1).walk; have lt1 := (hX.out.ext hb1).lt)
              | (go_at_call 71; (with_reducible refine Calls.mono (hg.out _ (by exact hb1)) ?_); rintro e w2 ⟨rfl, hb2⟩; clear p1 q1; obtain ⟨p2, q2⟩ := ((hX.out.ext hb1).ext hb2).walk; have lt2 := ((hX.out.ext hb1).ext hb2).lt)
              | (go_at_call 69; (with_reducible refine Calls.mono (rangeRight_any x.lo x.hi _) ?_); rintro e w3 ⟨rfl, hb3⟩; clear p2 q2; obtain ⟨p3, q3⟩ := (((hX.out.ext hb1).ext hb2).ext hb3).walk)
              | (go_at_call 73; (with_reducible refine Calls.mono (in_any _ _ _ _) ?_); rintro e w4 ⟨rfl, rfl⟩))
          all_goals
            first
              | (go_ret
                 exact ⟨ret_int (by rw [hF.out, if_neg h12]; exact scan_is hz hlt (by rw [hv.out, hk1, hk2]; simp [hr.out]) (by decide)), by first | exact ((((he.alloc _).trans hb1).trans hb2).trans hb3) | exact (((he.alloc _).trans hb1).trans hb2)⟩)
              | (go_roundw
                 case rel => exact ⟨k + 1, by omega, by go_num, hz.succ (by rw [hv.out, hk1, hk2]; simp [hr.out]), ((((he.alloc _).trans hb1).trans hb2).trans hb3)⟩
                 case measure => simp [intOf]; omega)
      · go_wp2
        go_ret
        exact ⟨ret_int (by rw [hF.out, if_neg h12]; exact (scan_zero (by rw [show n = k by omega]; exact hz)).symm), he⟩

end Go.Proofs.YtdehmioobkneiaaGreatDoor
