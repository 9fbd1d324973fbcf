/- What is wrong with parts, by both texts. Conditions: sizes. Rows of numbers: read, and rows of the call's own that grow and are changed in place. Conditions: as each theorem says. A row of the call's own whose elements are rows of the call's own. Conditions: as each theorem says. Who is paid for, by tour. Conditions: sizes. -/
import Derived.Test.YtdehmioobkneiaaGreatDoorTdJ5
import Derived.Test.YtdehmioobkneiaaGreatDoorTdJ2
import Derived.Test.YtdehmioobkneiaaGreatDoorTdJ3
import Derived.WalkLawsBesides
import Derived.Outline
set_option linter.unusedSimpArgs false
set_option linter.unusedVariables false
namespace Go.Proofs.YtdehmioobkneiaaGreatDoor
open Go Go.RowKit
def rightP (x : PartV) : Bool := rightR x.lo x.hi && inB x.least 0 x.most && decide (x.most ≤ 100)
def chkPart (xs : List PartV) (i : Nat) : Int :=
  if keyB (atL default xs i).name then (if nameIn xs i (atL default xs i).name then 6 else if rightP (atL default xs i) then 0 else 1) else 5
def partsF (xs : List PartV) : Int := if 12 < xs.length then 2 else scanF xs.length (chkPart xs)
def PartV.Small (x : PartV) : Prop := x.name.size ≤ 1000 ∧ (-1000 ≤ x.lo ∧ x.lo ≤ 1000) ∧ (-1000 ≤ x.hi ∧ x.hi ≤ 1000) ∧ (-1000 ≤ x.least ∧ x.least ≤ 1000) ∧ (-1000 ≤ x.most ∧ x.most ≤ 1000)
theorem partsF_right {xs : List PartV} (h : partsF xs = 0) : xs.length ≤ 12 ∧ ∀ x ∈ xs, keyB x.name = true ∧ rightP x = true := by
  unfold partsF at h
  have hl : xs.length ≤ 12 := by
    rcases Nat.lt_or_ge 12 xs.length with h1 | h1
    · rw [if_pos h1] at h; cases h
    · exact h1
  rw [if_neg (by omega)] at h
  have hz : ∀ k, k ≤ xs.length → Zeros (chkPart xs) k := by
    intro k
    induction k with
    | zero => intro _ j hj; omega
    | succ k ih =>
      intro hk
      have hz := ih (by omega)
      refine hz.succ ?_
      rcases (inferInstance : Decidable (chkPart xs k = 0)) with hn | hy
      · have := scan_at (n := xs.length) k (by omega) hz hn
        rw [h] at this
        exact this.symm
      · exact hy
  refine ⟨hl, fun x hx => ?_⟩
  obtain ⟨i, hi, e⟩ := List.getElem_of_mem hx
  have h0 := hz xs.length (Nat.le_refl _) i hi
  unfold chkPart at h0
  rw [atL_of (show xs[i]? = some x by rw [List.getElem?_eq_getElem hi, e])] at h0
  cases hk : keyB x.name with
  | false => rw [hk] at h0; cases h0
  | true =>
    rw [hk] at h0
    cases hn : nameIn xs i x.name with
    | true => rw [hn] at h0; cases h0
    | false =>
      rw [hn] at h0
      cases hr : rightP x with
      | false => rw [hr] at h0; cases h0
      | true => exact ⟨rfl, rfl⟩
set_option maxRecDepth 100000 in
set_option maxHeartbeats 1600000 in
theorem checkParts_any (p : Option Addr) (n c : Nat) (xs : List PartV) (w : World) (h : Sl 5 partC w p n xs) (hs : ∀ x ∈ xs, x.Small) (hn : n ≤ 1000) (hnc : n ≤ c) :
    Calls Tryz.prog 45 #[.slice p n c] w fun e w' => e = .returned (.int .i64 (partsF xs)) ∧ Ext w w' := by
  have hl := h.1
  have hF : partsF xs = if 12 < n then 2 else scanF n (chkPart xs) := by unfold partsF; rw [hl]
  replace hF := Lib.hid hF
  by_cases h12 : 12 < n
  · clear h hl hs
    go_enter Tryz.func45, Tryz.ntmps45
    go_wp2
    go_ret
    exact ⟨ret_int (by rw [hF.out, if_pos h12]), Ext.refl _⟩
  by_cases h0 : n = 0
  · subst h0
    clear h hs
    go_enter Tryz.func45, Tryz.ntmps45
    go_wp2
    refine wp_loop_rounds 1 ?_
    rw [rounds_succ]
    go_wp2
    go_ret
    exact ⟨ret_int (by rw [hF.out]; rfl), Ext.refl _⟩
  · obtain ⟨b, off, rfl, hb, hE⟩ := h.2.2 h0
    clear h; replace hl := Lib.hid hl; replace h0 := Lib.hid h0
    have hd : decide (12 < (n : Int)) = false := by simp; omega
    go_enter Tryz.func45, Tryz.ntmps45
    go_wp2
    go_loopw [10] (fun i w' => ∃ k : Nat, k ≤ n ∧ i = .int .i64 k ∧ Zeros (chkPart xs) k ∧ Ext w w') (fun i _ => n - (intOf i).toNat)
    case atStart => exact ⟨0, Nat.zero_le _, rfl, (fun j hj => by omega), Ext.refl _⟩
    case round =>
      obtain ⟨k, hk, rfl, hz, he⟩ := hrel
      have hbw := Nat.lt_of_lt_of_le hb he.size
      by_cases hlt : k < n
      · obtain ⟨x, hx⟩ := getD_some hl.out hlt
        have hxm : x.Small := hs x (List.mem_of_getElem? hx)
        obtain ⟨s1, ⟨s2, s3⟩, ⟨s4, s5⟩, ⟨s6, s7⟩, ⟨s8, s9⟩⟩ := hxm
        obtain ⟨c0, c1, c2, c3, c4⟩ := (hE.ext he hb).part hx
        have hxl : n ≤ xs.length := by rw [hl.out]; exact Nat.le_refl _
        have hxt : xs.length ≤ 1000 := by rw [hl.out]; omega
        have hv : chkPart xs k = if keyB x.name then (if nameIn xs k x.name then 6 else if rightP x then 0 else 1) else 5 := by
          unfold chkPart; rw [atL_of hx]
        have hr : rightP x = (rightR x.lo x.hi && inB x.least 0 x.most && decide (x.most ≤ 100)) := rfl
        replace hx := Lib.hid hx; replace hv := Lib.hid hv
        have hX := Blk.new' (w := wr) (t := 46) (cs := #[.string x.name, .int .i64 x.lo, .int .i64 x.hi, .int .i64 x.least, .int .i64 x.most]) rfl
        replace hX := Lib.hid hX
        have hE' := Lib.hid (hE.ext he hb)
        have hg := fun W (hW : Ext (wr.alloc (.cells #[.string x.name, .int .i64 x.lo, .int .i64 x.hi, .int .i64 x.least, .int .i64 x.most] 46)) W) => checkHas x wr.heap.size b off k c xs W (hX.out.ext hW) (by omega) hxt (Nat.lt_of_lt_of_le hbw (Nat.le_trans (by simp) hW.size)) (hE'.out.ext ((Ext.alloc (Ext.refl _) _).trans hW) hbw)
        clear hs hxl hxt
        cases hk1 : keyB x.name
        · go_wp2_with (go_at_call 80; (with_reducible refine Calls.mono (isKey_is hk1 (by omega) _) ?_); rintro e w1 ⟨rfl, hb1⟩)
          go_ret
          exact ⟨ret_int (by rw [hF.out, if_neg h12]; exact scan_is hz hlt (by rw [hv.out, hk1]; rfl) (by decide)), (he.alloc _).trans hb1⟩
        · cases hk2 : nameIn xs k x.name
          case' false => cases hk3 : rightR x.lo x.hi
          case' false.true => cases hk4 : inB x.least 0 x.most
          case' false.true.true => cases hk5 : decide (x.most ≤ 100)
          all_goals
            rw [hk2] at hg
            try simp only [*, Bool.and_true, Bool.and_false, Bool.false_and, Bool.true_and, Bool.and_self] at hr
            replace hg := Lib.hid hg; replace hr := Lib.hid hr
          all_goals
            try have hk4' : outB x.least 0 x.most = !(inB x.least 0 x.most) := outB_inB _ _ _
            try rw [hk4] at hk4'
            try have hk5' : decide (100 < x.most) = !decide (x.most ≤ 100) := by simp
            try rw [hk5] at hk5'
            try have hk5p : x.most ≤ 100 := by simpa using hk5
            try have hk5q : 100 < x.most := by simpa using hk5
            try simp only [Bool.not_true, Bool.not_false] at *
            go_wp2_with (first
              | (go_at_call 80; (with_reducible refine Calls.mono (isKey_is hk1 (by omega) _) ?_); rintro e w1 ⟨rfl, hb1⟩; obtain ⟨p1, q1⟩ := (hX.out.ext hb1).walk; have lt1 := (hX.out.ext hb1).lt)
              | (go_at_call 71; (with_reducible refine Calls.mono (hg.out _ (by exact hb1)) ?_); rintro e w2 ⟨rfl, hb2⟩; clear p1 q1; obtain ⟨p2, q2⟩ := ((hX.out.ext hb1).ext hb2).walk; have lt2 := ((hX.out.ext hb1).ext hb2).lt)
              | (go_at_call 48; (with_reducible refine Calls.mono (isRight_any x.lo x.hi _) ?_); rintro e w3 ⟨rfl, hb3⟩; clear p2 q2; obtain ⟨p3, q3⟩ := (((hX.out.ext hb1).ext hb2).ext hb3).walk)
              | (go_at_call 42; (with_reducible refine Calls.mono (outside_any _ _ _ _) ?_); rintro e w4 ⟨rfl, rfl⟩))
          all_goals
            first
              | (go_ret
                 exact ⟨ret_int (by rw [hF.out, if_neg h12]; exact scan_is hz hlt (by rw [hv.out, hk1, hk2]; simp [hr.out]) (by decide)), by first | exact ((((he.alloc _).trans hb1).trans hb2).trans hb3) | exact (((he.alloc _).trans hb1).trans hb2)⟩)
              | (go_roundw
                 case rel => exact ⟨k + 1, by omega, by go_num, hz.succ (by rw [hv.out, hk1, hk2]; simp [hr.out]), ((((he.alloc _).trans hb1).trans hb2).trans hb3)⟩
                 case measure => simp [intOf]; omega)
      · go_wp2
        go_ret
        exact ⟨ret_int (by rw [hF.out, if_neg h12]; exact (scan_zero (by rw [show n = k by omega]; exact hz)).symm), he⟩
set_option maxRecDepth 100000 in
set_option maxHeartbeats 1600000 in
theorem faultParts_any (p : Option Addr) (n c : Nat) (xs : List PartV) (w : World) (h : Sl 5 partC w p n xs) (hs : ∀ x ∈ xs, x.Small) (hn : n ≤ 1000) (hnc : n ≤ c) :
    Calls Tryz.prog 26 #[.slice p n c] w fun e w' => e = .returned (.int .i64 (partsF xs)) ∧ Ext w w' := by
  have hl := h.1
  have hF : partsF xs = if 12 < n then 2 else scanF n (chkPart xs) := by unfold partsF; rw [hl]
  replace hF := Lib.hid hF
  by_cases h12 : 12 < n
  · clear h hl hs
    go_enter Tryz.func26, Tryz.ntmps26
    go_wp2
    go_ret
    exact ⟨ret_int (by rw [hF.out, if_pos h12]), Ext.refl _⟩
  by_cases h0 : n = 0
  · subst h0
    clear h hs
    go_enter Tryz.func26, Tryz.ntmps26
    go_wp2
    refine wp_loop_rounds 1 ?_
    rw [rounds_succ]
    go_wp2
    go_ret
    exact ⟨ret_int (by rw [hF.out]; rfl), Ext.refl _⟩
  · obtain ⟨b, off, rfl, hb, hE⟩ := h.2.2 h0
    clear h; replace hl := Lib.hid hl; replace h0 := Lib.hid h0
    have hd : decide (12 < (n : Int)) = false := by simp; omega
    go_enter Tryz.func26, Tryz.ntmps26
    go_wp2
    go_loopw [10] (fun i w' => ∃ k : Nat, k ≤ n ∧ i = .int .i64 k ∧ Zeros (chkPart xs) k ∧ Ext w w') (fun i _ => n - (intOf i).toNat)
    case atStart => exact ⟨0, Nat.zero_le _, rfl, (fun j hj => by omega), Ext.refl _⟩
    case round =>
      obtain ⟨k, hk, rfl, hz, he⟩ := hrel
      have hbw := Nat.lt_of_lt_of_le hb he.size
      by_cases hlt : k < n
      · obtain ⟨x, hx⟩ := getD_some hl.out hlt
        have hxm : x.Small := hs x (List.mem_of_getElem? hx)
        obtain ⟨s1, ⟨s2, s3⟩, ⟨s4, s5⟩, ⟨s6, s7⟩, ⟨s8, s9⟩⟩ := hxm
        obtain ⟨c0, c1, c2, c3, c4⟩ := (hE.ext he hb).part hx
        have hxl : n ≤ xs.length := by rw [hl.out]; exact Nat.le_refl _
        have hxt : xs.length ≤ 1000 := by rw [hl.out]; omega
        have hv : chkPart xs k = if keyB x.name then (if nameIn xs k x.name then 6 else if rightP x then 0 else 1) else 5 := by
          unfold chkPart; rw [atL_of hx]
        have hr : rightP x = (rightR x.lo x.hi && inB x.least 0 x.most && decide (x.most ≤ 100)) := rfl
        replace hx := Lib.hid hx; replace hv := Lib.hid hv
        have hX := Blk.new' (w := wr) (t := 46) (cs := #[.string x.name, .int .i64 x.lo, .int .i64 x.hi, .int .i64 x.least, .int .i64 x.most]) rfl
        replace hX := Lib.hid hX
        have hE' := Lib.hid (hE.ext he hb)
        have hg := fun W (hW : Ext (wr.alloc (.cells #[.string x.name, .int .i64 x.lo, .int .i64 x.hi, .int .i64 x.least, .int .i64 x.most] 46)) W) => faultHas x wr.heap.size b off k c xs W (hX.out.ext hW) (by omega) hxt (Nat.lt_of_lt_of_le hbw (Nat.le_trans (by simp) hW.size)) (hE'.out.ext ((Ext.alloc (Ext.refl _) _).trans hW) hbw)
        clear hs hxl hxt
        cases hk1 : keyB x.name
        · go_wp2_with (go_at_call 67; (with_reducible refine Calls.mono (key_is hk1 (by omega) _) ?_); rintro e w1 ⟨rfl, hb1⟩)
          go_ret
          exact ⟨ret_int (by rw [hF.out, if_neg h12]; exact scan_is hz hlt (by rw [hv.out, hk1]; rfl) (by decide)), (he.alloc _).trans hb1⟩
        · cases hk2 : nameIn xs k x.name
          case' false => cases hk3 : rightR x.lo x.hi
          case' false.true => cases hk4 : inB x.least 0 x.most
          case' false.true.true => cases hk5 : decide (x.most ≤ 100)
          all_goals
            rw [hk2] at hg
            try simp only [*, Bool.and_true, Bool.and_false, Bool.false_and, Bool.true_and, Bool.and_self] at hr
            replace hg := Lib.hid hg; replace hr := Lib.hid hr
          all_goals
            try have hk4' : outB x.least 0 x.most = !(inB x.least 0 x.most) := outB_inB _ _ _
            try rw [hk4] at hk4'
            try have hk5' : decide (100 < x.most) = !decide (x.most ≤ 100) := by simp
            try rw [hk5] at hk5'
            try have hk5p : x.most ≤ 100 := by simpa using hk5
            try have hk5q : 100 < x.most := by simpa using hk5
            try simp only [Bool.not_true, Bool.not_false] at *
            go_wp2_with (first
              | (go_at_call 67; (with_reducible refine Calls.mono (key_is hk1 (by omega) _) ?_); rintro e w1 ⟨rfl, hb1⟩; obtain ⟨p1, q1⟩ := (hX.out.ext hb1).walk; have lt1 := (hX.out.ext hb1).lt)
              | (go_at_call 71; (with_reducible refine Calls.mono (hg.out _ (by exact hb1)) ?_); rintro e w2 ⟨rfl, hb2⟩; clear p1 q1; obtain ⟨p2, q2⟩ := ((hX.out.ext hb1).ext hb2).walk; have lt2 := ((hX.out.ext hb1).ext hb2).lt)
              | (go_at_call 69; (with_reducible refine Calls.mono (rangeRight_any x.lo x.hi _) ?_); rintro e w3 ⟨rfl, hb3⟩; clear p2 q2; obtain ⟨p3, q3⟩ := (((hX.out.ext hb1).ext hb2).ext hb3).walk)
              | (go_at_call 73; (with_reducible refine Calls.mono (in_any _ _ _ _) ?_); rintro e w4 ⟨rfl, rfl⟩))
          all_goals
            first
              | (go_ret
                 exact ⟨ret_int (by rw [hF.out, if_neg h12]; exact scan_is hz hlt (by rw [hv.out, hk1, hk2]; simp [hr.out]) (by decide)), by first | exact ((((he.alloc _).trans hb1).trans hb2).trans hb3) | exact (((he.alloc _).trans hb1).trans hb2)⟩)
              | (go_roundw
                 case rel => exact ⟨k + 1, by omega, by go_num, hz.succ (by rw [hv.out, hk1, hk2]; simp [hr.out]), ((((he.alloc _).trans hb1).trans hb2).trans hb3)⟩
                 case measure => simp [intOf]; omega)
      · go_wp2
        go_ret
        exact ⟨ret_int (by rw [hF.out, if_neg h12]; exact (scan_zero (by rw [show n = k by omega]; exact hz)).symm), he⟩
end Go.Proofs.YtdehmioobkneiaaGreatDoor
namespace Go.Proofs.YtdehmioobkneiaaGreatDoor
open Go Go.RowKit
def natC (x : Nat) : List Value := [.int .i64 (x : Int)]
theorem natC_len (x : Nat) : (natC x).length = 1 := rfl
/-- A row of lists of numbers in memory, each list in a row of its own. -/
structure OutI (w0 w : World) (og : Nat) (rows : List (List Nat)) (vs : List Value) : Prop where
  ext : Ext w0 w
  low : w0.heap.size ≤ og
  len : vs.length = rows.length
  blk : Blk w og 22 vs.toArray
  own : ∀ (b : Nat) (v : Value) (r : List Nat), vs[b]? = some v → rows[b]? = some r → w.ownsRow (og + 1) 3 1 v r.length (r.flatMap natC)
  far : ∀ (b c : Nat) (u v : Value), b ≠ c → vs[b]? = some u → vs[c]? = some v → ∀ j, u.ownBlock = some j → v.ownBlock ≠ some j
section
variable {w0 w : World} {og : Nat} {rows : List (List Nat)} {vs : List Value}
theorem OutI.more (h : OutI w0 w og rows vs) {w' : World} (he : Ext w w') : OutI w0 w' og rows vs :=
  ⟨h.ext.trans he, h.low, h.len, h.blk.ext he, fun b v r hv hr => own_ext he (h.own b v r hv hr), h.far⟩
theorem OutI.at_ (h : OutI w0 w og rows vs) {b : Nat} {r : List Nat} (hr : rows[b]? = some r) : ∃ p c, vs[b]? = some (.slice p r.length c) ∧ w.cell? ⟨og, b, none⟩ = some (.slice p r.length c) ∧ w.ownsRow (og + 1) 3 1 (.slice p r.length c) r.length (r.flatMap natC) := by
  have hb := (List.getElem?_eq_some_iff.1 hr).1
  have hbv : b < vs.length := by rw [h.len]; exact hb
  have hv : vs[b]? = some vs[b] := List.getElem?_eq_getElem hbv
  have ho := h.own b _ r hv hr
  have e : ∃ p c, vs[b] = .slice p r.length c := by
    rcases ho.2 with ⟨h1, h2⟩ | ⟨g, cap, cur, h1, _⟩
    · exact ⟨none, 0, by rw [h1, h2]⟩
    · exact ⟨_, cap, h1⟩
  obtain ⟨p, c, e⟩ := e
  rw [e] at hv ho
  refine ⟨p, c, hv, ?_, ho⟩
  rw [h.blk.cell b]
  simpa using hv
theorem OutI.app (h : OutI w0 w og rows vs) {b : Nat} {r : List Nat} {p : Option Addr} {c : Nat} (hr : rows[b]? = some r) (hv : vs[b]? = some (.slice p r.length c)) {w' : World} {b' c' : Nat} {s : Nat}
    (h1 : w'.ownsRow (og + 1) 3 1 (.slice (some ⟨b', 0, none⟩) (r.length + 1) c') (r.length + 1) (r.flatMap natC ++ natC s)) (hg : w.grownBy w' (Value.slice p r.length c).ownBlock) (hb : w.heap.size ≤ b' ∨ p = some ⟨b', 0, none⟩) :
    OutI w0 (w'.setCell ⟨og, b, none⟩ (.slice (some ⟨b', 0, none⟩) (r.length + 1) c')) og (rows.set b (r ++ [s])) (vs.set b (.slice (some ⟨b', 0, none⟩) (r.length + 1) c')) := by
  have hlow := h.low
  have ho := h.own b _ r hv hr
  have hB : Blk w' og 22 vs.toArray := (hg.block og h.blk.lt fun e => own_no ho h.blk (by decide) e.symm).trans h.blk
  have hk := grown_set w' ⟨og, b, none⟩ (.slice (some ⟨b', 0, none⟩) (r.length + 1) c')
  have hbl := (List.getElem?_eq_some_iff.1 hv).1
  have hbr := (List.getElem?_eq_some_iff.1 hr).1
  have other : ∀ d u, d ≠ b → vs[d]? = some u → ∀ j, u.ownBlock = some j → j ≠ b' := fun d u hd hu j hj e => by
    subst e
    have hdl : d < rows.length := by rw [← h.len]; exact (List.getElem?_eq_some_iff.1 hu).1
    have hlt := ((h.own d u _ hu (List.getElem?_eq_getElem hdl)).lt j hj).2
    rcases hb with hb | hb
    · omega
    · subst hb
      exact h.far d b u _ hd hu hv j hj rfl
  refine ⟨(h.ext.grown hg fun k e => Nat.le_trans hlow (Nat.le_of_lt (ho.lt k e).1)).setCell (p := ⟨og, b, none⟩) hlow _, hlow, by rw [List.length_set, List.length_set]; exact h.len, ?_, fun d u r' hu hr' => ?_, fun d e u v hde hu hv2 j hj => ?_⟩
  · have := hB.set_ b (.slice (some ⟨b', 0, none⟩) (r.length + 1) c')
    simpa using this
  · rw [List.getElem?_set] at hu hr'
    by_cases hd : b = d
    · subst hd
      rw [if_pos rfl, if_pos hbl] at hu
      rw [if_pos rfl, if_pos hbr] at hr'
      cases hu
      cases hr'
      rw [List.length_append, List.length_singleton, flat_snoc]
      exact h1.kept hk (.inr (own_no h1 hB (by decide)))
    · rw [if_neg hd] at hu hr'
      have ho2 := h.own d u r' hu hr'
      have ho3 : w'.ownsRow (og + 1) 3 1 u r'.length (r'.flatMap natC) := ho2.kept hg (by
        cases hj : u.ownBlock with
        | none => exact .inl rfl
        | some j => exact .inr fun e => h.far d b u _ (fun e2 => hd e2.symm) hu hv j hj e.symm)
      exact ho3.kept hk (.inr (own_no ho3 hB (by decide)))
  · rw [List.getElem?_set] at hu hv2
    by_cases hd : b = d
    · subst hd
      rw [if_pos rfl, if_pos hbl] at hu
      cases hu
      rw [if_neg hde] at hv2
      intro e2
      exact other e v (fun e3 => hde e3.symm) hv2 j e2 (by simpa [Value.ownBlock] using hj.symm)
    · rw [if_neg hd] at hu
      by_cases he : b = e
      · subst he
        rw [if_pos rfl, if_pos hbl] at hv2
        cases hv2
        intro e2
        exact other d u (fun e3 => hd e3.symm) hu j hj (by simpa [Value.ownBlock] using e2.symm)
      · rw [if_neg he] at hv2
        exact h.far d e u v hde hu hv2 j hj
end
/-- One number of a row is changed. -/
theorem OutI.put {w0 w : World} {og : Nat} {rows : List (List Nat)} {vs : List Value} (h : OutI w0 w og rows vs) {b : Nat} {r : List Nat} {g c : Nat} (hr : rows[b]? = some r) (hv : vs[b]? = some (.slice (some ⟨g, 0, none⟩) r.length c)) {k : Nat} {x : Nat} (hk : r[k]? = some x) (y : Nat) :
    OutI w0 (w.setCell ⟨g, k, none⟩ (.int .i64 (y : Int))) og (rows.set b (r.set k y)) vs := by
  have hlow := h.low
  have ho := h.own b _ r hv hr
  have hgb := (ho.lt g rfl)
  have hgr := grown_set w ⟨g, k, none⟩ (.int .i64 (y : Int))
  have hbl := (List.getElem?_eq_some_iff.1 hv).1
  have hbr := (List.getElem?_eq_some_iff.1 hr).1
  refine ⟨h.ext.setCell (p := ⟨g, k, none⟩) (by simp only; omega) _, hlow, by rw [List.length_set]; exact h.len, h.blk.far (by simp only; omega) _, fun d u r' hu hr' => ?_, h.far⟩
  rw [List.getElem?_set] at hr'
  by_cases hd : b = d
  · subst hd
    rw [if_pos rfl, if_pos hbr] at hr'
    cases hr'
    rw [hv] at hu
    cases hu
    rw [List.length_set]
    have := own_set1 natC_len ho y hk 0 (by decide) (.int .i64 (y : Int)) rfl
    simpa using this
  · rw [if_neg hd] at hr'
    refine (h.own d u r' hu hr').kept hgr ?_
    cases hj : u.ownBlock with
    | none => exact .inl rfl
    | some j => exact .inr fun e => h.far d b u _ (fun e2 => hd e2.symm) hu hv j hj (by cases e; rfl)
/-- A cell of another block is set. -/
theorem OutI.aside {w0 w : World} {og : Nat} {rows : List (List Nat)} {vs : List Value} (h : OutI w0 w og rows vs) {g t : Nat} {cs : Array Value} (hB : Blk w g t cs) (ht : t ≠ 3) (ht2 : t ≠ 22) (hg : w0.heap.size ≤ g) (i : Nat) (u : Value) : OutI w0 (w.setCell ⟨g, i, none⟩ u) og rows vs := by
  have hne : og ≠ g := fun e => by
    subst e
    have h1 := h.blk
    unfold Blk at h1 hB
    rw [h1] at hB
    simp at hB
    exact ht2 hB.2.symm
  exact ⟨h.ext.setCell (p := ⟨g, i, none⟩) hg _, h.low, h.len, h.blk.far (p := ⟨g, i, none⟩) hne _, fun b v r hv hr => (h.own b v r hv hr).kept (grown_set w ⟨g, i, none⟩ u) (.inr (own_no (h.own b v r hv hr) hB ht)), h.far⟩
theorem OutI.cell {w0 w : World} {og : Nat} {rows : List (List Nat)} {vs : List Value} (h : OutI w0 w og rows vs) {b : Nat} {r : List Nat} {g c : Nat} (hr : rows[b]? = some r) (hv : vs[b]? = some (.slice (some ⟨g, 0, none⟩) r.length c)) {k x : Nat} (hk : r[k]? = some x) : w.cell? ⟨g, k, none⟩ = some (.int .i64 (x : Int)) := by
  have := own_cell natC_len (h.own b _ r hv hr) hk 0 (v := .int .i64 (x : Int)) rfl (List.getElem?_eq_some_iff.1 hk).1
  simpa using this
/-- A new row of empty lists. -/
theorem OutI.made {w0 w' : World} {og most : Nat} (hE : Ext w0 w') (hlow : w0.heap.size ≤ og) (h : w'.ownsRow og 22 1 (.slice (some ⟨og, 0, none⟩) most most) most (madeCells (Value.slice none 0 0).cells (most * 1)).toList) : OutI w0 w' og (List.replicate most []) (List.replicate most (.slice none 0 0)) := by
  have hvs : (madeCells (Value.slice none 0 0).cells (most * 1)).toList = List.replicate most (.slice none 0 0) := by
    unfold madeCells
    refine List.ext_getElem? fun j => ?_
    simp only [Nat.mul_one, Array.toList_map, Array.toList_range, List.getElem?_map, List.getElem?_replicate]
    by_cases hj : j < most
    · rw [List.getElem?_range hj, if_pos hj]
      simp [Value.cells, Nat.mod_one]
    · rw [List.getElem?_eq_none (by simp; omega), if_neg hj]
      rfl
  refine ⟨hE, hlow, by simp, ?_, fun b v r hv hr => ?_, fun b c u v _ hu _ j hj => ?_⟩
  · rcases h.2 with ⟨h1, _⟩ | ⟨g, cap, cur, h1, _, h2, _, _, h3, h4⟩
    · cases h1
    · cases h1
      unfold Blk
      rw [h2]
      have : cur = (List.replicate most (Value.slice none 0 0)).toArray := by
        rw [← hvs, ← h4, List.take_of_length_le (by simp; omega)]
      rw [this]
  · rw [List.getElem?_replicate] at hv hr
    by_cases hb : b < most
    · rw [if_pos hb] at hv hr
      cases hv
      cases hr
      exact World.ownsRow_nil _ _ _ _
    · rw [if_neg hb] at hv
      cases hv
  · rw [List.getElem?_replicate] at hu
    split at hu
    · cases hu
      cases hj
    · cases hu
/-- Rows that are read. -/
def RowsR {α : Type} (enc : α → List Value) (w : World) (p : Option Addr) (m c : Nat) (C : List (List α)) : Prop :=
  ∃ vs : List Value, Slc 1 (fun v => [v]) w p m c vs ∧ vs.length = C.length ∧ ∀ (i : Nat) (r : List α), C[i]? = some r → ∃ q d, vs[i]? = some (.slice q r.length d) ∧ Slc 1 enc w q r.length d r
theorem RowsR.ext {α : Type} {enc : α → List Value} {w w' : World} {p : Option Addr} {m c : Nat} {C : List (List α)} (h : RowsR enc w p m c C) (he : Ext w w') : RowsR enc w' p m c C := by
  obtain ⟨vs, h1, h2, h3⟩ := h
  exact ⟨vs, h1.ext he, h2, fun i r hr => let ⟨q, d, a, b⟩ := h3 i r hr; ⟨q, d, a, b.ext he⟩⟩
theorem RowsR.len {α : Type} {enc : α → List Value} {w : World} {p : Option Addr} {m c : Nat} {C : List (List α)} (h : RowsR enc w p m c C) : C.length = m := by
  obtain ⟨vs, h1, h2, h3⟩ := h
  rw [← h2]; exact h1.1.1
/-- The i-th row's slice, and where it lies. -/
theorem RowsR.at_ {α : Type} {enc : α → List Value} {w : World} {p : Option Addr} {m c : Nat} {C : List (List α)} (h : RowsR enc w p m c C) {i : Nat} {r : List α} (hr : C[i]? = some r) :
    ∃ b off q d, p = some ⟨b, off, none⟩ ∧ b < w.heap.size ∧ w.cell? ⟨b, off + i, none⟩ = some (.slice q r.length d) ∧ Slc 1 enc w q r.length d r := by
  obtain ⟨vs, h1, h2, h3⟩ := h
  obtain ⟨q, d, a, e⟩ := h3 i r hr
  have hi := (List.getElem?_eq_some_iff.1 a).1
  have hl := h1.1.1
  obtain ⟨b, off, hp, hb, hE⟩ := h1.1.2.2 (by omega)
  refine ⟨b, off, q, d, hp, hb, ?_, e⟩
  have := hE i _ a 0 (.slice q r.length d) rfl
  simpa using this
end Go.Proofs.YtdehmioobkneiaaGreatDoor
namespace Go.Proofs.YtdehmioobkneiaaGreatDoor
open Go Go.RowKit
theorem own_own {w : World} {base base' k k' n m : Nat} {t e : TypeId} {u v : Value} {xs ys : List Value} (h : w.ownsRow base t k u n xs) (g : w.ownsRow base' e k' v m ys) (hne : t ≠ e) : u.ownBlock = none ∨ u.ownBlock ≠ v.ownBlock := by
  rcases h.2 with ⟨rfl, _⟩ | ⟨b, cap, cur, rfl, _, h3, _⟩
  · exact .inl rfl
  · right
    intro e1
    rcases g.2 with ⟨rfl, _⟩ | ⟨c, cap', cur', rfl, _, g3, _⟩
    · simp [Value.ownBlock] at e1
    · have e2 : b = c := by simpa [Value.ownBlock] using e1
      subst e2
      rw [h3] at g3
      simp at g3
      exact hne g3.2
/-- Own rows in an own row. -/
def OwnRows {α : Type} (t e : TypeId) (enc : α → List Value) (w : World) (base : Nat) (v : Value) (C : List (List α)) : Prop :=
  ∃ vs : List Value, w.ownsRow base t 1 v C.length vs ∧ ∀ (j : Nat) (r : List α), C[j]? = some r → ∃ u, vs[j]? = some u ∧ w.ownsRow base e 1 u r.length (r.flatMap enc)
section
variable {α : Type} {t e : TypeId} {enc : α → List Value} {w w' : World} {base : Nat} {v : Value} {C : List (List α)}
theorem OwnRows.nil : OwnRows t e enc w base (.slice none 0 0) [] := ⟨[], World.ownsRow_nil _ _ _ _, fun j r h => by cases h⟩
theorem OwnRows.grown (h : OwnRows t e enc w base v C) {b : Nat} (hg : w.grownBy w' (some b)) (hb : b < base) : OwnRows t e enc w' base v C := by
  obtain ⟨vs, h1, h2⟩ := h
  have hk : ∀ {n : Nat} {f : TypeId} {u : Value} {xs : List Value}, w.ownsRow base f 1 u n xs → w'.ownsRow base f 1 u n xs := fun ho => ho.kept hg (by
    cases hj : Value.ownBlock _ with
    | none => exact .inl rfl
    | some j => exact .inr fun e => by cases e; have := (ho.lt b hj).1; omega)
  exact ⟨vs, hk h1, fun j r hr => let ⟨u, a, b⟩ := h2 j r hr; ⟨u, a, hk b⟩⟩
theorem OwnRows.ext (h : OwnRows t e enc w base v C) (he : Ext w w') : OwnRows t e enc w' base v C := by
  obtain ⟨vs, h1, h2⟩ := h
  exact ⟨vs, own_ext he h1, fun j r hr => let ⟨u, a, b⟩ := h2 j r hr; ⟨u, a, own_ext he b⟩⟩
/-- One row more. -/
theorem OwnRows.app (h : OwnRows t e enc w base v C) (hte : t ≠ e) {vs : List Value} (hvs : ∀ (j : Nat) (r : List α), C[j]? = some r → ∃ u, vs[j]? = some u ∧ w.ownsRow base e 1 u r.length (r.flatMap enc)) (hv : w.ownsRow base t 1 v C.length vs) {r : List α} {u v' : Value} (hu : w.ownsRow base e 1 u r.length (r.flatMap enc))
    (h1 : w'.ownsRow base t 1 v' (C.length + 1) (vs ++ [u])) (hg : w.grownBy w' v.ownBlock) : OwnRows t e enc w' base v' (C ++ [r]) := by
  have hl : vs.length = C.length := by have := hv.1; omega
  refine ⟨vs ++ [u], by rw [List.length_append, List.length_singleton]; exact h1, fun j s hs => ?_⟩
  rcases Nat.lt_or_ge j C.length with hlt | hge
  · rw [List.getElem?_append_left hlt] at hs
    obtain ⟨x, a, b⟩ := hvs j s hs
    exact ⟨x, by rw [List.getElem?_append_left (by omega)]; exact a, b.kept hg (own_own b hv (fun e => hte e.symm))⟩
  · rw [List.getElem?_append_right hge] at hs
    have h0 : j - C.length = 0 := by have := (List.getElem?_eq_some_iff.1 hs).1; simp at this; omega
    rw [h0] at hs
    obtain rfl : r = s := by simpa using hs
    exact ⟨u, by rw [List.getElem?_append_right (by omega), hl, h0]; rfl, hu.kept hg (own_own hu hv (fun e => hte e.symm))⟩
theorem OwnRows.rows (h : OwnRows t e enc w base v C) (hk : ∀ x, (enc x).length = 1) (hn : C.length ≤ 1000000000) (hr : ∀ r ∈ C, r.length ≤ 1000000000) : ∃ p c, v = .slice p C.length c ∧ RowsR enc w p C.length c C := by
  obtain ⟨vs, h1, h2⟩ := h
  have hvs : vs = vs.flatMap (fun v => [v]) := by
    clear h1 h2
    induction vs with
    | nil => rfl
    | cons a vs ih => rw [List.flatMap_cons, ← ih]; rfl
  have hl : vs.length = C.length := by have := h1.1; omega
  have h3 := h1
  rw [hvs] at h3
  obtain ⟨p, c, rfl, hS⟩ := slc_of_own (enc := fun v => [v]) (fun _ => rfl) h3 (by decide) hn
  refine ⟨p, c, rfl, vs, hS, hl, fun i r hir => ?_⟩
  obtain ⟨u, a, b⟩ := h2 i r hir
  obtain ⟨q, d, rfl, hq⟩ := slc_of_own (enc := enc) hk b (by decide) (hr r (List.mem_of_getElem? hir))
  exact ⟨q, d, a, hq⟩
end
end Go.Proofs.YtdehmioobkneiaaGreatDoor
namespace Go.Proofs.YtdehmioobkneiaaGreatDoor
open Go Go.RowKit
def chkFor (ls : List ByteArray) (i : Nat) : Int :=
  if keyB (atL ByteArray.empty ls i) then (if 0 < i && leB (atL ByteArray.empty ls i) (atL ByteArray.empty ls (i - 1)) then 7 else 0) else 5
def forF (ls : List ByteArray) : Int := if ls.length = 0 then 8 else if 200 < ls.length then 2 else scanF ls.length (chkFor ls)
set_option maxRecDepth 100000 in
theorem forFault_any (p : Option Addr) (n c : Nat) (ls : List ByteArray) (w : World) (h : Sl 1 strC w p n ls) (hs : ∀ (i : Nat) (s : ByteArray), ls[i]? = some s → s.size ≤ 1000000000) :
    Calls Tryz.prog 115 #[.slice p n c] w fun e w' => e = .returned (.int .i64 (forF ls)) ∧ Ext w w' := by
  have hn := h.2.1
  have hl := h.1
  have hF : forF ls = if n = 0 then 8 else if 200 < n then 2 else scanF n (chkFor ls) := by unfold forF; rw [hl]
  replace hF := Lib.hid hF
  by_cases h0 : n = 0
  · have h0' : ((n : Int) == 0) = true := by simp [h0]
    replace h0 := Lib.hid h0; clear h hl
    go_enter Tryz.func115, Tryz.ntmps115
    go_wp2
    go_ret
    exact ⟨ret_int (by rw [hF.out, if_pos h0.out]), Ext.refl _⟩
  · obtain ⟨b, off, rfl, hb, hE⟩ := h.2.2 h0
    clear h
    have h0' : ((n : Int) == 0) = false := by simp [h0]
    replace hl := Lib.hid hl
    by_cases h200 : 200 < n
    · go_enter Tryz.func115, Tryz.ntmps115
      go_wp2
      go_ret
      exact ⟨ret_int (by rw [hF.out, if_neg h0, if_pos h200]), Ext.refl _⟩
    have hd : decide (200 < (n : Int)) = false := by simp; omega
    go_enter Tryz.func115, Tryz.ntmps115
    go_wp2
    go_loopw [13] (fun i w' => ∃ k : Nat, k ≤ n ∧ i = .int .i64 k ∧ Zeros (chkFor ls) k ∧ Ext w w') (fun i _ => n - (intOf i).toNat)
    case atStart => exact ⟨0, Nat.zero_le _, rfl, fun _ hj => by omega, Ext.refl _⟩
    case round =>
      obtain ⟨k, hk, rfl, hz, he⟩ := hrel
      have hbw := Nat.lt_of_lt_of_le hb he.size
      by_cases hlt : k < n
      · obtain ⟨s, hx⟩ := getD_some hl.out hlt
        have hsz := hs k s hx
        have hcell := (hE.ext he hb).str hx
        have hchk : chkFor ls k = if keyB s then (if 0 < k && leB s (atL ByteArray.empty ls (k - 1)) then 7 else 0) else 5 := by unfold chkFor; rw [atL_of hx]
        replace hx := Lib.hid hx; replace hchk := Lib.hid hchk
        by_cases hk0 : 0 < k
        · obtain ⟨s1, hx1⟩ := getD_some (i := k - 1) hl.out (by omega)
          have hcell1 := (hE.ext he hb).str hx1
          replace hx1 := Lib.hid hx1
          go_wp2_with (go_at_call 80; refine (isKey_any s _ (by omega)).mono ?_; rintro e w1 ⟨rfl, hb1⟩; obtain ⟨hc1, hf1, hz1⟩ := hb1.walk)
          · go_ret
            exact ⟨ret_int (by rw [hF.out, if_neg h0, if_neg h200]; exact scan_is hz hlt (by rw [hchk.out]; simp_all) (by decide)), he.trans hb1⟩
          · go_ret
            exact ⟨ret_int (by rw [hF.out, if_neg h0, if_neg h200]; exact scan_is hz hlt (by rw [hchk.out, atL_of hx1.out]; simp_all [leB]) (by decide)), he.trans hb1⟩
          · go_roundw
            case rel => exact ⟨k + 1, by omega, by go_num, hz.succ (by rw [hchk.out, atL_of hx1.out]; simp_all [leB]), he.trans hb1⟩
            case measure => simp [intOf]; omega
        · have hk1 : ((k : Int) == 0) = true := by simp; omega
          go_wp2_with (go_at_call 80; refine (isKey_any s _ (by omega)).mono ?_; rintro e w1 ⟨rfl, hb1⟩; obtain ⟨hc1, hf1, hz1⟩ := hb1.walk)
          · go_ret
            exact ⟨ret_int (by rw [hF.out, if_neg h0, if_neg h200]; exact scan_is hz hlt (by rw [hchk.out]; simp_all) (by decide)), he.trans hb1⟩
          · go_roundw
            case rel => exact ⟨k + 1, by omega, by go_num, hz.succ (by rw [hchk.out]; simp_all), he.trans hb1⟩
            case measure => simp [intOf]; omega
      · go_wp2
        go_ret
        obtain rfl : k = n := by omega
        exact ⟨ret_int (by rw [hF.out, if_neg h0, if_neg h200, scan_zero hz]), he⟩
end Go.Proofs.YtdehmioobkneiaaGreatDoor
