/- A person found by name: the binary search. Conditions: the people are right. -/
import Derived.Test.YtfbegdcmnfkhgaaGreatDoorLxStD
import Derived.Test.YtfbegdcmnfkhgaaGreatDoorLxWayM
set_option linter.unusedSimpArgs false
set_option linter.unusedVariables false
namespace Go.Proofs.YtfbegdcmnfkhgaaGreatDoor
open Go Go.RowKit

theorem less_cb : ∀ a b : List UInt8, Op.bytesLess a b = decide (Lib.compareBytes a b = -1)
  | [], [] => by simp [Op.bytesLess, Lib.compareBytes]
  | [], _ :: _ => by simp [Op.bytesLess, Lib.compareBytes]
  | _ :: _, [] => by simp [Op.bytesLess, Lib.compareBytes]
  | a :: x, b :: y => by
    have ih := less_cb x y
    unfold Lib.compareBytes
    simp only [Op.bytesLess]
    rw [ih]
    by_cases h1 : a < b
    · have h1' : a.toNat < b.toNat := h1
      simp [h1, h1']
    · have h1' : ¬ a.toNat < b.toNat := h1
      by_cases h2 : b < a
      · have h2' : b.toNat < a.toNat := h2
        have h3 : ¬ a = b := fun e => by subst e; exact h1 h2
        simp [h1, h2, h3]
      · have h3 : a = b := u8_tri h1 h2
        subst h3
        simp [h1]
theorem cb_anti : ∀ {a b : List UInt8}, Lib.compareBytes a b = 1 → Lib.compareBytes b a = -1
  | [], [], h => by cases h
  | [], _ :: _, h => by cases h
  | _ :: _, [], _ => rfl
  | a :: x, b :: y, h => by
    unfold Lib.compareBytes at h ⊢
    by_cases h1 : a < b
    · rw [if_pos h1] at h; cases h
    · rw [if_neg h1] at h
      by_cases h2 : b < a
      · rw [if_pos h2]
      · rw [if_neg h2] at h
        rw [if_neg h2, if_neg h1]
        exact cb_anti h
/-- Later names are greater. -/
theorem cmp_of_le2 {a b : ByteArray} (h : le2 a.toList b.toList = false) : cmpS b a = -1 := by
  unfold le2 at h
  rw [less_cb] at h
  simp only [Bool.or_eq_false_iff, decide_eq_false_iff_not, beq_eq_false_iff_ne, ne_eq] at h
  obtain ⟨h1, h2⟩ := h
  rw [ByteArray.toList_eq, ByteArray.toList_eq] at h1 h2
  unfold cmpS
  rcases cb_three b.data.toList a.data.toList with e | e | e
  · exact e
  · exact absurd (cb_zero e).symm h2
  · rcases cb_three a.data.toList b.data.toList with e2 | e2 | e2
    · exact absurd e2 h1
    · exact absurd (cb_zero e2) h2
    · have := cb_anti e2
      rw [e] at this
      cases this
theorem cmpS_trans {a b c : ByteArray} (h1 : cmpS a b = -1) (h2 : cmpS b c = -1) : cmpS a c = -1 := cb_trans h1 h2
theorem PeopleOk.less {L : List PersonV} (h : PeopleOk L) {i j : Nat} {x y : PersonV} (hx : L[i]? = some x) (hy : L[j]? = some y) (hij : i < j) : cmpS x.name y.name = -1 := by
  obtain ⟨d, rfl⟩ : ∃ d, j = i + 1 + d := ⟨j - (i + 1), by omega⟩
  exact cmp_of_le2 (h.order d i x y hx hy)
set_option maxRecDepth 100000 in
theorem atPred (x : PersonV) (s : ByteArray) (w : World) :
    Calls Tryz.prog 108 #[.agg #[.string x.name, .int .i64 x.high, .string x.sect], .string s] w fun e w' => e = .returned (.int .i64 (cmpS x.name s)) ∧ Ext w w' := by
  have hcmp := fun u => (Tryz.strings_Compare x.name s u)
  replace hcmp := Lib.hid hcmp
  go_enter Tryz.func108, Tryz.ntmps108
  go_wp2_with (go_at_call 92; refine (hcmp.out _).mono ?_; rintro e w1 ⟨rfl, rfl⟩)
  go_ret
  exact ⟨rfl, (Ext.refl _).alloc _⟩
/-- What the search answers. -/
def FindRes (L : List PersonV) (s : ByteArray) (w : World) (e : Ending) (w' : World) : Prop :=
  ∃ (k : Nat) (is : Bool), e = .returned (.tuple #[.int .i64 k, .bool is]) ∧ Ext w w' ∧ (is = true → ∃ x, L[k]? = some x ∧ x.name = s) ∧ (is = false → ∀ x ∈ L, x.name ≠ s)

set_option maxRecDepth 100000 in
set_option maxHeartbeats 3200000 in
theorem bsearch_any (p : Option Addr) (n c : Nat) (L : List PersonV) (s : ByteArray) (w : World) (hS : Slc 3 perC w p n c L) (hok : PeopleOk L) :
    Calls Tryz.prog 107 #[.slice p n c, .string s, .func (.func 108) #[] #[]] w (FindRes L s w) := by
  obtain ⟨hn, hp⟩ := slcC hS
  subst hn
  have hl := hok.len
  replace hp := Lib.hid hp
  replace hok := Lib.hid hok
  clear hS
  go_enter Tryz.func107, Tryz.ntmps107
  go_wp2
  go_loopw [9, 10] (fun vi vj wr => ∃ i j : Nat, vi = .int .i64 i ∧ vj = .int .i64 j ∧ i ≤ j ∧ j ≤ L.length ∧ (∀ q x, q < i → L[q]? = some x → cmpS x.name s = -1) ∧ (∀ q x, j ≤ q → L[q]? = some x → cmpS x.name s ≠ -1) ∧ Ext w wr) (fun vi vj _ => (intOf vj).toNat - (intOf vi).toNat)
  case atStart => exact ⟨0, L.length, rfl, rfl, Nat.zero_le _, Nat.le_refl _, (fun q x hq => absurd hq (Nat.not_lt_zero _)), (fun q x hq hx => absurd (List.getElem?_eq_some_iff.1 hx).1 (by omega)), Ext.refl _⟩
  case round =>
    obtain ⟨i, j, rfl, rfl, hij, hjl, hlo, hhi, hE⟩ := hrel
    replace hlo := Lib.hid hlo
    replace hhi := Lib.hid hhi
    by_cases hlt : i < j
    · have hm1 : i ≤ (i + j) / 2 := by omega
      have hm2 : (i + j) / 2 < j := by omega
      obtain ⟨x, hx⟩ := getD_some (rfl : L.length = L.length) (show (i + j) / 2 < L.length by omega)
      rcases hp.out with ⟨-, e⟩ | ⟨b, off, rfl, hb, hEl⟩
      · rw [e] at hx; cases hx
      obtain ⟨c0, c1, c2⟩ := (hEl.ext hE hb).per hx
      have hbw := Nat.lt_of_lt_of_le hb hE.size
      have hat := atPred x s wr
      replace hx := Lib.hid hx
      clear hEl
      go_upto_region 5 with fail
      rw [show ((i : Int) + (j : Int)) / 2 = (((i + j) / 2 : Nat) : Int) by omega]
      generalize hh : (i + j) / 2 = h at *
      have hhI : (h : Int) < L.length := by omega
      clear hh
      rcases cmpS_three x.name s with hc | hc | hc
      · rw [hc] at hat
        replace hat := Lib.hid hat
        replace hc := Lib.hid hc
        go_wp2_with (go_at_call 108; (with_reducible refine Calls.mono hat.out ?_); rintro e w2 ⟨rfl, hb2⟩)
        go_roundw
        case rel => exact ⟨h + 1, j, by go_num, rfl, by omega, hjl, (fun q y hq hy => by
          rcases Nat.lt_or_ge q h with h1 | h1
          · exact cmpS_trans (hok.out.less hy hx.out h1) hc.out
          · obtain rfl : q = h := by omega
            have := hx.out.symm.trans hy
            cases this
            exact hc.out), hhi.out, hE.trans hb2⟩
        case measure => simp [intOf]; omega
      all_goals
        rw [hc] at hat
        replace hat := Lib.hid hat
        replace hc := Lib.hid hc
        go_wp2_with (go_at_call 108; (with_reducible refine Calls.mono hat.out ?_); rintro e w2 ⟨rfl, hb2⟩)
        go_roundw
        case rel => exact ⟨i, h, rfl, rfl, hm1, by omega, hlo.out, (fun q y hq hy e9 => by
          rcases Nat.lt_or_ge h q with h1 | h1
          · have := cmpS_trans (hok.out.less hx.out hy h1) e9
            rw [hc.out] at this
            cases this
          · obtain rfl : q = h := by omega
            have := hx.out.symm.trans hy
            cases this
            rw [hc.out] at e9
            cases e9), hE.trans hb2⟩
        case measure => simp [intOf]; omega
    · obtain rfl : i = j := by omega
      by_cases hin : i < L.length
      · obtain ⟨x, hx⟩ := getD_some (rfl : L.length = L.length) hin
        rcases hp.out with ⟨-, e⟩ | ⟨b, off, rfl, hb, hEl⟩
        · rw [e] at hx; cases hx
        obtain ⟨c0, c1, c2⟩ := (hEl.ext hE hb).per hx
        have hbw := Nat.lt_of_lt_of_le hb hE.size
        have hat := atPred x s wr
        have hiI : (i : Int) < L.length := by omega
        replace hx := Lib.hid hx
        clear hEl
        rcases cmpS_three x.name s with hc | hc | hc
        · exact absurd hc (hhi.out i x (Nat.le_refl _) hx.out)
        · rw [hc] at hat
          replace hat := Lib.hid hat
          replace hc := Lib.hid hc
          go_wp2_with (go_at_call 108; (with_reducible refine Calls.mono hat.out ?_); rintro e w2 ⟨rfl, hb2⟩)
          go_ret2
          exact ⟨i, true, rfl, hE.trans hb2, (fun _ => ⟨x, hx.out, cmpS_zero hc.out⟩), fun h => by cases h⟩
        · rw [hc] at hat
          replace hat := Lib.hid hat
          replace hc := Lib.hid hc
          go_wp2_with (go_at_call 108; (with_reducible refine Calls.mono hat.out ?_); rintro e w2 ⟨rfl, hb2⟩)
          go_ret2
          refine ⟨i, false, rfl, hE.trans hb2, (fun h => by cases h), fun _ y hy e9 => ?_⟩
          obtain ⟨q, hq, hqe⟩ := List.getElem_of_mem hy
          have hyq : L[q]? = some y := by rw [List.getElem?_eq_getElem hq, hqe]
          rcases Nat.lt_trichotomy q i with h1 | h1 | h1
          · have := hlo.out q y h1 hyq
            rw [e9, cmpS_refl] at this
            cases this
          · subst h1
            have := hx.out.symm.trans hyq
            cases this
            have := hc.out
            rw [e9, cmpS_refl] at this
            cases this
          · have h2 := hok.out.less hx.out hyq h1
            rw [e9, hc.out] at h2
            cases h2
      · obtain rfl : i = L.length := by omega
        have hiI : ¬ (L.length : Int) < L.length := by omega
        go_wp2
        go_ret2
        refine ⟨L.length, false, rfl, hE, (fun h => by cases h), fun _ y hy e9 => ?_⟩
        obtain ⟨q, hq, hqe⟩ := List.getElem_of_mem hy
        have := hlo.out q y hq (by rw [List.getElem?_eq_getElem hq, hqe])
        rw [e9, cmpS_refl] at this
        cases this
set_option maxRecDepth 100000 in
theorem personAt_any (p : Option Addr) (n c : Nat) (L : List PersonV) (s : ByteArray) (w : World) (hS : Slc 3 perC w p n c L) (hok : PeopleOk L) :
    Calls Tryz.prog 70 #[.slice p n c, .string s] w (FindRes L s w) := by
  have hb := bsearch_any p n c L s w hS hok
  replace hb := Lib.hid hb
  go_enter Tryz.func70, Tryz.ntmps70
  go_wp2_with (go_at_call 107; (with_reducible refine Calls.mono hb.out ?_); rintro e w1 ⟨k, is, rfl, hb1, h1, h2⟩; replace h1 := Lib.hid h1; replace h2 := Lib.hid h2)
  go_ret2
  exact ⟨k, is, rfl, hb1, h1.out, h2.out⟩
end Go.Proofs.YtfbegdcmnfkhgaaGreatDoor
