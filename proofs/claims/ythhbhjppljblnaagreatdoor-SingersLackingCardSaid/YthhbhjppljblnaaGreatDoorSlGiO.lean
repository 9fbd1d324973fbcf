/- How many singers a set of parts needs more than can sing one of them, by the document. Conditions: sizes. -/
import Derived.Test.YthhbhjppljblnaaGreatDoorSlGiN
set_option linter.unusedSimpArgs false
set_option linter.unusedVariables false
namespace Go.Proofs.YthhbhjppljblnaaGreatDoor
open Go Go.RowKit

def anyTo (set : Nat) (row : List Bool) (j : Nat) : Bool := (List.range j).any fun p => bitX set p && row.getD p false
theorem anyTo_succ {set j : Nat} {row : List Bool} {b : Bool} (h : row[j]? = some b) : anyTo set row (j + 1) = (anyTo set row j || (bitX set j && b)) := by
  unfold anyTo
  rw [List.range_succ, List.any_append]
  simp [List.getD_eq_getElem?_getD, h]
set_option maxRecDepth 100000 in
set_option maxHeartbeats 3200000 in
theorem needed_any {w : World} {P : List PartV} {pp cp : Option Addr} {pc cc : Nat} {B : List (List Bool)} (hpar : Slc 5 partC w pp P.length pc P) (hR : RowsR boolC w cp B.length cc B) (hP : P.length ≤ 12) (hB : B.length ≤ 200) (hrow : ∀ r ∈ B, r.length = P.length) (hN : ∀ x ∈ P, 0 ≤ x.least ∧ x.least ≤ 1000) (set : Nat) (hset : set < 4096) :
    Calls Tryz.prog 74 #[.slice cp B.length cc, .slice pp P.length pc, .int .i64 set] w fun e w' => e = .returned (.int .i64 (needF (canD B) (lstP P) P.length B.length (bitX set))) ∧ Ext w w' := by
  replace hR := Lib.hid hR
  replace hpar := Lib.hid hpar
  replace hrow := Lib.hid hrow
  replace hN := Lib.hid hN
  go_enter Tryz.func74, Tryz.ntmps74
  go_wp2
  go_loopw [17, 7] (fun v17 v7 wr => ∃ k : Nat, v17 = .int .i64 k ∧ k ≤ P.length ∧ v7 = .int .i64 (needN (lstP P) (bitX set) k) ∧ Ext w wr) (fun v17 _ _ => P.length - (intOf v17).toNat)
  case atStart => exact ⟨0, rfl, Nat.zero_le _, rfl, Ext.refl _⟩
  case round =>
    obtain ⟨k, rfl, hk, rfl, hE⟩ := hrel
    have hle := needN_le hN.out (bitX set) k hk
    obtain ⟨s, hs⟩ : ∃ s, needN (lstP P) (bitX set) k = s := ⟨_, rfl⟩
    by_cases hkl : k < P.length
    · obtain ⟨x, hx⟩ := getD_some (rfl : P.length = P.length) hkl
      obtain ⟨-, ⟨_, rfl⟩ | ⟨b, off, rfl, hb, hEl⟩⟩ := slcC (hpar.out.ext hE)
      · cases hx
      obtain ⟨c0, c1, c2, c3, c4⟩ := hEl.part hx
      have hxb := hN.out x (List.mem_of_getElem? hx)
      have hls := lstP_at hx
      have hkI : (k : Int) < P.length := by omega
      have hE2 := hE.trans ((Ext.refl wr).alloc (.cells #[.string x.name, .int .i64 x.lo, .int .i64 x.hi, .int .i64 x.least, .int .i64 x.most] 70))
      obtain ⟨q, hq⟩ : ∃ q, set / 2 ^ k = q := ⟨_, rfl⟩
      have hsh : (set : Int) / 2 ^ k = (q : Int) := by rw [← hq]; norm_cast
      have hbd := bit_div set k
      rw [hq] at hbd
      have hq8 : q ≤ 4096 := by rw [← hq]; exact Nat.le_trans (Nat.div_le_self _ _) (by omega)
      have hnx : needN (lstP P) (bitX set) (k + 1) = s + if bitX set k then lstP P k else 0 := by rw [← hs]; rfl
      rw [hs] at hle ⊢
      replace hx := Lib.hid hx
      replace hq := Lib.hid hq
      replace hs := Lib.hid hs
      clear hEl
      cases hbb : bitX set k
      · rw [hbb] at hbd hnx
        have hq2 : q % 2 = 0 := by
          have : ¬ q % 2 = 1 := fun e => by rw [e] at hbd; simp at hbd
          omega
        have hand : (q : Int) % 2 = 0 := by omega
        have hand2 : (q : Int).tmod 2 = 0 := by rw [Int.tmod_eq_emod_of_nonneg (by omega)]; exact hand
        have hnx2 : (needN (lstP P) (bitX set) (k + 1) : Int) = (s : Int) := by rw [hnx]; simp
        replace hnx2 := Lib.hid hnx2
        clear hbd hnx hls
        go_wp2
        go_roundw
        case rel => exact ⟨k + 1, by go_num, by omega, by rw [hnx2.out], hE2⟩
        case measure => simp [intOf]; omega
      · rw [hbb] at hbd hnx
        have hq2 : q % 2 = 1 := of_decide_eq_true hbd.symm
        have hand : (q : Int) % 2 = 1 := by omega
        have hand2 : (q : Int).tmod 2 = 1 := by rw [Int.tmod_eq_emod_of_nonneg (by omega)]; exact hand
        have hnx2 : (needN (lstP P) (bitX set) (k + 1) : Int) = (s : Int) + x.least := by rw [hnx]; simp only [if_true]; omega
        replace hnx2 := Lib.hid hnx2
        clear hbd hnx hls
        go_wp2
        go_roundw
        case rel => exact ⟨k + 1, by go_num, by omega, by rw [hnx2.out], hE2⟩
        case measure => simp [intOf]; omega
    · obtain rfl : k = P.length := by omega
      rw [hs] at hle ⊢
      have hnf : needF (canD B) (lstP P) P.length B.length (bitX set) = (s : Int) - (canN (canD B) P.length (bitX set) B.length : Int) := by unfold needF; rw [hs]
      replace hnf := Lib.hid hnf
      replace hs := Lib.hid hs
      generalize wr = W5 at *
      go_wp2
      go_loopw [34, 7] (fun v34 v7 wr => ∃ j : Nat, v34 = .int .i64 j ∧ j ≤ B.length ∧ v7 = .int .i64 ((s : Int) - (canN (canD B) P.length (bitX set) j : Int)) ∧ Ext w wr) (fun v34 _ _ => B.length - (intOf v34).toNat)
      case atStart => exact ⟨0, rfl, Nat.zero_le _, by simp [canN], hE⟩
      case round =>
        clear hE
        obtain ⟨j, rfl, hj, rfl, hE⟩ := hrel
        have hcn := canN_le (canD B) P.length (bitX set) j
        by_cases hjl : j < B.length
        · obtain ⟨row, hro⟩ := getD_some (rfl : B.length = B.length) hjl
          obtain ⟨rb, roff, rq, rd, rfl, hrb, hcr, hrS⟩ := (hR.out.ext hE).at_ hro
          have hrl := hrow.out row (List.mem_of_getElem? hro)
          have htc : touchB (canD B) P.length (bitX set) j = anyTo set row P.length := by
            unfold touchB anyTo canD
            rw [show B.getD j [] = row by rw [List.getD_eq_getElem?_getD, hro]; rfl]
          have hsucc := canN_succ (can := canD B) (n := P.length) (X := bitX set) (j := j)
          rw [htc] at hsucc
          have hjI : (j : Int) < B.length := by omega
          generalize canN (canD B) P.length (bitX set) j = cn at *
          rw [hrl] at hcr hrS
          replace hro := Lib.hid hro
          replace hsucc := Lib.hid hsucc
          replace hrS := Lib.hid hrS
          replace hrl := Lib.hid hrl
          clear htc
          generalize wr = W10 at *
          go_wp2
          go_loopw [40, 12] (fun v40 v12 wr => ∃ i : Nat, v40 = .int .i64 i ∧ i ≤ P.length ∧ v12 = .bool (anyTo set row i) ∧ Ext W10 wr) (fun v40 _ _ => P.length - (intOf v40).toNat)
          case atStart => exact ⟨0, rfl, Nat.zero_le _, rfl, Ext.refl _⟩
          case round =>
            obtain ⟨i, rfl, hi, rfl, hE11⟩ := hrel
            by_cases hil : i < P.length
            · obtain ⟨is, his⟩ := getD_some (rfl : row.length = row.length) (show i < row.length by rw [hrl.out]; exact hil)
              obtain ⟨-, ⟨_, rfl⟩ | ⟨db, doff, rfl, hdb, hdE⟩⟩ := slcC (hrS.out.ext hE11)
              · cases his
              have d0 := hdE i is his 0 _ rfl
              simp only [Nat.mul_one, Nat.add_zero] at d0
              have hnx := anyTo_succ (set := set) his
              have hiI : (i : Int) < P.length := by omega
              obtain ⟨q, hq⟩ : ∃ q, set / 2 ^ i = q := ⟨_, rfl⟩
              have hsh : (set : Int) / 2 ^ i = (q : Int) := by rw [← hq]; norm_cast
              have hbd := bit_div set i
              rw [hq] at hbd
              have hq8 : q ≤ 4096 := by rw [← hq]; exact Nat.le_trans (Nat.div_le_self _ _) (by omega)
              have htm : (q : Int).tmod 2 = (q : Int) % 2 := Int.tmod_eq_emod_of_nonneg (by omega)
              have hqq : ∀ b, bitX set i = b → (q : Int) % 2 = if b then 1 else 0 := fun b hb => by
                rw [hb] at hbd
                cases b
                · have : ¬ q % 2 = 1 := fun e => by rw [e] at hbd; simp at hbd
                  simp; omega
                · have := of_decide_eq_true hbd.symm
                  simp; omega
              generalize hpre : anyTo set row i = pre at *
              replace his := Lib.hid his
              replace hq := Lib.hid hq
              replace hpre := Lib.hid hpre
              clear hdE hbd
              cases hbb : bitX set i
              all_goals
                have hq2 := hqq _ hbb
                rw [hbb] at hnx
                simp only [Bool.false_eq_true, if_false, if_true] at hq2
                rw [hq2] at htm
                replace hbb := Lib.hid hbb
                clear hqq
                cases pre <;> cases is
                all_goals
                  simp only [Bool.and_true, Bool.and_false, Bool.or_true, Bool.or_false, Bool.true_and, Bool.false_and, Bool.true_or, Bool.false_or] at hnx
                  replace hnx := Lib.hid hnx
                  go_wp2
                  go_roundw
                  case rel => exact ⟨i + 1, by go_num, by omega, by rw [hnx.out], hE11⟩
                  case measure => simp [intOf]; omega
            · obtain rfl : i = P.length := by omega
              have hEE := hE.trans hE11
              cases hbv : anyTo set row P.length
              · have hs2 : canN (canD B) P.length (bitX set) (j + 1) = cn := by rw [hsucc.out, hbv]; simp
                replace hs2 := Lib.hid hs2
                replace hbv := Lib.hid hbv
                go_wp2
                go_roundw
                case rel => exact ⟨j + 1, by go_num, by omega, by rw [hs2.out], hEE⟩
                case measure => simp [intOf]; omega
              · have hs2 : canN (canD B) P.length (bitX set) (j + 1) = cn + 1 := by rw [hsucc.out, hbv]; simp
                have hs3 : (s : Int) - ((cn + 1 : Nat) : Int) = (s : Int) - (cn : Int) - 1 := by omega
                replace hs2 := Lib.hid hs2
                replace hs3 := Lib.hid hs3
                replace hbv := Lib.hid hbv
                go_wp2
                go_roundw
                case rel => exact ⟨j + 1, by go_num, by omega, by rw [hs2.out, hs3.out], hEE⟩
                case measure => simp [intOf]; omega
        · obtain rfl : j = B.length := by omega
          go_wp2
          go_ret
          exact ⟨ret_int hnf.out.symm, hE⟩
end Go.Proofs.YthhbhjppljblnaaGreatDoor
