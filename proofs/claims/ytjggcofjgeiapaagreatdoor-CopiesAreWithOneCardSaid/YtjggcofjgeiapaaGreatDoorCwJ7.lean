/- strings.Builder where its copy check can only be refused: copyCheck and WriteString; a builder stands when memory is made. Conditions: sizes. Who is paid for, by tour. Conditions: sizes. -/
import Derived.Test.YtjggcofjgeiapaaGreatDoorCwJ2
import Derived.Test.YtjggcofjgeiapaaGreatDoorCwShelf
import Derived.Lib.FrozenHead2
import Derived.Lib.OthersKept
import Derived.Test.YtjggcofjgeiapaaGreatDoorCwJ6
import Derived.Test.YtjggcofjgeiapaaGreatDoorCwJ3
import Derived.WalkLawsBesides
import Derived.Outline
set_option linter.unusedSimpArgs false
set_option linter.unusedVariables false
namespace Go.Proofs.YtjggcofjgeiapaaGreatDoor
open Go Go.RowKit

end Go.Proofs.YtjggcofjgeiapaaGreatDoor

namespace Go.Proofs.YtjggcofjgeiapaaGreatDoor
open Go Go.RowKit

def chkFor (ls : List ByteArray) (i : Nat) : Int :=
  if keyB (atL ByteArray.empty ls i) then (if 0 < i && leB (atL ByteArray.empty ls i) (atL ByteArray.empty ls (i - 1)) then 7 else 0) else 5
def forF (ls : List ByteArray) : Int := if ls.length = 0 then 8 else if 200 < ls.length then 2 else scanF ls.length (chkFor ls)

set_option maxRecDepth 100000 in
theorem forFault_any (p : Option Addr) (n c : Nat) (ls : List ByteArray) (w : World) (h : Sl 1 strC w p n ls) (hs : ∀ (i : Nat) (s : ByteArray), ls[i]? = some s → s.size ≤ 1000000000) :
    Calls Tryz.prog 157 #[.slice p n c] w fun e w' => e = .returned (.int .i64 (forF ls)) ∧ Ext w w' := by
  have hn := h.2.1
  have hl := h.1
  have hF : forF ls = if n = 0 then 8 else if 200 < n then 2 else scanF n (chkFor ls) := by unfold forF; rw [hl]
  replace hF := Lib.hid hF
  by_cases h0 : n = 0
  · have h0' : ((n : Int) == 0) = true := by simp [h0]
    replace h0 := Lib.hid h0
    clear h hl
    go_enter Tryz.func157, Tryz.ntmps157
    go_wp2
    go_ret
    exact ⟨ret_int (by rw [hF.out, if_pos h0.out]), Ext.refl _⟩
  · obtain ⟨b, off, rfl, hb, hE⟩ := h.2.2 h0
    clear h
    have h0' : ((n : Int) == 0) = false := by simp [h0]
    replace hl := Lib.hid hl
    by_cases h200 : 200 < n
    · go_enter Tryz.func157, Tryz.ntmps157
      go_wp2
      go_ret
      exact ⟨ret_int (by rw [hF.out, if_neg h0, if_pos h200]), Ext.refl _⟩
    have hd : decide (200 < (n : Int)) = false := by simp; omega
    go_enter Tryz.func157, Tryz.ntmps157
    go_wp2
    go_loopw [13] (fun i w' => ∃ k : Nat, k ≤ n ∧ i = .int .i64 k ∧ Zeros (chkFor ls) k ∧ Ext w w') (fun i _ => n - (intOf i).toNat)
    case atStart => exact ⟨0, Nat.zero_le _, rfl, fun _ hj => by omega, Ext.refl _⟩
    case round =>
      obtain ⟨k, hk, rfl, hz, he⟩ := hrel
      have hbw := Nat.lt_of_lt_of_le hb he.size
      by_cases hlt : k < n
      · obtain ⟨s, hx⟩ := getD_some hl.out hlt
        have hsz := hs k s hx
        have hcell := (hE.ext he hb).str hx
        have hchk : chkFor ls k = if keyB s then (if 0 < k && leB s (atL ByteArray.empty ls (k - 1)) then 7 else 0) else 5 := by unfold chkFor; rw [atL_of hx]
        replace hx := Lib.hid hx
        replace hchk := Lib.hid hchk
        by_cases hk0 : 0 < k
        · obtain ⟨s1, hx1⟩ := getD_some (i := k - 1) hl.out (by omega)
          have hcell1 := (hE.ext he hb).str hx1
          replace hx1 := Lib.hid hx1
          go_wp2_with (go_at_call 86; refine (isKey_any s _ (by omega)).mono ?_; rintro e w1 ⟨rfl, hb1⟩; obtain ⟨hc1, hf1, hz1⟩ := hb1.walk)
          · go_ret
            exact ⟨ret_int (by rw [hF.out, if_neg h0, if_neg h200]; exact scan_is hz hlt (by rw [hchk.out]; simp_all) (by decide)), he.trans hb1⟩
          · go_ret
            exact ⟨ret_int (by rw [hF.out, if_neg h0, if_neg h200]; exact scan_is hz hlt (by rw [hchk.out, atL_of hx1.out]; simp_all [leB]) (by decide)), he.trans hb1⟩
          · go_roundw
            case rel => exact ⟨k + 1, by omega, by go_num, hz.succ (by rw [hchk.out, atL_of hx1.out]; simp_all [leB]), he.trans hb1⟩
            case measure => simp [intOf]; omega
        · have hk1 : ((k : Int) == 0) = true := by simp; omega
          go_wp2_with (go_at_call 86; refine (isKey_any s _ (by omega)).mono ?_; rintro e w1 ⟨rfl, hb1⟩; obtain ⟨hc1, hf1, hz1⟩ := hb1.walk)
          · go_ret
            exact ⟨ret_int (by rw [hF.out, if_neg h0, if_neg h200]; exact scan_is hz hlt (by rw [hchk.out]; simp_all) (by decide)), he.trans hb1⟩
          · go_roundw
            case rel => exact ⟨k + 1, by omega, by go_num, hz.succ (by rw [hchk.out]; simp_all), he.trans hb1⟩
            case measure => simp [intOf]; omega
      · go_wp2
        go_ret
        obtain rfl : k = n := by omega
        exact ⟨ret_int (by rw [hF.out, if_neg h0, if_neg h200, scan_zero hz]), he⟩

end Go.Proofs.YtjggcofjgeiapaaGreatDoor
