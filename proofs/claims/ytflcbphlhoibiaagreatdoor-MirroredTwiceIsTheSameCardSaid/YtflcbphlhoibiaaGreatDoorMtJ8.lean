/- Comparing plain numbers: the program's 'cmp' functions and the long product. Conditions: ranges as each theorem says. Who is paid for, by tour. Conditions: sizes. -/
import Derived.Test.YtflcbphlhoibiaaGreatDoorMtJ1
import Derived.Test.YtflcbphlhoibiaaGreatDoorMtShelf
import Derived.Test.YtflcbphlhoibiaaGreatDoorMtJ7
import Derived.Test.YtflcbphlhoibiaaGreatDoorMtJ3
import Derived.WalkLawsBesides
import Derived.Outline
set_option linter.unusedSimpArgs false
set_option linter.unusedVariables false
namespace Go.Proofs.YtflcbphlhoibiaaGreatDoor
open Go Go.RowKit

def hiN (m : Nat) : Int := ((m / 18446744073709551616 : Nat) : Int)
def loN (m : Nat) : Int := ((m % 18446744073709551616 : Nat) : Int)
def cmpN (x y : Nat) : Int := if x < y then -1 else if x = y then 0 else 1
def cmpZ (x y : Int) : Int := if x < y then -1 else if x = y then 0 else 1
theorem loN_range (m : Nat) : 0 ≤ loN m ∧ loN m ≤ 18446744073709551615 := by unfold loN; omega

set_option maxRecDepth 100000 in
theorem orInt_any (b off cap : Nat) (xs : List Int) (w : World) (hl : xs.length ≤ 1000) (hc : ∀ i, i < xs.length → w.cell? ⟨b, off + i, none⟩ = some (.int .i64 (xs.getD i 0))) :
    Calls Tryz.prog 64 #[.slice (some ⟨b, off, none⟩) xs.length cap] w fun e w' => e = .returned (.int .i64 (orF xs)) ∧ w = w' := by
  have HC := Lib.hid hc; clear hc
  go_enter Tryz.func64, Tryz.ntmps64
  go_wp2
  go_loop [8] (fun i => ∃ k : Nat, k ≤ xs.length ∧ i = .int .i64 k ∧ ZeroTo xs k) (fun i => xs.length - (intOf i).toNat)
  case atStart => exact ⟨0, Nat.zero_le _, rfl, fun j hj => by omega⟩
  case round =>
    obtain ⟨k, hk, rfl, hz⟩ := hrel
    by_cases hlt : k < xs.length
    · have hcell := HC.out k hlt
      obtain ⟨v, hv⟩ : ∃ v, xs.getD k 0 = v := ⟨_, rfl⟩
      rw [hv] at hcell
      have HV := Lib.hid hv; clear hv
      cases hx : v != 0
      · go_wp2
        go_round
        case rel => exact ⟨k + 1, by omega, by go_num, hz.succ (by rw [HV.out]; simpa using hx)⟩
        case measure => simp [intOf]; omega
      · go_wp2
        go_ret
        exact ⟨ret_int (by rw [orF_at xs k hlt hz (by rw [HV.out]; simpa using hx), HV.out]), rfl⟩
    · go_wp2
      go_ret
      exact ⟨ret_int (orF_zero xs k (by omega) hz).symm, rfl⟩

theorem orInt_blk (g t cap : Nat) (xs : List Int) (w : World) (hl : xs.length ≤ 1000) (hb : Blk w g t (xs.map (Value.int .i64)).toArray) :
    Calls Tryz.prog 64 #[.slice (some ⟨g, 0, none⟩) xs.length cap] w fun e w' => e = .returned (.int .i64 (orF xs)) ∧ w = w' :=
  orInt_any g 0 cap xs w hl fun i hi => by rw [hb.cell]; simp [hi]

/-- The long products decide as the numbers do. -/
theorem orF_cmp (x y : Nat) : orF [cmpZ (hiN x) (hiN y), cmpZ (loN x) (loN y)] = cmpN x y := by
  unfold orF orF orF cmpZ cmpN hiN loN
  have := Nat.div_add_mod x 18446744073709551616
  have := Nat.div_add_mod y 18446744073709551616
  by_cases h1 : x / 18446744073709551616 < y / 18446744073709551616
  · rw [if_pos (by omega : ((x / 18446744073709551616 : Nat) : Int) < _)]
    rw [if_pos (by omega : x < y)]
    rfl
  · rw [if_neg (by omega : ¬ ((x / 18446744073709551616 : Nat) : Int) < _)]
    by_cases h2 : x / 18446744073709551616 = y / 18446744073709551616
    · rw [if_pos (by omega : ((x / 18446744073709551616 : Nat) : Int) = _), if_pos rfl]
      by_cases h3 : x < y
      · rw [if_pos (by omega : ((x % 18446744073709551616 : Nat) : Int) < _), if_pos h3]; rfl
      · rw [if_neg (by omega : ¬ ((x % 18446744073709551616 : Nat) : Int) < _), if_neg h3]
        by_cases h4 : x = y
        · rw [if_pos (by omega : ((x % 18446744073709551616 : Nat) : Int) = _), if_pos h4]; rfl
        · rw [if_neg (by omega : ¬ ((x % 18446744073709551616 : Nat) : Int) = _), if_neg h4]; rfl
    · rw [if_neg (by omega : ¬ ((x / 18446744073709551616 : Nat) : Int) = _)]
      rw [if_neg (by omega : ¬ x < y), if_neg (by omega : ¬ x = y)]
      rfl

/-- The ways a comparison goes. -/
theorem cmp_ways (x y : Nat) : (hiN x < hiN y ∧ cmpN x y = -1) ∨ (hiN x = hiN y ∧ loN x < loN y ∧ cmpN x y = -1) ∨ (hiN x = hiN y ∧ loN x = loN y ∧ cmpN x y = 0) ∨ (hiN x = hiN y ∧ loN y < loN x ∧ cmpN x y = 1) ∨ (hiN y < hiN x ∧ cmpN x y = 1) := by
  unfold cmpN hiN loN
  have := Nat.div_add_mod x 18446744073709551616
  have := Nat.div_add_mod y 18446744073709551616
  by_cases h : x < y
  · rw [if_pos h]; omega
  · rw [if_neg h]
    by_cases h4 : x = y
    · rw [if_pos h4]; omega
    · rw [if_neg h4]; omega

end Go.Proofs.YtflcbphlhoibiaaGreatDoor

namespace Go.Proofs.YtflcbphlhoibiaaGreatDoor
open Go Go.RowKit

def chkFor (ls : List ByteArray) (i : Nat) : Int :=
  if keyB (atL ByteArray.empty ls i) then (if 0 < i && leB (atL ByteArray.empty ls i) (atL ByteArray.empty ls (i - 1)) then 7 else 0) else 5
def forF (ls : List ByteArray) : Int := if ls.length = 0 then 8 else if 200 < ls.length then 2 else scanF ls.length (chkFor ls)

set_option maxRecDepth 100000 in
theorem forFault_any (p : Option Addr) (n c : Nat) (ls : List ByteArray) (w : World) (h : Sl 1 strC w p n ls) (hs : ∀ (i : Nat) (s : ByteArray), ls[i]? = some s → s.size ≤ 1000000000) :
    Calls Tryz.prog 117 #[.slice p n c] w fun e w' => e = .returned (.int .i64 (forF ls)) ∧ Ext w w' := by
  have hn := h.2.1
  have hl := h.1
  have hF : forF ls = if n = 0 then 8 else if 200 < n then 2 else scanF n (chkFor ls) := by unfold forF; rw [hl]
  replace hF := Lib.hid hF
  by_cases h0 : n = 0
  · have h0' : ((n : Int) == 0) = true := by simp [h0]
    replace h0 := Lib.hid h0
    clear h hl
    go_enter Tryz.func117, Tryz.ntmps117
    go_wp2
    go_ret
    exact ⟨ret_int (by rw [hF.out, if_pos h0.out]), Ext.refl _⟩
  · obtain ⟨b, off, rfl, hb, hE⟩ := h.2.2 h0
    clear h
    have h0' : ((n : Int) == 0) = false := by simp [h0]
    replace hl := Lib.hid hl
    by_cases h200 : 200 < n
    · go_enter Tryz.func117, Tryz.ntmps117
      go_wp2
      go_ret
      exact ⟨ret_int (by rw [hF.out, if_neg h0, if_pos h200]), Ext.refl _⟩
    have hd : decide (200 < (n : Int)) = false := by simp; omega
    go_enter Tryz.func117, Tryz.ntmps117
    go_wp2
    go_loopw [13] (fun i w' => ∃ k : Nat, k ≤ n ∧ i = .int .i64 k ∧ Zeros (chkFor ls) k ∧ Ext w w') (fun i _ => n - (intOf i).toNat)
    case atStart => exact ⟨0, Nat.zero_le _, rfl, fun _ hj => by omega, Ext.refl _⟩
    case round =>
      obtain ⟨k, hk, rfl, hz, he⟩ := hrel
      have hbw := Nat.lt_of_lt_of_le hb he.size
      by_cases hlt : k < n
      · obtain ⟨s, hx⟩ := getD_some hl.out hlt
        have hsz := hs k s hx
        have hcell := (hE.ext he hb).str hx
        have hchk : chkFor ls k = if keyB s then (if 0 < k && leB s (atL ByteArray.empty ls (k - 1)) then 7 else 0) else 5 := by unfold chkFor; rw [atL_of hx]
        replace hx := Lib.hid hx
        replace hchk := Lib.hid hchk
        by_cases hk0 : 0 < k
        · obtain ⟨s1, hx1⟩ := getD_some (i := k - 1) hl.out (by omega)
          have hcell1 := (hE.ext he hb).str hx1
          replace hx1 := Lib.hid hx1
          go_wp2_with (go_at_call 68; refine (isKey_any s _ (by omega)).mono ?_; rintro e w1 ⟨rfl, hb1⟩; obtain ⟨hc1, hf1, hz1⟩ := hb1.walk)
          · go_ret
            exact ⟨ret_int (by rw [hF.out, if_neg h0, if_neg h200]; exact scan_is hz hlt (by rw [hchk.out]; simp_all) (by decide)), he.trans hb1⟩
          · go_ret
            exact ⟨ret_int (by rw [hF.out, if_neg h0, if_neg h200]; exact scan_is hz hlt (by rw [hchk.out, atL_of hx1.out]; simp_all [leB]) (by decide)), he.trans hb1⟩
          · go_roundw
            case rel => exact ⟨k + 1, by omega, by go_num, hz.succ (by rw [hchk.out, atL_of hx1.out]; simp_all [leB]), he.trans hb1⟩
            case measure => simp [intOf]; omega
        · have hk1 : ((k : Int) == 0) = true := by simp; omega
          go_wp2_with (go_at_call 68; refine (isKey_any s _ (by omega)).mono ?_; rintro e w1 ⟨rfl, hb1⟩; obtain ⟨hc1, hf1, hz1⟩ := hb1.walk)
          · go_ret
            exact ⟨ret_int (by rw [hF.out, if_neg h0, if_neg h200]; exact scan_is hz hlt (by rw [hchk.out]; simp_all) (by decide)), he.trans hb1⟩
          · go_roundw
            case rel => exact ⟨k + 1, by omega, by go_num, hz.succ (by rw [hchk.out]; simp_all), he.trans hb1⟩
            case measure => simp [intOf]; omega
      · go_wp2
        go_ret
        obtain rfl : k = n := by omega
        exact ⟨ret_int (by rw [hF.out, if_neg h0, if_neg h200, scan_zero hz]), he⟩

end Go.Proofs.YtflcbphlhoibiaaGreatDoor
