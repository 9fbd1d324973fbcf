/- The places of a stage; the document's search finds what the search that leaves off finds: plain mathematics. Conditions: as each theorem says. Rows of people by their height: plain mathematics. Conditions: as each theorem says. How many places a stage has, and whether they are enough, by both texts. Conditions: the stage is right. -/
import Derived.Test.YtfcoeikekbjgpaaGreatDoorRxJ30
import Derived.Test.YtfcoeikekbjgpaaGreatDoorRxJ19
import Derived.Test.YtfcoeikekbjgpaaGreatDoorRxJ21
import Derived.Test.YtfcoeikekbjgpaaGreatDoorRxStR
set_option linter.unusedSimpArgs false
set_option linter.unusedVariables false
namespace Go.Proofs.YtfcoeikekbjgpaaGreatDoor
open Go Go.RowKit

def plRow (wide : List Int) (r : Nat) : List StandV := (List.range (wide.getD r 0).toNat).map fun x : Nat => ⟨⟨#[]⟩, r, x⟩
/-- The places of the rows before r, and x places of row r. -/
def plT (wide : List Int) (r x : Nat) : List StandV := ((List.range r).flatMap fun r => plRow wide r) ++ (plRow wide r).take x
theorem plRow_len (wide : List Int) (r : Nat) : (plRow wide r).length = (wide.getD r 0).toNat := by simp [plRow]
theorem plT_row (wide : List Int) (r : Nat) : plT wide r (wide.getD r 0).toNat = plT wide (r + 1) 0 := by
  unfold plT
  rw [List.take_of_length_le (by rw [plRow_len]; exact Nat.le_refl _), List.range_succ, List.flatMap_append]
  simp
def sumT (wide : List Int) (k : Nat) : Int := (wide.take k).foldl (· + ·) 0
theorem sumT_succ {wide : List Int} {k : Nat} {v : Int} (h : wide[k]? = some v) : sumT wide (k + 1) = sumT wide k + v := by unfold sumT; rw [take_snocL h, List.foldl_append]; rfl
theorem sumT_bound {wide : List Int} (h : WideOk wide) : ∀ k, k ≤ wide.length → 0 ≤ sumT wide k ∧ sumT wide k ≤ 30 * k ∧ ((plT wide k 0).length : Int) = sumT wide k
  | 0, _ => by simp [sumT, plT]
  | k + 1, hk => by
    obtain ⟨v, hv⟩ := getD_some (rfl : wide.length = wide.length) (show k < wide.length by omega)
    obtain ⟨i1, i2, i3⟩ := sumT_bound h k (by omega)
    obtain ⟨v1, v2⟩ := h.2 v (List.mem_of_getElem? hv)
    rw [sumT_succ hv]
    refine ⟨by omega, by omega, ?_⟩
    rw [← plT_row]
    have e : wide.getD k 0 = v := by rw [List.getD_eq_getElem?_getD, hv]; rfl
    have e2 : (plT wide k v.toNat).length = (plT wide k 0).length + v.toNat := by
      unfold plT
      rw [List.length_append, List.length_append, List.take_of_length_le (by rw [plRow_len, e]; exact Nat.le_refl _), plRow_len, e]
      simp
    rw [e, e2]
    omega
section
variable {P : List PersonV} {wide high : List Int} {all : List StandV}
end
end Go.Proofs.YtfcoeikekbjgpaaGreatDoor

namespace Go.Proofs.YtfcoeikekbjgpaaGreatDoor
open Go Go.RowKit

/-- People in the middle of a row. -/
def rowP (wide : List Int) (r : Nat) (Q : List PersonV) : List StandV := (List.range Q.length).map fun i => ⟨(Q.getD i default).name, r, (wide.getD r 0 - Q.length) / 2 + i⟩
theorem rowP_len (wide : List Int) (r : Nat) (Q : List PersonV) : (rowP wide r Q).length = Q.length := by simp [rowP]
theorem rowP_at {wide : List Int} {r : Nat} {Q : List PersonV} {i : Nat} {x : PersonV} (h : Q[i]? = some x) : (rowP wide r Q)[i]? = some ⟨x.name, r, (wide.getD r 0 - Q.length) / 2 + i⟩ := by
  have hi := (List.getElem?_eq_some_iff.1 h).1
  unfold rowP
  rw [List.getElem?_map, List.getElem?_range hi]
  simp [List.getD_eq_getElem?_getD, h]
/-- How many are left ahead of row r, and how many stand in it. -/
def leftN (wide : List Int) (n : Nat) : Nat → Nat
  | 0 => n
  | r + 1 => leftN wide n r - min (wide.getD r 0).toNat (leftN wide n r)
def takeN (wide : List Int) (n r : Nat) : Nat := min (wide.getD r 0).toNat (leftN wide n r)
theorem leftN_succ (wide : List Int) (n r : Nat) : leftN wide n (r + 1) = leftN wide n r - takeN wide n r := rfl
theorem leftN_le (wide : List Int) (n : Nat) : ∀ r, leftN wide n r ≤ n
  | 0 => Nat.le_refl _
  | r + 1 => by have := leftN_le wide n r; rw [leftN_succ]; omega
theorem takeN_le (wide : List Int) (n r : Nat) : takeN wide n r ≤ leftN wide n r := Nat.min_le_right _ _
theorem takeN_wide (wide : List Int) (n r : Nat) : takeN wide n r ≤ (wide.getD r 0).toNat := Nat.min_le_left _ _
def manyL (wide : List Int) (n k : Nat) : List Int := (List.range k).map fun r => (takeN wide n r : Int)
theorem manyL_len (wide : List Int) (n k : Nat) : (manyL wide n k).length = k := by simp [manyL]
theorem manyL_succ (wide : List Int) (n k : Nat) : manyL wide n (k + 1) = manyL wide n k ++ [(takeN wide n k : Int)] := by simp [manyL, List.range_succ]
theorem manyL_at {wide : List Int} {n k r : Nat} (h : r < k) : (manyL wide n k)[r]? = some (takeN wide n r : Int) := by
  unfold manyL; rw [List.getElem?_map, List.getElem?_range h]; rfl
/-- Those who are left ahead of row r. -/
def restP (wide : List Int) (M : List PersonV) (r : Nat) : List PersonV := M.drop (M.length - leftN wide M.length r)
theorem restP_len (wide : List Int) (M : List PersonV) (r : Nat) : (restP wide M r).length = leftN wide M.length r := by
  unfold restP
  have := leftN_le wide M.length r
  rw [List.length_drop]; omega
theorem restP_zero (wide : List Int) (M : List PersonV) : restP wide M 0 = M := by simp [restP, leftN]
theorem restP_succ (wide : List Int) (M : List PersonV) (r : Nat) : restP wide M (r + 1) = (restP wide M r).drop (takeN wide M.length r) := by
  unfold restP
  have h1 := leftN_le wide M.length r
  have h2 := takeN_le wide M.length r
  rw [List.drop_drop, leftN_succ]
  congr 1
  omega
def headP (wide : List Int) (M : List PersonV) (r : Nat) : List PersonV := (restP wide M r).take (takeN wide M.length r)
theorem headP_len (wide : List Int) (M : List PersonV) (r : Nat) : (headP wide M r).length = takeN wide M.length r := by
  unfold headP
  rw [List.length_take, restP_len]
  exact Nat.min_eq_left (takeN_le _ _ _)
def bhL (wide : List Int) (M : List PersonV) (r : Nat) : List StandV := (List.range r).flatMap fun r => rowP wide r (headP wide M r)
theorem bhL_succ (wide : List Int) (M : List PersonV) (r : Nat) : bhL wide M (r + 1) = bhL wide M r ++ rowP wide r (headP wide M r) := by
  unfold bhL
  rw [List.range_succ, List.flatMap_append]
  simp
theorem bhL_len (wide : List Int) (M : List PersonV) : ∀ r, (bhL wide M r).length = M.length - leftN wide M.length r
  | 0 => by simp [bhL, leftN]
  | r + 1 => by
    rw [bhL_succ, List.length_append, bhL_len wide M r, rowP_len, headP_len, leftN_succ]
    have h1 := leftN_le wide M.length r
    have h2 := takeN_le wide M.length r
    omega
end Go.Proofs.YtfcoeikekbjgpaaGreatDoor

namespace Go.Proofs.YtfcoeikekbjgpaaGreatDoor
open Go Go.RowKit

def fullF (P : List PersonV) (wide : List Int) : Int := if sumT wide wide.length < P.length then 12 else 0
set_option maxRecDepth 100000 in
set_option maxHeartbeats 1600000 in
theorem placesOf_any (wp : Option Addr) (wcap : Nat) (wide : List Int) (hp : Option Addr) (hl hc : Nat) (w : World) (h : Slc 1 intC w wp wide.length wcap wide) (hwo : WideOk wide) :
    Calls Tryz.prog 73 #[.agg #[.slice wp wide.length wcap, .slice hp hl hc]] w fun e w' => e = .returned (.int .i64 (sumT wide wide.length)) ∧ Ext w w' := by
  have hE0 : Ext w (w.alloc (.cells #[.slice wp wide.length wcap, .slice hp hl hc] 29)) := (Ext.refl _).alloc _
  have hsb := sumT_bound hwo
  have hw10 := hwo.1
  replace hsb := Lib.hid hsb
  go_enter Tryz.func73, Tryz.ntmps73
  go_wp2
  go_loopw [3, 9] (fun v3 v9 wr => ∃ k : Nat, v3 = .int .i64 (sumT wide k) ∧ v9 = .int .i64 k ∧ k ≤ wide.length ∧ Ext w wr) (fun _ v9 _ => wide.length - (intOf v9).toNat)
  case atStart => exact ⟨0, rfl, rfl, Nat.zero_le _, hE0⟩
  case round =>
    obtain ⟨k, rfl, rfl, hk, hE⟩ := hrel
    by_cases hlt : k < wide.length
    · obtain ⟨x, hx⟩ := getD_some (rfl : wide.length = wide.length) hlt
      have hkI : (k : Int) < wide.length := by omega
      rcases (slcC h).2 with ⟨-, e⟩ | ⟨b, off, rfl, hb, hEl⟩
      · rw [e] at hx; cases hx
      have c0 := (hEl.ext hE hb).int hx
      have lb := Nat.lt_of_lt_of_le hb hE.size
      obtain ⟨v1, v2⟩ := hwo.2 x (List.mem_of_getElem? hx)
      have hs := sumT_succ hx
      obtain ⟨i1, i2, -⟩ := hsb.out k hk
      replace hs := Lib.hid hs
      clear hEl hx
      go_wp2
      go_roundw
      case rel => exact ⟨k + 1, by rw [hs.out], by go_num, by omega, hE⟩
      case measure => simp [intOf]; omega
    · obtain rfl : k = wide.length := by omega
      go_wp2
      go_ret
      exact ⟨rfl, hE⟩
set_option maxRecDepth 100000 in
set_option maxHeartbeats 1600000 in
theorem rfull_any (pp : Option Addr) (pc : Nat) (P : List PersonV) (wp : Option Addr) (wcap : Nat) (wide : List Int) (hp : Option Addr) (hl hc : Nat) (w : World) (h : Slc 1 intC w wp wide.length wcap wide) (hwo : WideOk wide) :
    Calls Tryz.prog 13 #[.slice pp P.length pc, .agg #[.slice wp wide.length wcap, .slice hp hl hc]] w fun e w' => e = .returned (.int .i64 (fullF P wide)) ∧ Ext w w' := by
  have hE0 : Ext w (w.alloc (.cells #[.slice wp wide.length wcap, .slice hp hl hc] 29)) := (Ext.refl _).alloc _
  have hsb := sumT_bound hwo
  have hw10 := hwo.1
  have hF : fullF P wide = if sumT wide wide.length < P.length then 12 else 0 := rfl
  replace hsb := Lib.hid hsb
  replace hF := Lib.hid hF
  go_enter Tryz.func13, Tryz.ntmps13
  go_wp2
  go_loopw [5, 11] (fun v5 v11 wr => ∃ k : Nat, v5 = .int .i64 (sumT wide k) ∧ v11 = .int .i64 k ∧ k ≤ wide.length ∧ Ext w wr) (fun _ v11 _ => wide.length - (intOf v11).toNat)
  case atStart => exact ⟨0, rfl, rfl, Nat.zero_le _, hE0⟩
  case round =>
    obtain ⟨k, rfl, rfl, hk, hE⟩ := hrel
    by_cases hlt : k < wide.length
    · obtain ⟨x, hx⟩ := getD_some (rfl : wide.length = wide.length) hlt
      have hkI : (k : Int) < wide.length := by omega
      rcases (slcC h).2 with ⟨-, e⟩ | ⟨b, off, rfl, hb, hEl⟩
      · rw [e] at hx; cases hx
      have c0 := (hEl.ext hE hb).int hx
      have lb := Nat.lt_of_lt_of_le hb hE.size
      obtain ⟨v1, v2⟩ := hwo.2 x (List.mem_of_getElem? hx)
      have hs := sumT_succ hx
      obtain ⟨i1, i2, -⟩ := hsb.out k hk
      replace hs := Lib.hid hs
      clear hEl hx
      go_wp2
      go_roundw
      case rel => exact ⟨k + 1, by rw [hs.out], by go_num, by omega, hE⟩
      case measure => simp [intOf]; omega
    · obtain rfl : k = wide.length := by omega
      by_cases hf : sumT wide wide.length < P.length
      all_goals
        go_wp2
        go_ret
        exact ⟨ret_int (by rw [hF.out]; simp [hf]), hE⟩
set_option maxRecDepth 100000 in
set_option maxHeartbeats 1600000 in
theorem full_any (pp : Option Addr) (pc : Nat) (P : List PersonV) (wp : Option Addr) (wcap : Nat) (wide : List Int) (hp : Option Addr) (hc : Nat) (high : List Int) (w : World) (h : PsM w pp pc P wp wcap wide hp hc high none 0 []) (hwo : ostF P wide high = 0 → WideOk wide) :
    Calls Tryz.prog 35 #[.slice pp P.length pc, .agg #[.slice wp wide.length wcap, .slice hp high.length hc]] w fun e w' => e = .returned (.int .i64 (if ostF P wide high = 0 then fullF P wide else ostF P wide high)) ∧ Ext w w' := by
  have hE0 : Ext w (w.alloc (.cells #[.slice wp wide.length wcap, .slice hp high.length hc] 29)) := (Ext.refl _).alloc _
  have hB0 : Blk (w.alloc (.cells #[.slice wp wide.length wcap, .slice hp high.length hc] 29)) w.heap.size 29 #[.slice wp wide.length wcap, .slice hp high.length hc] := Blk.new' rfl
  have hst := fun u (hu : Ext w u) => stageFault_any pp pc P wp wcap wide hp hc high none 0 [] u (h.more hu)
  generalize ostF P wide high = f at *
  replace hst := Lib.hid hst
  by_cases hf : f = 0
  rotate_left
  · rw [if_neg hf]
    go_enter Tryz.func35, Tryz.ntmps35
    go_wp2_with (go_at_call 72; (with_reducible refine Calls.mono (hst.out _ hE0) ?_); rintro e w1 ⟨rfl, hb1⟩)
    go_ret
    exact ⟨rfl, hE0.trans hb1⟩
  subst hf
  rw [if_pos rfl]
  have hpl := fun u (hu : Ext w u) => placesOf_any wp wcap wide hp high.length hc u (h.wid.ext hu) (hwo rfl)
  have hF : fullF P wide = if sumT wide wide.length < P.length then 12 else 0 := rfl
  generalize sumT wide wide.length = sm at *
  replace hpl := Lib.hid hpl
  replace hF := Lib.hid hF
  by_cases hlt : sm < P.length
  all_goals
    go_enter Tryz.func35, Tryz.ntmps35
    go_wp2_with (first
      | (go_at_call 72; (with_reducible refine Calls.mono (hst.out _ hE0) ?_); rintro e w1 ⟨rfl, hb1⟩; obtain ⟨y1, -⟩ := (hB0.ext hb1).walk; have bl := (hB0.ext hb1).lt; have E1 := hE0.trans hb1)
      | (go_at_call 73; (with_reducible refine Calls.mono (hpl.out _ E1) ?_); rintro e w2 ⟨rfl, hb2⟩))
    go_ret
    exact ⟨ret_int (by rw [hF.out]; simp [hlt]), E1.trans hb2⟩
end Go.Proofs.YtfcoeikekbjgpaaGreatDoor
