/- How many places a stage has, and whether they are enough, by both texts. Conditions: the stage is right. -/
import Derived.Test.YtfbegdcmnfkhgaaGreatDoorBtBeI
import Derived.Test.YtfbegdcmnfkhgaaGreatDoorBtStR
set_option linter.unusedSimpArgs false
set_option linter.unusedVariables false
namespace Go.Proofs.YtfbegdcmnfkhgaaGreatDoor
open Go Go.RowKit

def fullF (P : List PersonV) (wide : List Int) : Int := if sumT wide wide.length < P.length then 12 else 0
def bigF (P : List PersonV) (wide : List Int) : Int := if fullF P wide = 0 then (if 7 < (P.length : Int) ∨ 12 < sumT wide wide.length then 2 else 0) else fullF P wide
set_option maxRecDepth 100000 in
set_option maxHeartbeats 1600000 in
theorem placesOf_any (wp : Option Addr) (wcap : Nat) (wide : List Int) (hp : Option Addr) (hl hc : Nat) (w : World) (h : Slc 1 intC w wp wide.length wcap wide) (hwo : WideOk wide) :
    Calls Tryz.prog 39 #[.agg #[.slice wp wide.length wcap, .slice hp hl hc]] w fun e w' => e = .returned (.int .i64 (sumT wide wide.length)) ∧ Ext w w' := by
  have hE0 : Ext w (w.alloc (.cells #[.slice wp wide.length wcap, .slice hp hl hc] 29)) := (Ext.refl _).alloc _
  have hsb := sumT_bound hwo
  have hw10 := hwo.1
  replace hsb := Lib.hid hsb
  go_enter Tryz.func39, Tryz.ntmps39
  go_wp2
  go_loopw [3, 9] (fun v3 v9 wr => ∃ k : Nat, v3 = .int .i64 (sumT wide k) ∧ v9 = .int .i64 k ∧ k ≤ wide.length ∧ Ext w wr) (fun _ v9 _ => wide.length - (intOf v9).toNat)
  case atStart => exact ⟨0, rfl, rfl, Nat.zero_le _, hE0⟩
  case round =>
    obtain ⟨k, rfl, rfl, hk, hE⟩ := hrel
    by_cases hlt : k < wide.length
    · obtain ⟨x, hx⟩ := getD_some (rfl : wide.length = wide.length) hlt
      have hkI : (k : Int) < wide.length := by omega
      rcases (slcC h).2 with ⟨-, e⟩ | ⟨b, off, rfl, hb, hEl⟩
      · rw [e] at hx; cases hx
      have c0 := (hEl.ext hE hb).int hx
      have lb := Nat.lt_of_lt_of_le hb hE.size
      obtain ⟨v1, v2⟩ := hwo.2 x (List.mem_of_getElem? hx)
      have hs := sumT_succ hx
      obtain ⟨i1, i2, -⟩ := hsb.out k hk
      replace hs := Lib.hid hs
      clear hEl hx
      go_wp2
      go_roundw
      case rel => exact ⟨k + 1, by rw [hs.out], by go_num, by omega, hE⟩
      case measure => simp [intOf]; omega
    · obtain rfl : k = wide.length := by omega
      go_wp2
      go_ret
      exact ⟨rfl, hE⟩
set_option maxRecDepth 100000 in
set_option maxHeartbeats 1600000 in
theorem rfull_any (pp : Option Addr) (pc : Nat) (P : List PersonV) (wp : Option Addr) (wcap : Nat) (wide : List Int) (hp : Option Addr) (hl hc : Nat) (w : World) (h : Slc 1 intC w wp wide.length wcap wide) (hwo : WideOk wide) :
    Calls Tryz.prog 20 #[.slice pp P.length pc, .agg #[.slice wp wide.length wcap, .slice hp hl hc]] w fun e w' => e = .returned (.int .i64 (fullF P wide)) ∧ Ext w w' := by
  have hE0 : Ext w (w.alloc (.cells #[.slice wp wide.length wcap, .slice hp hl hc] 29)) := (Ext.refl _).alloc _
  have hsb := sumT_bound hwo
  have hw10 := hwo.1
  have hF : fullF P wide = if sumT wide wide.length < P.length then 12 else 0 := rfl
  replace hsb := Lib.hid hsb
  replace hF := Lib.hid hF
  go_enter Tryz.func20, Tryz.ntmps20
  go_wp2
  go_loopw [5, 11] (fun v5 v11 wr => ∃ k : Nat, v5 = .int .i64 (sumT wide k) ∧ v11 = .int .i64 k ∧ k ≤ wide.length ∧ Ext w wr) (fun _ v11 _ => wide.length - (intOf v11).toNat)
  case atStart => exact ⟨0, rfl, rfl, Nat.zero_le _, hE0⟩
  case round =>
    obtain ⟨k, rfl, rfl, hk, hE⟩ := hrel
    by_cases hlt : k < wide.length
    · obtain ⟨x, hx⟩ := getD_some (rfl : wide.length = wide.length) hlt
      have hkI : (k : Int) < wide.length := by omega
      rcases (slcC h).2 with ⟨-, e⟩ | ⟨b, off, rfl, hb, hEl⟩
      · rw [e] at hx; cases hx
      have c0 := (hEl.ext hE hb).int hx
      have lb := Nat.lt_of_lt_of_le hb hE.size
      obtain ⟨v1, v2⟩ := hwo.2 x (List.mem_of_getElem? hx)
      have hs := sumT_succ hx
      obtain ⟨i1, i2, -⟩ := hsb.out k hk
      replace hs := Lib.hid hs
      clear hEl hx
      go_wp2
      go_roundw
      case rel => exact ⟨k + 1, by rw [hs.out], by go_num, by omega, hE⟩
      case measure => simp [intOf]; omega
    · obtain rfl : k = wide.length := by omega
      by_cases hf : sumT wide wide.length < P.length
      all_goals
        go_wp2
        go_ret
        exact ⟨ret_int (by rw [hF.out]; simp [hf]), hE⟩
set_option maxRecDepth 100000 in
set_option maxHeartbeats 1600000 in
theorem rleast_any (pp : Option Addr) (pc : Nat) (P : List PersonV) (hP : P.length ≤ 1000) (wp : Option Addr) (wcap : Nat) (wide : List Int) (hp : Option Addr) (hl hc : Nat) (w : World) (h : Slc 1 intC w wp wide.length wcap wide) (hwo : WideOk wide) :
    Calls Tryz.prog 16 #[.slice pp P.length pc, .agg #[.slice wp wide.length wcap, .slice hp hl hc]] w fun e w' => e = .returned (.int .i64 (bigF P wide)) ∧ Ext w w' := by
  have hE0 : Ext w (w.alloc (.cells #[.slice wp wide.length wcap, .slice hp hl hc] 29)) := (Ext.refl _).alloc _
  have hB0 : Blk (w.alloc (.cells #[.slice wp wide.length wcap, .slice hp hl hc] 29)) w.heap.size 29 #[.slice wp wide.length wcap, .slice hp hl hc] := Blk.new' rfl
  have hsb := sumT_bound hwo
  have hw10 := hwo.1
  have hfl := fun u (hu : Ext w u) => rfull_any pp pc P wp wcap wide hp hl hc u (h.ext hu) hwo
  have hF : bigF P wide = if fullF P wide = 0 then (if 7 < (P.length : Int) ∨ 12 < sumT wide wide.length then 2 else 0) else fullF P wide := rfl
  generalize fullF P wide = ff at *
  replace hsb := Lib.hid hsb
  replace hF := Lib.hid hF
  replace hfl := Lib.hid hfl
  by_cases hf0 : ff = 0
  rotate_left
  · go_enter Tryz.func16, Tryz.ntmps16
    go_wp2_with (go_at_call 20; (with_reducible refine Calls.mono (hfl.out _ hE0) ?_); rintro e w1 ⟨rfl, hb1⟩)
    go_ret
    exact ⟨ret_int (by rw [hF.out, if_neg hf0]), hE0.trans hb1⟩
  subst hf0
  go_enter Tryz.func16, Tryz.ntmps16
  go_wp2_with (go_at_call 20; (with_reducible refine Calls.mono (hfl.out _ hE0) ?_); rintro e w1 ⟨rfl, hb1⟩; obtain ⟨y1, -⟩ := (hB0.ext hb1).walk; have bl := (hB0.ext hb1).lt; have E1 := hE0.trans hb1)
  go_loopw [6, 18] (fun v6 v18 wr => ∃ k : Nat, v6 = .int .i64 (sumT wide k) ∧ v18 = .int .i64 k ∧ k ≤ wide.length ∧ Ext w wr) (fun _ v18 _ => wide.length - (intOf v18).toNat)
  case atStart => exact ⟨0, rfl, rfl, Nat.zero_le _, E1⟩
  case round =>
    clear y1 bl
    obtain ⟨k, rfl, rfl, hk, hE⟩ := hrel
    by_cases hlt : k < wide.length
    · obtain ⟨x, hx⟩ := getD_some (rfl : wide.length = wide.length) hlt
      have hkI : (k : Int) < wide.length := by omega
      rcases (slcC h).2 with ⟨-, e⟩ | ⟨b, off, rfl, hb, hEl⟩
      · rw [e] at hx; cases hx
      have c0 := (hEl.ext hE hb).int hx
      have lb := Nat.lt_of_lt_of_le hb hE.size
      obtain ⟨v1, v2⟩ := hwo.2 x (List.mem_of_getElem? hx)
      have hs := sumT_succ hx
      obtain ⟨i1, i2, -⟩ := hsb.out k hk
      replace hs := Lib.hid hs
      clear hEl hx
      go_wp2
      go_roundw
      case rel => exact ⟨k + 1, by rw [hs.out], by go_num, by omega, hE⟩
      case measure => simp [intOf]; omega
    · obtain rfl : k = wide.length := by omega
      have hF2 : bigF P wide = if 7 < (P.length : Int) ∨ 12 < sumT wide wide.length then 2 else 0 := by have := hF.out; simpa using this
      clear hF
      have hF := Lib.hid hF2
      clear hF2
      by_cases h7 : 7 < (P.length : Int)
      · go_wp2
        go_ret
        exact ⟨ret_int (by rw [hF.out, if_pos (.inl h7)]), hE⟩
      · by_cases h12 : 12 < sumT wide wide.length
        · go_wp2
          go_ret
          exact ⟨ret_int (by rw [hF.out, if_pos (.inr h12)]), hE⟩
        · go_wp2
          go_ret
          exact ⟨ret_int (by rw [hF.out, if_neg (by omega)]), hE⟩
set_option maxRecDepth 100000 in
set_option maxHeartbeats 1600000 in
theorem full_any (pp : Option Addr) (pc : Nat) (P : List PersonV) (wp : Option Addr) (wcap : Nat) (wide : List Int) (hp : Option Addr) (hc : Nat) (high : List Int) (w : World) (h : PsM w pp pc P wp wcap wide hp hc high none 0 []) (hwo : ostF P wide high = 0 → WideOk wide) :
    Calls Tryz.prog 38 #[.slice pp P.length pc, .agg #[.slice wp wide.length wcap, .slice hp high.length hc]] w fun e w' => e = .returned (.int .i64 (if ostF P wide high = 0 then fullF P wide else ostF P wide high)) ∧ Ext w w' := by
  have hE0 : Ext w (w.alloc (.cells #[.slice wp wide.length wcap, .slice hp high.length hc] 29)) := (Ext.refl _).alloc _
  have hB0 : Blk (w.alloc (.cells #[.slice wp wide.length wcap, .slice hp high.length hc] 29)) w.heap.size 29 #[.slice wp wide.length wcap, .slice hp high.length hc] := Blk.new' rfl
  have hst := fun u (hu : Ext w u) => stageFault_any pp pc P wp wcap wide hp hc high none 0 [] u (h.more hu)
  generalize ostF P wide high = f at *
  replace hst := Lib.hid hst
  by_cases hf : f = 0
  rotate_left
  · rw [if_neg hf]
    go_enter Tryz.func38, Tryz.ntmps38
    go_wp2_with (go_at_call 69; (with_reducible refine Calls.mono (hst.out _ hE0) ?_); rintro e w1 ⟨rfl, hb1⟩)
    go_ret
    exact ⟨rfl, hE0.trans hb1⟩
  subst hf
  rw [if_pos rfl]
  have hpl := fun u (hu : Ext w u) => placesOf_any wp wcap wide hp high.length hc u (h.wid.ext hu) (hwo rfl)
  have hF : fullF P wide = if sumT wide wide.length < P.length then 12 else 0 := rfl
  generalize sumT wide wide.length = sm at *
  replace hpl := Lib.hid hpl
  replace hF := Lib.hid hF
  by_cases hlt : sm < P.length
  all_goals
    go_enter Tryz.func38, Tryz.ntmps38
    go_wp2_with (first
      | (go_at_call 69; (with_reducible refine Calls.mono (hst.out _ hE0) ?_); rintro e w1 ⟨rfl, hb1⟩; obtain ⟨y1, -⟩ := (hB0.ext hb1).walk; have bl := (hB0.ext hb1).lt; have E1 := hE0.trans hb1)
      | (go_at_call 39; (with_reducible refine Calls.mono (hpl.out _ E1) ?_); rintro e w2 ⟨rfl, hb2⟩))
    go_ret
    exact ⟨ret_int (by rw [hF.out]; simp [hlt]), E1.trans hb2⟩
end Go.Proofs.YtfbegdcmnfkhgaaGreatDoor
