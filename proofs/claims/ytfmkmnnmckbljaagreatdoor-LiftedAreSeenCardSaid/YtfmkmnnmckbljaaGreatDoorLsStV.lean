/- Which part of those who stand is seen: the walks. Conditions: people, stage and stands are in memory. -/
import Derived.Test.YtfmkmnnmckbljaaGreatDoorLsStU
import Derived.Test.YtfmkmnnmckbljaaGreatDoorLsTuneC
set_option linter.unusedSimpArgs false
set_option linter.unusedVariables false
namespace Go.Proofs.YtfmkmnnmckbljaaGreatDoor
open Go Go.RowKit

set_option maxRecDepth 100000 in
set_option maxHeartbeats 1600000 in
theorem lowest0_any (a b : Nat) (w : World) (ha' : a ≤ 9223372036854775807) (hb : 1 ≤ b) (hb' : b ≤ 9223372036854775807) :
    Calls Tryz.prog 41 #[.int .i64 a, .int .i64 b] w fun e w' => e = .returned (.agg #[.int .i64 (a / Nat.gcd a b : Nat), .int .i64 (b / Nat.gcd a b : Nat)]) ∧ Ext w w' := by
  go_enter Tryz.func41, Tryz.ntmps41
  go_wp2
  go_loopw [5, 6] (fun s t w' => ∃ x y : Nat, x ≤ 9223372036854775807 ∧ y ≤ 9223372036854775807 ∧ s = .int .i64 x ∧ t = .int .i64 y ∧ Hid (Nat.gcd x y = Nat.gcd a b) ∧ Blk w' w.heap.size 40 #[.int .i64 0, .int .i64 0] ∧ Ext w w') (fun _ t _ => (intOf t).toNat)
  case atStart => exact ⟨a, b, ha', hb', rfl, rfl, rfl, (by (repeat (with_reducible first | assumption | exact Blk.new' (by simp) | refine Blk.drew ?_ | refine Blk.alloc ?_ _ | exact Ext.refl _ | refine Ext.drew ?_ | refine Ext.alloc ?_ _))), (by (repeat (with_reducible first | assumption | exact Ext.refl _ | refine Ext.drew ?_ | refine Ext.alloc ?_ _ | refine Ext.setCell ?_ (by simp <;> omega) _ | refine Ext.trans ?_ (by assumption))))⟩
  case round =>
    obtain ⟨x, y, hx, hy, rfl, rfl, hg, hk, he⟩ := hrel
    by_cases h0 : y = 0
    · have h0' : ((y : Int) != 0) = false := by simp [h0]
      have hgx : x = Nat.gcd a b := by rw [← hg.out, h0]; simp
      have hx1 : ¬ x = 0 := by
        have : 0 < Nat.gcd a b := Nat.gcd_pos_of_pos_right _ (by omega)
        omega
      have HG := Lib.hid hgx
      clear hgx
      have hq1 : IntKind.i64.wrap ((a : Int) / (x : Int)) = ((a / x : Nat) : Int) := wrap_div a x ha'
      have hq2 : IntKind.i64.wrap ((b : Int) / (x : Int)) = ((b / x : Nat) : Int) := wrap_div b x hb'
      go_wp2
      refine wp_region_planS [(0, true), (1, true), (2, true), (3, true), (4, true), (5, true), (6, true)] 7 (fun w' => Blk w' w.heap.size 40 #[.int .i64 0, .int .i64 0] ∧ Ext w w') Ext (by kernel_rfl) (by kernel_rfl) Ext.refl (fun _ _ _ => Ext.trans) (fun _ _ h he => ⟨h.1.ext he, h.2.trans he⟩) ⟨(by (repeat (with_reducible first | assumption | exact Blk.new' (by simp) | refine Blk.drew ?_ | refine Blk.alloc ?_ _ | exact Ext.refl _ | refine Ext.drew ?_ | refine Ext.alloc ?_ _))), (by (repeat (with_reducible first | assumption | exact Blk.new' (by simp) | refine Blk.drew ?_ | refine Blk.alloc ?_ _ | exact Ext.refl _ | refine Ext.drew ?_ | refine Ext.alloc ?_ _)))⟩ ?_
      repeat
        first
          | (refine plan_quiet rfl rfl (fun _ _ _ _ h => h) ?_
             apply Exists.intro
             refine ⟨fun w' hw' => ?_, ?_⟩
             · obtain ⟨hH0, hH1⟩ := hw'
               unfold Blk at hH0
               simp [go_sem, quietTo, World.cell?, hH0, Ext.refl, ↓IntWalk.iteOmega, hx1, hq1, hq2]
               first
                 | rfl
             simp only [Act.put, List.setIfInBounds_toArray, List.set_cons_succ, List.set_cons_zero])
          | (refine plan_skip rfl rfl (fun _ _ _ _ h => h) ?_
             simp only [Act.put, List.setIfInBounds_toArray, List.set_cons_succ, List.set_cons_zero])
      refine plan_nil fun wr her hwr => ?_
      clear her
      obtain ⟨hH0, hH1⟩ := hwr
      obtain ⟨hC0, hF0⟩ := hH0.walk
      simp only [List.drop_succ_cons, List.drop_zero, List.drop_nil]
      clear hq1 hq2
      go_wp2
      go_light
      rw [HG.out]
      exact bodyPost_ret (v := .agg #[.int .i64 (a / Nat.gcd a b : Nat), .int .i64 (b / Nat.gcd a b : Nat)]) (by simp [results, Tryz.results41, go_sem, *]) rfl ⟨rfl, (by (repeat (with_reducible first | assumption | exact Ext.refl _ | refine Ext.drew ?_ | refine Ext.alloc ?_ _ | refine Ext.setCell ?_ (by simp <;> omega) _ | refine Ext.trans ?_ (by assumption))))⟩
    · have h0' : ((y : Int) != 0) = true := by simp [h0]
      have h1 : ((y : Int) == 0) = false := by simp [h0]
      go_wp2
      refine wp_region_planS [(0, true), (1, true), (2, true), (3, true), (4, true), (5, true)] 6 (fun w' => Blk w' w.heap.size 40 #[.int .i64 0, .int .i64 0] ∧ Ext w w') Ext (by kernel_rfl) (by kernel_rfl) Ext.refl (fun _ _ _ => Ext.trans) (fun _ _ h he => ⟨h.1.ext he, h.2.trans he⟩) ⟨(by (repeat (with_reducible first | assumption | exact Blk.new' (by simp) | refine Blk.drew ?_ | refine Blk.alloc ?_ _ | exact Ext.refl _ | refine Ext.drew ?_ | refine Ext.alloc ?_ _))), (by (repeat (with_reducible first | assumption | exact Blk.new' (by simp) | refine Blk.drew ?_ | refine Blk.alloc ?_ _ | exact Ext.refl _ | refine Ext.drew ?_ | refine Ext.alloc ?_ _)))⟩ ?_
      repeat
        first
          | (refine plan_quiet rfl rfl (fun _ _ _ _ h => h) ?_
             apply Exists.intro
             refine ⟨fun w' hw' => ?_, ?_⟩
             · obtain ⟨hH0, hH1⟩ := hw'
               unfold Blk at hH0
               simp [go_sem, quietTo, World.cell?, hH0, Ext.refl, ↓IntWalk.iteOmega, h1]
               first
                 | rfl
             simp only [Act.put, List.setIfInBounds_toArray, List.set_cons_succ, List.set_cons_zero])
          | (refine plan_skip rfl rfl (fun _ _ _ _ h => h) ?_
             simp only [Act.put, List.setIfInBounds_toArray, List.set_cons_succ, List.set_cons_zero])
      refine plan_nil fun wr her hwr => ?_
      clear her
      obtain ⟨hH0, hH1⟩ := hwr
      obtain ⟨hC0, hF0⟩ := hH0.walk
      simp only [List.drop_succ_cons, List.drop_zero, List.drop_nil]
      go_wp2
      go_roundw
      case rel => exact ⟨y, x % y, hy, Nat.le_trans (Nat.mod_le _ _) hx, rfl, val_tmod _ _, gcd_step _ _ _ hg.out, hH0, hH1⟩
      case measure =>
        have hlt : x % y < y := Nat.mod_lt _ (by omega)
        simp [intOf]
        rw [← Int.ofNat_tmod]
        simp
        omega


def fracC (a b : Nat) : Array Value := #[.int .i64 (a / Nat.gcd a b : Nat), .int .i64 (b / Nat.gcd a b : Nat)]
def hidAny (P : List PersonV) (wide high : List Int) (S : List StandV) (b : StandV) : Bool := S.any fun a => hidesS P wide high a b
theorem any_at {α : Type} {f : α → Bool} {S : List α} {i : Nat} {x : α} (h : S[i]? = some x) (hx : f x = true) : S.any f = true := List.any_eq_true.2 ⟨x, List.mem_of_getElem? h, hx⟩
theorem any_no {α : Type} {f : α → Bool} {S : List α} (h : ∀ (i : Nat) (x : α), i < S.length → S[i]? = some x → f x = false) : S.any f = false := by
  cases hh : S.any f
  · rfl
  · obtain ⟨x, hx, hf⟩ := List.any_eq_true.1 hh
    obtain ⟨i, hi, e⟩ := List.getElem_of_mem hx
    rw [h i x hi (by rw [List.getElem?_eq_getElem hi, e])] at hf
    cases hf

set_option maxRecDepth 100000 in
set_option maxHeartbeats 1600000 in
theorem isHidden_any (g : Nat) (pp : Option Addr) (pc : Nat) (P : List PersonV) (wp : Option Addr) (wcap : Nat) (wide : List Int) (hp : Option Addr) (hc : Nat) (high : List Int) (lp : Option Addr) (lc : Nat) (S : List StandV) (w : World) (h : ChM w g pp pc P wp wcap wide hp hc high lp lc S) (hok : StandsOk P wide high S) {k : Nat} {y : StandV} (hy : S[k]? = some y) :
    Calls Tryz.prog 40 #[.pointer (some ⟨g, 0, none⟩), .int .i64 k] w fun e w' => e = .returned (.bool (hidAny P wide high S y)) ∧ Ext w w' := by
  have hF : hidAny P wide high S y = S.any fun a => hidesS P wide high a y := rfl
  obtain ⟨b1, -⟩ := h.blk.walk
  have hlen := hok.len
  have hgl := h.blk.lt
  replace h := Lib.hid h
  replace hok := Lib.hid hok
  replace hy := Lib.hid hy
  replace hF := Lib.hid hF
  go_enter Tryz.func40, Tryz.ntmps40
  go_wp2
  go_loopw [11] (fun v11 wr => ∃ i : Nat, v11 = .int .i64 i ∧ i ≤ S.length ∧ (∀ (j : Nat) (x : StandV), j < i → S[j]? = some x → hidesS P wide high x y = false) ∧ Ext w wr) (fun v11 _ => S.length - (intOf v11).toNat)
  case atStart => exact ⟨0, rfl, Nat.zero_le _, (fun j x hj => absurd hj (Nat.not_lt_zero _)), Ext.refl _⟩
  case round =>
    obtain ⟨i, rfl, hi, hz, hE⟩ := hrel
    replace hz := Lib.hid hz
    by_cases hlt : i < S.length
    · obtain ⟨x, hx⟩ := getD_some (rfl : S.length = S.length) hlt
      have hhd := hides_any g pp pc P wp wcap wide hp hc high lp lc S wr (h.out.more hE) hok.out.po hok.out.wo hok.out.ho hok.out.wh (by omega) hok.out.on hok.out.all hx hy.out
      replace hx := Lib.hid hx
      have hiI : (i : Int) < S.length := by omega
      cases hh : hidesS P wide high x y
      · rw [hh] at hhd
        replace hhd := Lib.hid hhd
        go_wp2_with (go_at_call 39; (with_reducible refine Calls.mono hhd.out ?_); rintro e w2 ⟨rfl, hb2⟩)
        go_roundw
        case rel => exact ⟨i + 1, by go_num, by omega, (fun j z hj hjz => by
          rcases Nat.lt_or_ge j i with h1 | h1
          · exact hz.out j z h1 hjz
          · obtain rfl : j = i := by omega
            have := hx.out.symm.trans hjz
            cases this
            exact hh), hE.trans hb2⟩
        case measure => simp [intOf]; omega
      · rw [hh] at hhd
        replace hhd := Lib.hid hhd
        go_wp2_with (go_at_call 39; (with_reducible refine Calls.mono hhd.out ?_); rintro e w2 ⟨rfl, hb2⟩)
        go_ret
        exact ⟨ret_bool (by rw [hF.out]; exact (any_at hx.out hh).symm), hE.trans hb2⟩
    · obtain rfl : i = S.length := by omega
      go_wp2
      go_ret
      exact ⟨ret_bool (by rw [hF.out]; exact (any_no hz.out).symm), hE⟩

/-- How many are seen. -/
def seenN (P : List PersonV) (wide high : List Int) (S T : List StandV) : Nat := (T.filter fun b => !hidAny P wide high S b).length
theorem seenN_snoc {P : List PersonV} {wide high : List Int} {S T : List StandV} {k : Nat} {b : StandV} (h : T[k]? = some b) : seenN P wide high S (T.take (k + 1)) = if hidAny P wide high S b then seenN P wide high S (T.take k) else seenN P wide high S (T.take k) + 1 := by
  unfold seenN
  rw [take_snocL h, List.filter_append, List.length_append]
  cases hh : hidAny P wide high S b <;> simp [hh]
theorem seenN_le (P : List PersonV) (wide high : List Int) (S T : List StandV) : seenN P wide high S T ≤ T.length := List.length_filter_le _ _
def seenV (P : List PersonV) (wide high : List Int) (S : List StandV) : Array Value := if S.length = 0 then #[.int .i64 0, .int .i64 0] else fracC (seenN P wide high S S) S.length

set_option maxRecDepth 100000 in
set_option maxHeartbeats 3200000 in
theorem seen_ok (pp : Option Addr) (pc : Nat) (P : List PersonV) (wp : Option Addr) (wcap : Nat) (wide : List Int) (hp : Option Addr) (hc : Nat) (high : List Int) (lp : Option Addr) (lc : Nat) (S : List StandV) (w : World) (h1 : Slc 3 perC w pp P.length pc P) (h2 : Slc 1 intC w wp wide.length wcap wide) (h3 : Slc 1 intC w hp high.length hc high) (h4 : Slc 3 staC w lp S.length lc S) (hok : StandsOk P wide high S)
    (hck : ∀ u, Ext w u → Calls Tryz.prog 10 #[.slice pp P.length pc, .agg #[.slice wp wide.length wcap, .slice hp high.length hc], .slice lp S.length lc] u fun e w' => e = .returned (.int .i64 0) ∧ Ext u w') :
    Calls Tryz.prog 12 #[.slice pp P.length pc, .agg #[.slice wp wide.length wcap, .slice hp high.length hc], .slice lp S.length lc] w fun e w' => e = .returned (.tuple #[.agg (seenV P wide high S), .int .i64 (if S.length = 0 then 8 else 0)]) ∧ Ext w w' := by
  have hX : Blk ((w.alloc (.cells #[.slice wp wide.length wcap, .slice hp high.length hc] 28)).alloc (.cells #[.int .i64 0, .int .i64 0] 40)) w.heap.size 28 #[.slice wp wide.length wcap, .slice hp high.length hc] := (Blk.new' rfl).alloc _
  have hR : Blk ((w.alloc (.cells #[.slice wp wide.length wcap, .slice hp high.length hc] 28)).alloc (.cells #[.int .i64 0, .int .i64 0] 40)) (w.heap.size + 1) 40 #[.int .i64 0, .int .i64 0] := Blk.new' (by simp)
  have hE0 : Ext w ((w.alloc (.cells #[.slice wp wide.length wcap, .slice hp high.length hc] 28)).alloc (.cells #[.int .i64 0, .int .i64 0] 40)) := ((Ext.refl _).alloc _).alloc _
  have hco := choirOf_ok pp pc P wp wcap wide hp hc high lp lc S _ (h1.ext hE0) (h2.ext hE0) (h3.ext hE0) (h4.ext hE0) fun u hu => hck u (hE0.trans hu)
  have hlen := hok.len
  replace hco := Lib.hid hco
  replace hok := Lib.hid hok
  clear hck h1 h2 h3 h4
  by_cases hn0 : S.length = 0
  · have hv : seenV P wide high S = #[.int .i64 0, .int .i64 0] := by unfold seenV; rw [if_pos hn0]
    rw [hv, if_pos hn0]
    have hn0I : ((S.length : Int) == 0) = true := by rw [hn0]; rfl
    replace hn0 := Lib.hid hn0
    clear hv
    go_enter Tryz.func12, Tryz.ntmps12
    go_wp2_with (go_at_call 38; (with_reducible refine Calls.mono hco.out ?_); rintro e w1 ⟨g, rfl, hg, hb1, hM⟩; obtain ⟨q1, q2⟩ := (hR.ext hb1).walk; have lq := (hR.ext hb1).lt)
    have hE1 := hE0.trans hb1
    have hF1 := ((((hR.ext hb1).set_ 0 (.int .i64 0)).set_ 1 (.int .i64 0)).cast (cs' := #[.int .i64 0, .int .i64 0]) (by simp))
    go_light
    exact bodyPost_ret (v := .tuple #[.agg #[.int .i64 0, .int .i64 0], .int .i64 8]) (results_cell_row_tmp Tryz.results12 _ _ (w.heap.size + 1) 40 _ (0, 0) _ rfl hF1 Tryz.underlying40 rfl (by kernel_rfl) _ rfl) rfl ⟨rfl, (hE1.setCell (p := ⟨w.heap.size + 1, 0, none⟩) (Nat.le_succ _) _).setCell (p := ⟨w.heap.size + 1, 1, none⟩) (Nat.le_succ _) _⟩
  have hv : seenV P wide high S = fracC (seenN P wide high S S) S.length := by unfold seenV; rw [if_neg hn0]
  rw [hv, if_neg hn0]
  clear hv
  have hn0I : ((S.length : Int) == 0) = false := by simp; intro e; exact hn0 (by rw [e]; rfl)
  replace hn0 := Lib.hid hn0
  go_enter Tryz.func12, Tryz.ntmps12
  go_wp2_with (go_at_call 38; (with_reducible refine Calls.mono hco.out ?_); rintro e w1 ⟨g, rfl, hg, hb1, hM⟩)
  have hR1 := hR.ext hb1
  have hE1 := hE0.trans hb1
  clear hR hX hE0 hb1 hco
  go_loopw [10, 29] (fun v10 v29 wr => ∃ k : Nat, v29 = .int .i64 k ∧ v10 = .int .i64 (seenN P wide high S (S.take k)) ∧ k ≤ S.length ∧ Ext w1 wr) (fun _ v29 _ => S.length - (intOf v29).toNat)
  case atStart => exact ⟨0, rfl, rfl, Nat.zero_le _, Ext.refl _⟩
  case round =>
    obtain ⟨k, rfl, rfl, hk, hE⟩ := hrel
    by_cases hlt : k < S.length
    · obtain ⟨b, hb⟩ := getD_some (rfl : S.length = S.length) hlt
      have hkI : (k : Int) < S.length := by omega
      have hsn := seenN_snoc (P := P) (wide := wide) (high := high) (S := S) hb
      have hle := seenN_le P wide high S (S.take k)
      rw [List.length_take] at hle
      have hih := isHidden_any g pp pc P wp wcap wide hp hc high lp lc S wr (hM.more hE) hok.out hb
      generalize seenN P wide high S (S.take k) = q at *
      cases hh : hidAny P wide high S b
      all_goals
        rw [hh] at hih hsn
        simp only [Bool.false_eq_true, if_false, if_true] at hsn
        replace hih := Lib.hid hih
        replace hsn := Lib.hid hsn
        replace hb := Lib.hid hb
        go_wp2_with (go_at_call 40; (with_reducible refine Calls.mono hih.out ?_); rintro e w2 ⟨rfl, hb2⟩)
        go_roundw
        case rel => exact ⟨k + 1, by go_num, by rw [hsn.out] <;> first | done | go_num, by omega, hE.trans hb2⟩
        case measure => simp [intOf]; omega
    · obtain rfl : k = S.length := by omega
      rw [List.take_length]
      have hle := seenN_le P wide high S S
      generalize hqe : seenN P wide high S S = q at *
      replace hqe := Lib.hid hqe
      have hR2 := hR1.ext hE
      have hlo := fun u => lowest0_any q S.length u (by omega) (by have := hn0.out; omega) (by omega)
      replace hlo := Lib.hid hlo
      go_wp2_with (go_at_call 41; (with_reducible refine Calls.mono (hlo.out _) ?_); rintro e w2 ⟨rfl, hb2⟩; have hR3 := hR2.ext hb2; obtain ⟨q1, q2⟩ := hR3.walk; have lq := hR3.lt)
      have hE3 := (hE1.trans hE).trans hb2
      have hF1 := ((hR3.set_ 0 (.int .i64 (q / Nat.gcd q S.length : Nat))).set_ 1 (.int .i64 (S.length / Nat.gcd q S.length : Nat))).cast (cs' := fracC q S.length) (by simp [fracC])
      go_light
      exact bodyPost_ret (v := .tuple #[.agg (fracC q S.length), .int .i64 0]) (results_cell_row_tmp Tryz.results12 _ _ (w.heap.size + 1) 40 _ (0, 0) _ rfl hF1 Tryz.underlying40 rfl (by kernel_rfl) _ rfl) rfl ⟨by rw [hqe.out], (hE3.setCell (p := ⟨w.heap.size + 1, 0, none⟩) (Nat.le_succ _) _).setCell (p := ⟨w.heap.size + 1, 1, none⟩) (Nat.le_succ _) _⟩
end Go.Proofs.YtfmkmnnmckbljaaGreatDoor
