/- Which part of those who stand is seen, by the document's text. Conditions: people, stage and stands are right. -/
import Derived.Test.YtfmkmnnmckbljaaGreatDoorScSuD
import Derived.Test.YtfmkmnnmckbljaaGreatDoorScStT
import Derived.Shelf.SlicesQ.IndexFunc
namespace Go.Proofs.YtfmkmnnmckbljaaGreatDoor
open Go Go.RowKit

set_option maxRecDepth 100000 in
theorem rlowest_any (a b : Nat) (w : World) (ha' : a ≤ 1000) (hb : 1 ≤ b) (hb' : b ≤ 1000) :
    Calls Tryz.prog 44 #[.int .i64 a, .int .i64 b] w fun e w' => e = .returned (.agg (fracC a b)) ∧ Ext w w' := by
  have hR : Blk (w.alloc (.cells #[.int .i64 0, .int .i64 0] 40)) w.heap.size 40 #[.int .i64 0, .int .i64 0] := Blk.new' rfl
  have hE0 : Ext w (w.alloc (.cells #[.int .i64 0, .int .i64 0] 40)) := (Ext.refl _).alloc _
  have hdv := fun u => divisor_any a b u (by omega) (by omega)
  have hg1 : 1 ≤ Nat.gcd a b := Nat.gcd_pos_of_pos_right _ (by omega)
  generalize hg : Nat.gcd a b = g at *
  have hgb : g ≤ 1000 := by have := Nat.le_of_dvd (by omega) (Nat.gcd_dvd_right a b); omega
  have hq1 : IntKind.i64.wrap ((a : Int) / (g : Int)) = ((a / g : Nat) : Int) := wrap_div a g (by omega)
  have hq2 : IntKind.i64.wrap ((b : Int) / (g : Int)) = ((b / g : Nat) : Int) := wrap_div b g (by omega)
  have hx1 : ¬ g = 0 := by omega
  have hfr : fracC a b = #[.int .i64 ((a / g : Nat) : Int), .int .i64 ((b / g : Nat) : Int)] := by unfold fracC; rw [hg]
  rw [hfr]
  clear hfr
  replace hg := Lib.hid hg
  replace hdv := Lib.hid hdv
  have hn1 : ¬ (a : Int) < 0 := by omega
  have hmx : max (a : Int) (-(a : Int)) = a := by omega
  have hwn : IntKind.i64.wrap (-(a : Int)) = -(a : Int) := IntWalk.i64_in _ (by omega)
  have hle : ¬ (a : Int) < -(a : Int) := by omega
  go_enter Tryz.func44, Tryz.ntmps44
  go_upto_region 2 with (go_at_call 74; (with_reducible refine Calls.mono (hdv.out _) ?_); rintro e w1 ⟨rfl, hb1⟩)
  have hR1 := hR.ext hb1
  have hE1 := hE0.trans hb1
  refine wp_region_facts [] [([], false, false), ([], false, false), ([0, 1], false, false), ([], false, false), ([], false, false), ([3, 4], false, false), ([0, 1, 2, 3, 4, 5], false, false)] (Ext) Ext (fun _ => True) (by kernel_rfl) (by kernel_rfl) Ext.refl (fun _ _ _ => Ext.trans) (fun _ _ h => h) (fun _ _ h => h.size) (fun _ _ h _ => h) trivial ?_
  dsimp only [List.length_cons, List.length_nil, List.drop_succ_cons, List.drop_zero, List.drop_nil]
  refine fac_quiet 0 rfl rfl rfl (fun _ _ h _ => h) rfl rfl ?_
  apply Exists.intro
  refine ⟨fun sv w' hw' hfa => ?_, ?_⟩
  · refine ⟨rfl, ?_⟩
    simp only [putsL]
    change quietTo _ _ _ _ (Sem.run _ (execOp (Act.eval _) _) _)
    try simp only [Act.put, List.setIfInBounds_toArray, List.set_cons_succ, List.set_cons_zero]
    simp [go_sem, quietTo, Ext.refl]
    all_goals first
      | rfl
  refine fac_quiet 1 rfl rfl rfl (fun _ _ h _ => h) rfl rfl ?_
  apply Exists.intro
  refine ⟨fun sv w' hw' hfa => ?_, ?_⟩
  · refine ⟨rfl, ?_⟩
    simp only [putsL]
    change quietTo _ _ _ _ (Sem.run _ (execOp (Act.eval _) _) _)
    try simp only [Act.put, List.setIfInBounds_toArray, List.set_cons_succ, List.set_cons_zero]
    simp [go_sem, quietTo, Ext.refl]
    all_goals first
      | rfl
  refine fac_quiet 2 rfl rfl rfl (fun _ _ h _ => h) rfl rfl ?_
  apply Exists.intro
  refine ⟨fun sv w' hw' hfa => ?_, ?_⟩
  · obtain ⟨f0, f1, -⟩ := hfa
    replace f0 : sv 0 = _ := f0
    try dsimp only at f0
    replace f1 : sv 1 = _ := f1
    try dsimp only at f1
    refine ⟨rfl, ?_⟩
    simp only [putsL]
    change quietTo _ _ _ _ (Sem.run _ (execOp (Act.eval (Act.put (Act.put _ (some 13) (sv 1)) (some 12) (sv 0))) _) _)
    try simp only [Act.put, List.setIfInBounds_toArray, List.set_cons_succ, List.set_cons_zero]
    simp [go_sem, quietTo, Ext.refl, ↓IntWalk.iteOmega, f0, f1, hx1, hq1]
    all_goals try simp (disch := omega) only [IntWalk.i64_in]
    all_goals first
      | rfl
  refine fac_quiet 3 rfl rfl rfl (fun _ _ h _ => h) rfl rfl ?_
  apply Exists.intro
  refine ⟨fun sv w' hw' hfa => ?_, ?_⟩
  · refine ⟨rfl, ?_⟩
    simp only [putsL]
    change quietTo _ _ _ _ (Sem.run _ (execOp (Act.eval _) _) _)
    try simp only [Act.put, List.setIfInBounds_toArray, List.set_cons_succ, List.set_cons_zero]
    simp [go_sem, quietTo, Ext.refl]
    all_goals first
      | rfl
  refine fac_quiet 4 rfl rfl rfl (fun _ _ h _ => h) rfl rfl ?_
  apply Exists.intro
  refine ⟨fun sv w' hw' hfa => ?_, ?_⟩
  · refine ⟨rfl, ?_⟩
    simp only [putsL]
    change quietTo _ _ _ _ (Sem.run _ (execOp (Act.eval _) _) _)
    try simp only [Act.put, List.setIfInBounds_toArray, List.set_cons_succ, List.set_cons_zero]
    simp [go_sem, quietTo, Ext.refl]
    all_goals first
      | rfl
  refine fac_quiet 5 rfl rfl rfl (fun _ _ h _ => h) rfl rfl ?_
  apply Exists.intro
  refine ⟨fun sv w' hw' hfa => ?_, ?_⟩
  · obtain ⟨f3, f4, -⟩ := hfa
    replace f3 : sv 3 = _ := f3
    try dsimp only at f3
    replace f4 : sv 4 = _ := f4
    try dsimp only at f4
    refine ⟨rfl, ?_⟩
    simp only [putsL]
    change quietTo _ _ _ _ (Sem.run _ (execOp (Act.eval (Act.put (Act.put _ (some 16) (sv 4)) (some 15) (sv 3))) _) _)
    try simp only [Act.put, List.setIfInBounds_toArray, List.set_cons_succ, List.set_cons_zero]
    simp [go_sem, quietTo, Ext.refl, ↓IntWalk.iteOmega, f3, f4, hx1, hq2]
    all_goals try simp (disch := omega) only [IntWalk.i64_in]
    all_goals first
      | rfl
  refine fac_quiet 6 rfl rfl rfl (fun _ _ h _ => h) rfl rfl ?_
  apply Exists.intro
  refine ⟨fun sv w' hw' hfa => ?_, ?_⟩
  · obtain ⟨_, _, f2, _, _, f5, -⟩ := hfa
    replace f2 : sv 2 = _ := f2
    try dsimp only at f2
    replace f5 : sv 5 = _ := f5
    try dsimp only at f5
    refine ⟨rfl, ?_⟩
    simp only [putsL]
    change quietTo _ _ _ _ (Sem.run _ (execOp (Act.eval (Act.put (Act.put (Act.put (Act.put (Act.put (Act.put _ (some 17) (sv 5)) (some 16) (sv 4)) (some 15) (sv 3)) (some 14) (sv 2)) (some 13) (sv 1)) (some 12) (sv 0))) _) _)
    try simp only [Act.put, List.setIfInBounds_toArray, List.set_cons_succ, List.set_cons_zero]
    simp [go_sem, quietTo, Ext.refl, f2, f5]
    all_goals first
      | rfl
  refine fac_nil fun xq wrq herq hfrq hcrq holdq hapq => ?_
  obtain ⟨f0, f1, f2, f3, f4, f5, f6, -⟩ := hfrq
  replace f0 : xq 0 = _ := f0
  try dsimp only at f0
  replace f1 : xq 1 = _ := f1
  try dsimp only at f1
  replace f2 : xq 2 = _ := f2
  try dsimp only at f2
  replace f3 : xq 3 = _ := f3
  try dsimp only at f3
  replace f4 : xq 4 = _ := f4
  try dsimp only at f4
  replace f5 : xq 5 = _ := f5
  try dsimp only at f5
  replace f6 : xq 6 = _ := f6
  try dsimp only at f6
  change wpList _ _ _ _ (Act.put (Act.put (Act.put (Act.put (Act.put (Act.put (Act.put _ (some 12) (xq 0)) (some 13) (xq 1)) (some 14) (xq 2)) (some 15) (xq 3)) (some 16) (xq 4)) (some 17) (xq 5)) (some 18) (xq 6)) _
  simp only [putsL, Nat.reduceAdd, List.drop_succ_cons, List.drop_zero, List.drop_nil, Act.put, List.setIfInBounds_toArray, List.set_cons_succ, List.set_cons_zero]
  try simp only [f0, f1, f2, f3, f4, f5, f6]
  clear f0 f1 f2 f3 f4 f5 f6
  clear holdq hapq
  have hkq := (Ext.refl w1).drew.trans herq
  have hR2 := hR1.ext hkq
  have hE2 := hE1.trans hkq
  obtain ⟨r1, r2⟩ := hR2.walk
  have rl := hR2.lt
  have hF1 := ((hR2.set_ 0 (.int .i64 ((a / g : Nat) : Int))).set_ 1 (.int .i64 ((b / g : Nat) : Int))).cast (cs' := #[.int .i64 ((a / g : Nat) : Int), .int .i64 ((b / g : Nat) : Int)]) (by simp)
  go_wp2
  go_light
  exact bodyPost_ret (v := .agg #[.int .i64 ((a / g : Nat) : Int), .int .i64 ((b / g : Nat) : Int)]) (results_cell_row Tryz.results44 _ _ w.heap.size 40 _ (0, 0) _ rfl hF1 Tryz.underlying40 rfl (by kernel_rfl)) rfl ⟨rfl, (hE2.setCell (p := ⟨w.heap.size, 0, none⟩) (Nat.le_refl _) _).setCell (p := ⟨w.heap.size, 1, none⟩) (Nat.le_refl _) _⟩

set_option maxRecDepth 100000 in
theorem hid1Pred {pp : Option Addr} {pc : Nat} {P : List PersonV} {wp : Option Addr} {wcap : Nat} {wide : List Int} {hp : Option Addr} {hc : Nat} {high : List Int} {lp : Option Addr} {lc : Nat} {S : List StandV} {w : World} (h : PsM w pp pc P wp wcap wide hp hc high lp lc S) (hok : StandsOk P wide high S) {b : StandV} (hb : b ∈ S) (g3 g4 g9 : Nat)
    (h3 : Blk w g3 26 #[.slice pp P.length pc]) (h4 : Blk w g4 28 #[.slice wp wide.length wcap, .slice hp high.length hc]) (h9 : Blk w g9 61 #[.string b.name, .int .i64 b.row, .int .i64 b.place]) :
    PredBelow Tryz.prog 77 #[.pointer (some ⟨g3, 0, none⟩), .pointer (some ⟨g4, 0, none⟩), .pointer (some ⟨g9, 0, none⟩)] (fun y : {x // x ∈ S} => .agg (staC y.1).toArray) (fun y => hidesS P wide high y.1 b) w := fun W y hW => by
  have hE : Ext w W := hW
  have hEa := hE.alloc (.cells #[.string y.1.name, .int .i64 y.1.row, .int .i64 y.1.place] 61)
  have hhd := rhides_any pp pc P wp wcap wide hp hc high lp lc S _ (h.more hEa) hok y.2 hb
  obtain ⟨a1, -⟩ := (h3.ext hE).walk
  obtain ⟨a2, -⟩ := (h4.ext hE).walk
  obtain ⟨a3, -⟩ := (h9.ext hE).walk
  have l1 := (h3.ext hE).lt
  have l2 := (h4.ext hE).lt
  have l3 := (h9.ext hE).lt
  show Calls Tryz.prog 77 #[.agg #[.string y.1.name, .int .i64 y.1.row, .int .i64 y.1.place], .pointer (some ⟨g3, 0, none⟩), .pointer (some ⟨g4, 0, none⟩), .pointer (some ⟨g9, 0, none⟩)] W _
  replace hhd := Lib.hid hhd
  clear h hok h3 h4 h9 hW
  go_enter Tryz.func77, Tryz.ntmps77
  go_wp2_with (go_at_call 46; (with_reducible refine Calls.mono hhd.out ?_); rintro e w2 ⟨rfl, hb2⟩)
  go_ret
  exact ⟨rfl, hEa.trans hb2⟩
theorem hid1Has {pp : Option Addr} {pc : Nat} {P : List PersonV} {wp : Option Addr} {wcap : Nat} {wide : List Int} {hp : Option Addr} {hc : Nat} {high : List Int} {lp : Option Addr} {lc : Nat} {S : List StandV} {w : World} (h : PsM w pp pc P wp wcap wide hp hc high lp lc S) (hok : StandsOk P wide high S) {b : StandV} (hb : b ∈ S) (g3 g4 g9 : Nat)
    (h3 : Blk w g3 26 #[.slice pp P.length pc]) (h4 : Blk w g4 28 #[.slice wp wide.length wcap, .slice hp high.length hc]) (h9 : Blk w g9 61 #[.string b.name, .int .i64 b.row, .int .i64 b.place]) :
    Calls Tryz.prog 76 #[.slice lp S.length lc, .func (.func 77) #[] #[.pointer (some ⟨g3, 0, none⟩), .pointer (some ⟨g4, 0, none⟩), .pointer (some ⟨g9, 0, none⟩)]] w fun e w' => e = .returned (.bool (hidAny P wide high S b)) ∧ Ext w w' := by
  haveI : Inhabited {x // x ∈ S} := ⟨⟨b, hb⟩⟩
  rcases (slcC h.sta).2 with ⟨-, e⟩ | ⟨sb, so, rfl, hsb, hEl⟩
  · rw [e] at hb; cases hb
  have eg : ∀ args w, (callFunc 77 args).run Tryz.prog w = .ok (.enter 77 args) w := enters_of Tryz.func77 (by kernel_rfl) rfl
  have hat : ∀ j, j < S.attach.length → S[j]? = some (S.attach[j]!).1 := fun j hj => by
    rw [getElem!_pos S.attach j hj]
    simp at hj
    rw [List.getElem?_eq_getElem hj]
    simp
  have hlen := hok.len
  have := AnyQ.slices_ContainsFunc (α := {x // x ∈ S}) Tryz.lqcStand 3 Tryz.isAgg61 Tryz.sizeOf61 (fun y => staC y.1) (fun y => staC_len y.1) (fun y => hidesS P wide high y.1 b) 77 _ eg sb so S.length lc S.attach w
    (hid1Pred h hok hb g3 g4 g9 h3 h4 h9) (by simp) (by omega) hsb (fun j hj i v hi => hEl j _ (hat j hj) i v hi)
  rw [List.take_of_length_le (by simp)] at this
  have e2 : (S.attach.any fun y => hidesS P wide high y.1 b) = hidAny P wide high S b := by
    unfold hidAny
    show S.attach.any ((fun a => hidesS P wide high a b) ∘ Subtype.val) = _
    rw [← List.any_map, List.attach_map_subtype_val]
  rw [e2] at this
  exact this

/-- How many are hidden. -/
def hidN (P : List PersonV) (wide high : List Int) (S T : List StandV) : Nat := (T.filter fun b => hidAny P wide high S b).length
theorem hidN_snoc {P : List PersonV} {wide high : List Int} {S T : List StandV} {k : Nat} {b : StandV} (h : T[k]? = some b) : hidN P wide high S (T.take (k + 1)) = hidN P wide high S (T.take k) + (if hidAny P wide high S b then 1 else 0) := by
  unfold hidN
  rw [take_snocL h, List.filter_append, List.length_append]
  cases hh : hidAny P wide high S b <;> simp [hh]
theorem hidN_le (P : List PersonV) (wide high : List Int) (S T : List StandV) : hidN P wide high S T ≤ T.length := List.length_filter_le _ _
theorem hidN_seen (P : List PersonV) (wide high : List Int) (S : List StandV) : ∀ T, seenN P wide high S T + hidN P wide high S T = T.length
  | [] => rfl
  | b :: T => by
    have ih := hidN_seen P wide high S T
    unfold seenN hidN at *
    rw [List.filter_cons, List.filter_cons, List.length_cons]
    cases hh : hidAny P wide high S b <;> simp <;> omega

set_option maxRecDepth 100000 in
set_option maxHeartbeats 3200000 in
theorem hiddenMany_any (pp : Option Addr) (pc : Nat) (P : List PersonV) (wp : Option Addr) (wcap : Nat) (wide : List Int) (hp : Option Addr) (hc : Nat) (high : List Int) (lp : Option Addr) (lc : Nat) (S : List StandV) (w : World) (h : PsM w pp pc P wp wcap wide hp hc high lp lc S) (hok : StandsOk P wide high S) :
    Calls Tryz.prog 45 #[.slice pp P.length pc, .agg #[.slice wp wide.length wcap, .slice hp high.length hc], .slice lp S.length lc] w fun e w' => e = .returned (.int .i64 (hidN P wide high S S)) ∧ Ext w w' := by
  have h3 : Blk ((w.alloc (.cells #[.slice pp P.length pc] 26)).alloc (.cells #[.slice wp wide.length wcap, .slice hp high.length hc] 28)) w.heap.size 26 #[.slice pp P.length pc] := (Blk.new' rfl).alloc _
  have h4 : Blk ((w.alloc (.cells #[.slice pp P.length pc] 26)).alloc (.cells #[.slice wp wide.length wcap, .slice hp high.length hc] 28)) (w.heap.size + 1) 28 #[.slice wp wide.length wcap, .slice hp high.length hc] := Blk.new' (by simp)
  have hE0 : Ext w ((w.alloc (.cells #[.slice pp P.length pc] 26)).alloc (.cells #[.slice wp wide.length wcap, .slice hp high.length hc] 28)) := ((Ext.refl _).alloc _).alloc _
  have hlen := hok.len
  replace h := Lib.hid h
  replace hok := Lib.hid hok
  go_enter Tryz.func45, Tryz.ntmps45
  go_wp2
  generalize (w.alloc (.cells #[.slice pp P.length pc] 26)).alloc (.cells #[.slice wp wide.length wcap, .slice hp high.length hc] 28) = W at *
  go_loopw [7, 12] (fun v7 v12 wr => ∃ k : Nat, v12 = .int .i64 k ∧ v7 = .int .i64 (hidN P wide high S (S.take k)) ∧ k ≤ S.length ∧ Ext W wr) (fun _ v12 _ => S.length - (intOf v12).toNat)
  case atStart => exact ⟨0, rfl, rfl, Nat.zero_le _, Ext.refl _⟩
  case round =>
    obtain ⟨k, rfl, rfl, hk, hE⟩ := hrel
    by_cases hlt : k < S.length
    · obtain ⟨b, hb⟩ := getD_some (rfl : S.length = S.length) hlt
      have hbm := List.mem_of_getElem? hb
      have hkI : (k : Int) < S.length := by omega
      have hsn := hidN_snoc (P := P) (wide := wide) (high := high) (S := S) hb
      have hle := hidN_le P wide high S (S.take k)
      rw [List.length_take] at hle
      rcases (slcC h.out.sta).2 with ⟨-, e⟩ | ⟨sb, so, rfl, hsb, hEl⟩
      · rw [e] at hb; cases hb
      have hEw := hE0.trans hE
      obtain ⟨c0, c1, c2⟩ := (hEl.ext hEw hsb).sta hb
      have hbw := Nat.lt_of_lt_of_le hsb hEw.size
      have hEa := hE.alloc (.cells #[.string b.name, .int .i64 b.row, .int .i64 b.place] 61)
      have hih := hid1Has (h.out.more (hE0.trans hEa)) hok.out hbm w.heap.size (w.heap.size + 1) wr.heap.size (h3.ext hEa) (h4.ext hEa) (Blk.new' rfl)
      generalize hidN P wide high S (S.take k) = q at *
      replace hb := Lib.hid hb
      clear hEl
      cases hh : hidAny P wide high S b
      all_goals
        rw [hh] at hih hsn
        simp only [Bool.false_eq_true, if_false, if_true] at hsn
        replace hih := Lib.hid hih
        replace hsn := Lib.hid hsn
        go_wp2_with (first
          | (go_at_call 76; (with_reducible refine Calls.mono hih.out ?_); rintro e w2 ⟨rfl, hb2⟩)
          | (go_at_call 75; (with_reducible refine Calls.mono (truth_any _ _) ?_); rintro e w3 ⟨rfl, rfl⟩))
        go_roundw
        case rel => exact ⟨k + 1, by go_num, by rw [hsn.out] <;> first | done | go_num, by omega, hEa.trans hb2⟩
        case measure => simp [intOf]; omega
    · obtain rfl : k = S.length := by omega
      rw [List.take_length]
      go_wp2
      go_ret
      exact ⟨rfl, hE0.trans hE⟩
end Go.Proofs.YtfmkmnnmckbljaaGreatDoor
