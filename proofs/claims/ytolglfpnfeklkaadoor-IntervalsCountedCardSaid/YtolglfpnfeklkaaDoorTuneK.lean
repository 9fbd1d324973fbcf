/- An interval in its octave, by the second text. Conditions: the interval is right. -/
import Derived.Test.YtolglfpnfeklkaaDoorTuneJ
namespace Go.Proofs.YtolglfpnfeklkaaDoor
open Go Go.RowKit

theorem right_plain {x : I4} (h : rightB x = true) : rightB x.plain = true := by
  have := right_bounds h
  apply right_of_bounds
  simp only [I4.plain]
  omega

set_option maxRecDepth 100000 in
set_option maxHeartbeats 3200000 in
theorem withinOf_any (x : I4) (w : World) (hr : rightB x = true) :
    Calls Tryd.prog 13 #[.agg #[.int .i64 x.a, .int .i64 x.b, .int .i64 x.c, .int .i64 x.d]] w fun e w' =>
      e = .returned (.tuple #[.agg #[.int .i64 (okI (shiftI x)).a, .int .i64 (okI (shiftI x)).b, .int .i64 (okI (shiftI x)).c, .int .i64 (okI (shiftI x)).d], .int .i64 (octR x), .int .i64 (faultI (shiftI x))]) ∧ Ext w w' := by
  have hB := right_bounds hr
  have hr' := right_plain hr
  have b1 := (qn_le hr').2.2.2
  have b2 : qd x.plain 4 ≤ _ := (qn_le (right_neg hr')).2.2.2
  have c1 := qn_pos x.plain 4
  have c2 : 1 ≤ qd x.plain 4 := qn_pos x.plain.neg_ 4
  have ho := octN_range c1 c2 b1 b2
  have hp : shiftI x = ⟨-octI x.plain, x.b, x.c, x.d⟩ := by unfold shiftI; rw [octI_plain]; congr 1; omega
  have hq := octI_plain x
  change -60 ≤ octI x.plain ∧ octI x.plain ≤ 60 at ho
  cases hs : rightB (shiftI x)
  · have e1 : okI (shiftI x) = (⟨0, 0, 0, 0⟩ : I4) := by unfold okI; rw [hs]; first | rfl | exact hp
    have e2 : octR x = 0 := by unfold octR; rw [hs]; first | rfl | (rw [if_pos rfl]; omega)
    have e3 : faultI (shiftI x) = 1 := by unfold faultI; rw [hs]; rfl
    have e4 : okI ⟨-octI x.plain, x.b, x.c, x.d⟩ = (⟨0, 0, 0, 0⟩ : I4) := by
      have := e1
      rw [hp] at this
      exact this
    rw [e1, e2, e3]
    have hG2 : faultI ⟨-octI x.plain, x.b, x.c, x.d⟩ = 1 := by rw [← hp]; exact e3
    clear e1 e2 e3 hs hp hq
    go_enter Tryd.func13, Tryd.ntmps13
    go_wp2_with (go_at_call 14; refine (quotientOf_any x.plain _ hr').mono ?_; rintro e w1 ⟨rfl, hb1⟩; obtain ⟨hc1, hf1, hz1⟩ := hb1.walk; (try simp only [World.size_alloc, World.size_setCell, World.size_drew] at hz1))
    have hX : Blk w1 w.heap.size 27 #[.int .i64 x.a, .int .i64 x.b, .int .i64 x.c, .int .i64 x.d] := Blk.ext (by (repeat (with_reducible first | assumption | exact Blk.new' (by simp) | refine Blk.drew ?_ | refine Blk.alloc ?_ _ | exact Ext.refl _ | refine Ext.drew ?_ | refine Ext.alloc ?_ _))) hb1
    have hR : Blk w1 (w.heap.size + 1) 27 #[.int .i64 0, .int .i64 0, .int .i64 0, .int .i64 0] := Blk.ext (by (repeat (with_reducible first | assumption | exact Blk.new' (by simp) | refine Blk.drew ?_ | refine Blk.alloc ?_ _ | exact Ext.refl _ | refine Ext.drew ?_ | refine Ext.alloc ?_ _))) hb1
    have hP : Blk w1 (w.heap.size + 1 + 1) 27 #[.int .i64 0, .int .i64 x.b, .int .i64 x.c, .int .i64 x.d] := Blk.ext (by (repeat (with_reducible first | assumption | exact Blk.new' (by simp) | refine Blk.drew ?_ | refine Blk.alloc ?_ _ | exact Ext.refl _ | refine Ext.drew ?_ | refine Ext.alloc ?_ _))) hb1
    have he : Ext w w1 := (by (repeat (with_reducible first | assumption | exact Ext.refl _ | refine Ext.drew ?_ | refine Ext.alloc ?_ _ | refine Ext.setCell ?_ (by simp <;> omega) _ | refine Ext.trans ?_ (by assumption))))
    clear hc1 hf1 hb1
    refine wp_region_planS [(0, true), (1, true), (2, true), (3, true), (4, true), (5, true)] 6 (fun w' => Blk w' w.heap.size 27 #[.int .i64 x.a, .int .i64 x.b, .int .i64 x.c, .int .i64 x.d] ∧ Blk w' (w.heap.size + 1) 27 #[.int .i64 0, .int .i64 0, .int .i64 0, .int .i64 0] ∧ Blk w' (w.heap.size + 1 + 1) 27 #[.int .i64 0, .int .i64 x.b, .int .i64 x.c, .int .i64 x.d] ∧ Blk w' w1.heap.size 30 #[.int .i64 (qn x.plain 4 : Nat), .int .i64 (qd x.plain 4 : Nat)] ∧ Ext w w') Ext (by kernel_rfl) (by kernel_rfl) Ext.refl (fun _ _ _ => Ext.trans) (fun _ _ h he => ⟨h.1.ext he, h.2.1.ext he, h.2.2.1.ext he, h.2.2.2.1.ext he, h.2.2.2.2.trans he⟩) ⟨(by (repeat (with_reducible first | assumption | exact Blk.new' (by simp) | refine Blk.drew ?_ | refine Blk.alloc ?_ _ | exact Ext.refl _ | refine Ext.drew ?_ | refine Ext.alloc ?_ _))), (by (repeat (with_reducible first | assumption | exact Blk.new' (by simp) | refine Blk.drew ?_ | refine Blk.alloc ?_ _ | exact Ext.refl _ | refine Ext.drew ?_ | refine Ext.alloc ?_ _))), (by (repeat (with_reducible first | assumption | exact Blk.new' (by simp) | refine Blk.drew ?_ | refine Blk.alloc ?_ _ | exact Ext.refl _ | refine Ext.drew ?_ | refine Ext.alloc ?_ _))), (by (repeat (with_reducible first | assumption | exact Blk.new' (by simp) | refine Blk.drew ?_ | refine Blk.alloc ?_ _ | exact Ext.refl _ | refine Ext.drew ?_ | refine Ext.alloc ?_ _))), (by (repeat (with_reducible first | assumption | exact Blk.new' (by simp) | refine Blk.drew ?_ | refine Blk.alloc ?_ _ | exact Ext.refl _ | refine Ext.drew ?_ | refine Ext.alloc ?_ _)))⟩ ?_
    repeat
      first
        | (refine plan_quiet rfl rfl (fun _ _ _ _ h => h) ?_
           apply Exists.intro
           refine ⟨fun w' hw' => ?_, ?_⟩
           · obtain ⟨hH0, hH1, hH2, hH3, hH4⟩ := hw'
             unfold Blk at hH0 hH1 hH2 hH3
             simp [go_sem, quietTo, World.cell?, hH0, hH1, hH2, hH3, Ext.refl, ↓IntWalk.iteOmega]
             first
               | rfl
           simp only [Act.put, List.setIfInBounds_toArray, List.set_cons_succ, List.set_cons_zero])
        | (refine plan_skip rfl rfl (fun _ _ _ _ h => h) ?_
           simp only [Act.put, List.setIfInBounds_toArray, List.set_cons_succ, List.set_cons_zero])
    refine plan_nil fun wr her hwr => ?_
    clear her
    obtain ⟨hH0, hH1, hH2, hH3, hH4⟩ := hwr
    obtain ⟨hC0, hF0⟩ := hH0.walk
    obtain ⟨hC1, hF1⟩ := hH1.walk
    obtain ⟨hC2, hF2⟩ := hH2.walk
    obtain ⟨hC3, hF3⟩ := hH3.walk
    simp only [List.drop_succ_cons, List.drop_zero, List.drop_nil]
    clear hX hR hP he
    clear hC0 hF0 hC1 hF1 hC2 hF2 hC3 hF3
    go_wp2
    go_loop [7, 9] (fun i d => ∃ k : Nat, i = .int .i64 k ∧ d = .int .i64 (qd x.plain 4 * 2 ^ k : Nat) ∧ (k = 0 ∨ qd x.plain 4 * 2 ^ k ≤ qn x.plain 4)) (fun i _ => 61 - (intOf i).toNat)
    case atStart => exact ⟨0, rfl, by simp, .inl rfl⟩
    case round =>
      obtain ⟨k, rfl, rfl, hk⟩ := hrel
      by_cases hlt : qd x.plain 4 * 2 ^ k * 2 ≤ qn x.plain 4
      · have hK : qd x.plain 4 * 2 ^ (k + 1) ≤ qn x.plain 4 := by rw [Nat.pow_succ, ← Nat.mul_assoc]; exact hlt
        have hk60 := two_pow_le c2 hK b1
        have e : qd x.plain 4 * 2 ^ (k + 1) = qd x.plain 4 * 2 ^ k * 2 := by rw [Nat.pow_succ, Nat.mul_assoc]
        replace e := Lib.hid e
        clear hk
        replace hK := Lib.hid hK
        generalize qd x.plain 4 * 2 ^ k = D at *
        go_wp2
        go_round
        case rel => exact ⟨k + 1, by go_num, by rw [e.out]; exact congrArg (fun v : Int => Value.int .i64 v) (by omega), .inr hK.out⟩
        case measure => simp [intOf]; omega
      · have hn : qn x.plain 4 < qd x.plain 4 * 2 ^ k * 2 := by omega
        have hd : qd x.plain 4 * 2 ^ k ≤ 1061882796441600000 := by
          rcases hk with h | h
          · subst h; omega
          · omega
        have hk60 : k ≤ 60 := two_pow_le c2 hd (Nat.le_refl _)
        clear hk
        obtain ⟨Dk, hDk⟩ : ∃ q, qd x.plain 4 * 2 ^ k = q := ⟨_, rfl⟩
        rw [hDk] at hn hd hlt ⊢
        replace hDk := Lib.hid hDk
        go_wp2
        clear hlt
        go_loop [7, 8] (fun i m => ∃ j : Nat, i = .int .i64 ((k : Int) - j) ∧ m = .int .i64 (qn x.plain 4 * 2 ^ j : Nat) ∧ (j = 0 ∨ qn x.plain 4 * 2 ^ j < Dk * 2)) (fun i _ => (intOf i + 61 - k).toNat)
        case atStart => exact ⟨0, by simp, by simp, .inl rfl⟩
        case round =>
          obtain ⟨j, rfl, rfl, hj⟩ := hrel
          by_cases hlt : qn x.plain 4 * 2 ^ j < Dk
          · have hj60 := two_pow_le c1 (Nat.le_of_lt hlt) hd
            have e : qn x.plain 4 * 2 ^ (j + 1) = qn x.plain 4 * 2 ^ j * 2 := by rw [Nat.pow_succ, Nat.mul_assoc]
            have hK : qn x.plain 4 * 2 ^ (j + 1) < Dk * 2 := by omega
            replace e := Lib.hid e
            replace hK := Lib.hid hK
            clear hj
            generalize qn x.plain 4 * 2 ^ j = N at *
            go_wp2
            go_round
            case rel => exact ⟨j + 1, by go_num, by rw [e.out]; exact congrArg (fun v : Int => Value.int .i64 v) (by omega), .inr hK.out⟩
            case measure => simp [intOf]; omega
          · have hO : octI x.plain = (k : Int) - j := octN_eq c1 c2 ⟨k, j, rfl, by rw [hDk.out]; omega, by
              rw [Nat.pow_succ, ← Nat.mul_assoc, hDk.out]
              rcases hj with h | h
              · subst h; omega
              · exact h⟩
            rw [← hO]
            clear hO hj hn
            have hC := refChecked_any ⟨-octI x.plain, x.b, x.c, x.d⟩
            simp only [e4, hG2] at hC
            clear e4 hG2
            replace hC := Lib.hid hC
            generalize ht : octI x.plain = t at *
            replace ht := Lib.hid ht
            generalize qn x.plain 4 * 2 ^ j = N at *
            obtain ⟨s1, s2⟩ := hH2.walk
            have lX := hH0.lt
            have lR := hH1.lt
            have lP := hH2.lt
            go_wp2_with (go_at_call 32; refine (hC.out _).mono ?_; rintro e w3 ⟨rfl, hb3⟩; have lt30 := (Blk.ext (hH0.far (by simp <;> omega) _) hb3).lt; obtain ⟨s30, f30⟩ := (Blk.ext (hH0.far (by simp <;> omega) _) hb3).walk; have lt31 := (Blk.ext (hH1.far (by simp) _) hb3).lt; obtain ⟨s31, f31⟩ := (Blk.ext (hH1.far (by simp) _) hb3).walk; have hz3 := hb3.size; (try simp only [World.size_alloc, World.size_setCell, World.size_drew] at hz3))
            first
              | (go_light
                 exact bodyPost_ret (v := .tuple #[.agg #[.int .i64 0, .int .i64 0, .int .i64 0, .int .i64 0], .int .i64 0, .int .i64 1]) (by simp [results, Tryd.results13, go_sem, *]) rfl ⟨rfl, (by (repeat (with_reducible first | assumption | exact Ext.refl _ | refine Ext.drew ?_ | refine Ext.alloc ?_ _ | refine Ext.setCell ?_ (by simp <;> omega) _ | refine Ext.trans ?_ (by assumption))))⟩)
              | skip
            all_goals
              have hX : Blk w3 w.heap.size 27 #[.int .i64 x.a, .int .i64 x.b, .int .i64 x.c, .int .i64 x.d] := Blk.ext (hH0.far (by simp <;> omega) _) hb3
              have hR : Blk w3 (w.heap.size + 1) 27 #[.int .i64 0, .int .i64 0, .int .i64 0, .int .i64 0] := Blk.ext (hH1.far (by simp) _) hb3
              have he : Ext w w3 := (by (repeat (with_reducible first | assumption | exact Ext.refl _ | refine Ext.drew ?_ | refine Ext.alloc ?_ _ | refine Ext.setCell ?_ (by simp <;> omega) _ | refine Ext.trans ?_ (by assumption))))
              clear s30 s31 f30 f31 s1 s2 hb3
              have hw : IntKind.i64.wrap (x.a + t) = x.a + t := IntWalk.i64_in _ (by omega)
              have hR2 := Blk.drew (Blk.alloc hR (.cells #[.int .i64 (-t), .int .i64 x.b, .int .i64 x.c, .int .i64 x.d] 27))
              refine wp_region_forks [0, 1, 2, 3, 4] 3 (fun w' => Blk w' w.heap.size 27 #[.int .i64 x.a, .int .i64 x.b, .int .i64 x.c, .int .i64 x.d] ∧ Blk w' w3.heap.size 27 #[.int .i64 (-t), .int .i64 x.b, .int .i64 x.c, .int .i64 x.d] ∧ Ext w w') Ext (by kernel_rfl) (by kernel_rfl) Ext.refl (fun _ _ _ => Ext.trans) (fun _ _ h he => ⟨h.1.ext he, h.2.1.ext he, h.2.2.trans he⟩) ⟨(by (repeat (with_reducible first | assumption | exact Blk.new' (by simp) | refine Blk.drew ?_ | refine Blk.alloc ?_ _ | exact Ext.refl _ | refine Ext.drew ?_ | refine Ext.alloc ?_ _))), (by (repeat (with_reducible first | assumption | exact Blk.new' (by simp) | refine Blk.drew ?_ | refine Blk.alloc ?_ _ | exact Ext.refl _ | refine Ext.drew ?_ | refine Ext.alloc ?_ _))), (by (repeat (with_reducible first | assumption | exact Blk.new' (by simp) | refine Blk.drew ?_ | refine Blk.alloc ?_ _ | exact Ext.refl _ | refine Ext.drew ?_ | refine Ext.alloc ?_ _)))⟩ ?_
              repeat
                first
                  | (refine q_quiet rfl rfl (fun _ _ _ _ h => h) ?_
                     apply Exists.intro
                     refine ⟨fun w' hw' => ?_, ?_⟩
                     · obtain ⟨hH50, hH51, hH52⟩ := hw'
                       unfold Blk at hH50 hH51
                       simp [go_sem, quietTo, World.cell?, hH50, hH51, Ext.refl, ↓IntWalk.iteOmega, hw]
                       first
                         | rfl
                     simp only [Act.put, List.setIfInBounds_toArray, List.set_cons_succ, List.set_cons_zero])
                  | (refine q_skip rfl rfl (fun _ _ _ _ h => h) ?_
                     simp only [Act.put, List.setIfInBounds_toArray, List.set_cons_succ, List.set_cons_zero])
              refine q_nil ?_
              try simp only [List.length_cons, List.length_nil, Nat.reduceAdd, Array.replicate_succ, Array.replicate_zero, List.push_toArray, List.nil_append, List.cons_append, List.setIfInBounds_toArray, List.set_cons_succ, List.set_cons_zero]
              refine ww_one (i := 5) rfl rfl (by kernel_rfl) ?_
              intro w5 e5 h5 K5 hK5
              have hR5 := Blk.ext hR2 e5
              have l5 := hR5.lt
              obtain ⟨q1, q2⟩ := hR5.walk
              have hn5 : w.heap.size + 1 ≠ w3.heap.size := by have := hR.lt; omega
              go_wp2_with fail
              refine ⟨⟨(((h5.1.far (by simp) _).far (by simp) _).far (by simp) _).far (by simp) _, (((h5.2.1.far (Ne.symm hn5) _).far (Ne.symm hn5) _).far (Ne.symm hn5) _).far (Ne.symm hn5) _, Ext.setCell (Ext.setCell (Ext.setCell (Ext.setCell h5.2.2 (by simp) _) (by simp) _) (by simp) _) (by simp) _⟩, ?_⟩
              simp only [List.setIfInBounds_toArray, List.set_cons_succ, List.set_cons_zero]
              refine ww_one (i := 6) rfl rfl (by kernel_rfl) ?_
              intro w6 e6 h6 K6 hK6
              have hR6 := Blk.ext ((((hR5.set_ 0 _).set_ 1 _).set_ 2 _).set_ 3 _) e6
              go_wp2_with fail
              refine ⟨h6, ?_⟩
              simp only [List.setIfInBounds_toArray, List.set_cons_succ, List.set_cons_zero]
              refine ww_one (i := 7) rfl rfl (by kernel_rfl) ?_
              intro w7 e7 h7 K7 hK7
              have hR7 := Blk.ext hR6 e7
              go_wp2_with fail
              refine ⟨h7, ?_⟩
              simp only [List.setIfInBounds_toArray, List.set_cons_succ, List.set_cons_zero]
              refine ww_done (by kernel_rfl) fun w8 e8 h8 => ?_
              have hR8 := Blk.ext hR7 e8
              have he8 := h8.2.2
              obtain ⟨v1, v2⟩ := hR8.walk
              dsimp only [Exit.then]
              go_wp2
              go_light
              exact bodyPost_ret (v := .tuple #[.agg #[.int .i64 0, .int .i64 0, .int .i64 0, .int .i64 0], .int .i64 0, .int .i64 1]) (by simp [results, Tryd.results13, go_sem, *]) rfl ⟨by first | rfl | rw [ht.out], (by (repeat (with_reducible first | assumption | exact Ext.refl _ | refine Ext.drew ?_ | refine Ext.alloc ?_ _ | refine Ext.setCell ?_ (by simp <;> omega) _ | refine Ext.trans ?_ (by assumption))))⟩
  · have e1 : okI (shiftI x) = (⟨-octI x.plain, x.b, x.c, x.d⟩ : I4) := by unfold okI; rw [hs]; first | rfl | exact hp
    have e2 : octR x = x.a + octI x.plain := by unfold octR; rw [hs]; first | rfl | (rw [if_pos rfl]; omega)
    have e3 : faultI (shiftI x) = 0 := by unfold faultI; rw [hs]; rfl
    have e4 : okI ⟨-octI x.plain, x.b, x.c, x.d⟩ = (⟨-octI x.plain, x.b, x.c, x.d⟩ : I4) := by
      have := e1
      rw [hp] at this
      exact this
    rw [e1, e2, e3]
    have hG2 : faultI ⟨-octI x.plain, x.b, x.c, x.d⟩ = 0 := by rw [← hp]; exact e3
    clear e1 e2 e3 hs hp hq
    go_enter Tryd.func13, Tryd.ntmps13
    go_wp2_with (go_at_call 14; refine (quotientOf_any x.plain _ hr').mono ?_; rintro e w1 ⟨rfl, hb1⟩; obtain ⟨hc1, hf1, hz1⟩ := hb1.walk; (try simp only [World.size_alloc, World.size_setCell, World.size_drew] at hz1))
    have hX : Blk w1 w.heap.size 27 #[.int .i64 x.a, .int .i64 x.b, .int .i64 x.c, .int .i64 x.d] := Blk.ext (by (repeat (with_reducible first | assumption | exact Blk.new' (by simp) | refine Blk.drew ?_ | refine Blk.alloc ?_ _ | exact Ext.refl _ | refine Ext.drew ?_ | refine Ext.alloc ?_ _))) hb1
    have hR : Blk w1 (w.heap.size + 1) 27 #[.int .i64 0, .int .i64 0, .int .i64 0, .int .i64 0] := Blk.ext (by (repeat (with_reducible first | assumption | exact Blk.new' (by simp) | refine Blk.drew ?_ | refine Blk.alloc ?_ _ | exact Ext.refl _ | refine Ext.drew ?_ | refine Ext.alloc ?_ _))) hb1
    have hP : Blk w1 (w.heap.size + 1 + 1) 27 #[.int .i64 0, .int .i64 x.b, .int .i64 x.c, .int .i64 x.d] := Blk.ext (by (repeat (with_reducible first | assumption | exact Blk.new' (by simp) | refine Blk.drew ?_ | refine Blk.alloc ?_ _ | exact Ext.refl _ | refine Ext.drew ?_ | refine Ext.alloc ?_ _))) hb1
    have he : Ext w w1 := (by (repeat (with_reducible first | assumption | exact Ext.refl _ | refine Ext.drew ?_ | refine Ext.alloc ?_ _ | refine Ext.setCell ?_ (by simp <;> omega) _ | refine Ext.trans ?_ (by assumption))))
    clear hc1 hf1 hb1
    refine wp_region_planS [(0, true), (1, true), (2, true), (3, true), (4, true), (5, true)] 6 (fun w' => Blk w' w.heap.size 27 #[.int .i64 x.a, .int .i64 x.b, .int .i64 x.c, .int .i64 x.d] ∧ Blk w' (w.heap.size + 1) 27 #[.int .i64 0, .int .i64 0, .int .i64 0, .int .i64 0] ∧ Blk w' (w.heap.size + 1 + 1) 27 #[.int .i64 0, .int .i64 x.b, .int .i64 x.c, .int .i64 x.d] ∧ Blk w' w1.heap.size 30 #[.int .i64 (qn x.plain 4 : Nat), .int .i64 (qd x.plain 4 : Nat)] ∧ Ext w w') Ext (by kernel_rfl) (by kernel_rfl) Ext.refl (fun _ _ _ => Ext.trans) (fun _ _ h he => ⟨h.1.ext he, h.2.1.ext he, h.2.2.1.ext he, h.2.2.2.1.ext he, h.2.2.2.2.trans he⟩) ⟨(by (repeat (with_reducible first | assumption | exact Blk.new' (by simp) | refine Blk.drew ?_ | refine Blk.alloc ?_ _ | exact Ext.refl _ | refine Ext.drew ?_ | refine Ext.alloc ?_ _))), (by (repeat (with_reducible first | assumption | exact Blk.new' (by simp) | refine Blk.drew ?_ | refine Blk.alloc ?_ _ | exact Ext.refl _ | refine Ext.drew ?_ | refine Ext.alloc ?_ _))), (by (repeat (with_reducible first | assumption | exact Blk.new' (by simp) | refine Blk.drew ?_ | refine Blk.alloc ?_ _ | exact Ext.refl _ | refine Ext.drew ?_ | refine Ext.alloc ?_ _))), (by (repeat (with_reducible first | assumption | exact Blk.new' (by simp) | refine Blk.drew ?_ | refine Blk.alloc ?_ _ | exact Ext.refl _ | refine Ext.drew ?_ | refine Ext.alloc ?_ _))), (by (repeat (with_reducible first | assumption | exact Blk.new' (by simp) | refine Blk.drew ?_ | refine Blk.alloc ?_ _ | exact Ext.refl _ | refine Ext.drew ?_ | refine Ext.alloc ?_ _)))⟩ ?_
    repeat
      first
        | (refine plan_quiet rfl rfl (fun _ _ _ _ h => h) ?_
           apply Exists.intro
           refine ⟨fun w' hw' => ?_, ?_⟩
           · obtain ⟨hH0, hH1, hH2, hH3, hH4⟩ := hw'
             unfold Blk at hH0 hH1 hH2 hH3
             simp [go_sem, quietTo, World.cell?, hH0, hH1, hH2, hH3, Ext.refl, ↓IntWalk.iteOmega]
             first
               | rfl
           simp only [Act.put, List.setIfInBounds_toArray, List.set_cons_succ, List.set_cons_zero])
        | (refine plan_skip rfl rfl (fun _ _ _ _ h => h) ?_
           simp only [Act.put, List.setIfInBounds_toArray, List.set_cons_succ, List.set_cons_zero])
    refine plan_nil fun wr her hwr => ?_
    clear her
    obtain ⟨hH0, hH1, hH2, hH3, hH4⟩ := hwr
    obtain ⟨hC0, hF0⟩ := hH0.walk
    obtain ⟨hC1, hF1⟩ := hH1.walk
    obtain ⟨hC2, hF2⟩ := hH2.walk
    obtain ⟨hC3, hF3⟩ := hH3.walk
    simp only [List.drop_succ_cons, List.drop_zero, List.drop_nil]
    clear hX hR hP he
    clear hC0 hF0 hC1 hF1 hC2 hF2 hC3 hF3
    go_wp2
    go_loop [7, 9] (fun i d => ∃ k : Nat, i = .int .i64 k ∧ d = .int .i64 (qd x.plain 4 * 2 ^ k : Nat) ∧ (k = 0 ∨ qd x.plain 4 * 2 ^ k ≤ qn x.plain 4)) (fun i _ => 61 - (intOf i).toNat)
    case atStart => exact ⟨0, rfl, by simp, .inl rfl⟩
    case round =>
      obtain ⟨k, rfl, rfl, hk⟩ := hrel
      by_cases hlt : qd x.plain 4 * 2 ^ k * 2 ≤ qn x.plain 4
      · have hK : qd x.plain 4 * 2 ^ (k + 1) ≤ qn x.plain 4 := by rw [Nat.pow_succ, ← Nat.mul_assoc]; exact hlt
        have hk60 := two_pow_le c2 hK b1
        have e : qd x.plain 4 * 2 ^ (k + 1) = qd x.plain 4 * 2 ^ k * 2 := by rw [Nat.pow_succ, Nat.mul_assoc]
        replace e := Lib.hid e
        clear hk
        replace hK := Lib.hid hK
        generalize qd x.plain 4 * 2 ^ k = D at *
        go_wp2
        go_round
        case rel => exact ⟨k + 1, by go_num, by rw [e.out]; exact congrArg (fun v : Int => Value.int .i64 v) (by omega), .inr hK.out⟩
        case measure => simp [intOf]; omega
      · have hn : qn x.plain 4 < qd x.plain 4 * 2 ^ k * 2 := by omega
        have hd : qd x.plain 4 * 2 ^ k ≤ 1061882796441600000 := by
          rcases hk with h | h
          · subst h; omega
          · omega
        have hk60 : k ≤ 60 := two_pow_le c2 hd (Nat.le_refl _)
        clear hk
        obtain ⟨Dk, hDk⟩ : ∃ q, qd x.plain 4 * 2 ^ k = q := ⟨_, rfl⟩
        rw [hDk] at hn hd hlt ⊢
        replace hDk := Lib.hid hDk
        go_wp2
        clear hlt
        go_loop [7, 8] (fun i m => ∃ j : Nat, i = .int .i64 ((k : Int) - j) ∧ m = .int .i64 (qn x.plain 4 * 2 ^ j : Nat) ∧ (j = 0 ∨ qn x.plain 4 * 2 ^ j < Dk * 2)) (fun i _ => (intOf i + 61 - k).toNat)
        case atStart => exact ⟨0, by simp, by simp, .inl rfl⟩
        case round =>
          obtain ⟨j, rfl, rfl, hj⟩ := hrel
          by_cases hlt : qn x.plain 4 * 2 ^ j < Dk
          · have hj60 := two_pow_le c1 (Nat.le_of_lt hlt) hd
            have e : qn x.plain 4 * 2 ^ (j + 1) = qn x.plain 4 * 2 ^ j * 2 := by rw [Nat.pow_succ, Nat.mul_assoc]
            have hK : qn x.plain 4 * 2 ^ (j + 1) < Dk * 2 := by omega
            replace e := Lib.hid e
            replace hK := Lib.hid hK
            clear hj
            generalize qn x.plain 4 * 2 ^ j = N at *
            go_wp2
            go_round
            case rel => exact ⟨j + 1, by go_num, by rw [e.out]; exact congrArg (fun v : Int => Value.int .i64 v) (by omega), .inr hK.out⟩
            case measure => simp [intOf]; omega
          · have hO : octI x.plain = (k : Int) - j := octN_eq c1 c2 ⟨k, j, rfl, by rw [hDk.out]; omega, by
              rw [Nat.pow_succ, ← Nat.mul_assoc, hDk.out]
              rcases hj with h | h
              · subst h; omega
              · exact h⟩
            rw [← hO]
            clear hO hj hn
            have hC := refChecked_any ⟨-octI x.plain, x.b, x.c, x.d⟩
            simp only [e4, hG2] at hC
            clear e4 hG2
            replace hC := Lib.hid hC
            generalize ht : octI x.plain = t at *
            replace ht := Lib.hid ht
            generalize qn x.plain 4 * 2 ^ j = N at *
            obtain ⟨s1, s2⟩ := hH2.walk
            have lX := hH0.lt
            have lR := hH1.lt
            have lP := hH2.lt
            go_wp2_with (go_at_call 32; refine (hC.out _).mono ?_; rintro e w3 ⟨rfl, hb3⟩; have lt30 := (Blk.ext (hH0.far (by simp <;> omega) _) hb3).lt; obtain ⟨s30, f30⟩ := (Blk.ext (hH0.far (by simp <;> omega) _) hb3).walk; have lt31 := (Blk.ext (hH1.far (by simp) _) hb3).lt; obtain ⟨s31, f31⟩ := (Blk.ext (hH1.far (by simp) _) hb3).walk; have hz3 := hb3.size; (try simp only [World.size_alloc, World.size_setCell, World.size_drew] at hz3))
            first
              | (go_light
                 exact bodyPost_ret (v := .tuple #[.agg #[.int .i64 (-t), .int .i64 x.b, .int .i64 x.c, .int .i64 x.d], .int .i64 (x.a + t), .int .i64 0]) (by simp [results, Tryd.results13, go_sem, *]) rfl ⟨rfl, (by (repeat (with_reducible first | assumption | exact Ext.refl _ | refine Ext.drew ?_ | refine Ext.alloc ?_ _ | refine Ext.setCell ?_ (by simp <;> omega) _ | refine Ext.trans ?_ (by assumption))))⟩)
              | skip
            all_goals
              have hX : Blk w3 w.heap.size 27 #[.int .i64 x.a, .int .i64 x.b, .int .i64 x.c, .int .i64 x.d] := Blk.ext (hH0.far (by simp <;> omega) _) hb3
              have hR : Blk w3 (w.heap.size + 1) 27 #[.int .i64 0, .int .i64 0, .int .i64 0, .int .i64 0] := Blk.ext (hH1.far (by simp) _) hb3
              have he : Ext w w3 := (by (repeat (with_reducible first | assumption | exact Ext.refl _ | refine Ext.drew ?_ | refine Ext.alloc ?_ _ | refine Ext.setCell ?_ (by simp <;> omega) _ | refine Ext.trans ?_ (by assumption))))
              clear s30 s31 f30 f31 s1 s2 hb3
              have hw : IntKind.i64.wrap (x.a + t) = x.a + t := IntWalk.i64_in _ (by omega)
              have hR2 := Blk.drew (Blk.alloc hR (.cells #[.int .i64 (-t), .int .i64 x.b, .int .i64 x.c, .int .i64 x.d] 27))
              refine wp_region_forks [0, 1, 2, 3, 4] 3 (fun w' => Blk w' w.heap.size 27 #[.int .i64 x.a, .int .i64 x.b, .int .i64 x.c, .int .i64 x.d] ∧ Blk w' w3.heap.size 27 #[.int .i64 (-t), .int .i64 x.b, .int .i64 x.c, .int .i64 x.d] ∧ Ext w w') Ext (by kernel_rfl) (by kernel_rfl) Ext.refl (fun _ _ _ => Ext.trans) (fun _ _ h he => ⟨h.1.ext he, h.2.1.ext he, h.2.2.trans he⟩) ⟨(by (repeat (with_reducible first | assumption | exact Blk.new' (by simp) | refine Blk.drew ?_ | refine Blk.alloc ?_ _ | exact Ext.refl _ | refine Ext.drew ?_ | refine Ext.alloc ?_ _))), (by (repeat (with_reducible first | assumption | exact Blk.new' (by simp) | refine Blk.drew ?_ | refine Blk.alloc ?_ _ | exact Ext.refl _ | refine Ext.drew ?_ | refine Ext.alloc ?_ _))), (by (repeat (with_reducible first | assumption | exact Blk.new' (by simp) | refine Blk.drew ?_ | refine Blk.alloc ?_ _ | exact Ext.refl _ | refine Ext.drew ?_ | refine Ext.alloc ?_ _)))⟩ ?_
              repeat
                first
                  | (refine q_quiet rfl rfl (fun _ _ _ _ h => h) ?_
                     apply Exists.intro
                     refine ⟨fun w' hw' => ?_, ?_⟩
                     · obtain ⟨hH50, hH51, hH52⟩ := hw'
                       unfold Blk at hH50 hH51
                       simp [go_sem, quietTo, World.cell?, hH50, hH51, Ext.refl, ↓IntWalk.iteOmega, hw]
                       first
                         | rfl
                     simp only [Act.put, List.setIfInBounds_toArray, List.set_cons_succ, List.set_cons_zero])
                  | (refine q_skip rfl rfl (fun _ _ _ _ h => h) ?_
                     simp only [Act.put, List.setIfInBounds_toArray, List.set_cons_succ, List.set_cons_zero])
              refine q_nil ?_
              try simp only [List.length_cons, List.length_nil, Nat.reduceAdd, Array.replicate_succ, Array.replicate_zero, List.push_toArray, List.nil_append, List.cons_append, List.setIfInBounds_toArray, List.set_cons_succ, List.set_cons_zero]
              refine ww_one (i := 5) rfl rfl (by kernel_rfl) ?_
              intro w5 e5 h5 K5 hK5
              have hR5 := Blk.ext hR2 e5
              have l5 := hR5.lt
              obtain ⟨q1, q2⟩ := hR5.walk
              have hn5 : w.heap.size + 1 ≠ w3.heap.size := by have := hR.lt; omega
              go_wp2_with fail
              refine ⟨⟨(((h5.1.far (by simp) _).far (by simp) _).far (by simp) _).far (by simp) _, (((h5.2.1.far (Ne.symm hn5) _).far (Ne.symm hn5) _).far (Ne.symm hn5) _).far (Ne.symm hn5) _, Ext.setCell (Ext.setCell (Ext.setCell (Ext.setCell h5.2.2 (by simp) _) (by simp) _) (by simp) _) (by simp) _⟩, ?_⟩
              simp only [List.setIfInBounds_toArray, List.set_cons_succ, List.set_cons_zero]
              refine ww_one (i := 6) rfl rfl (by kernel_rfl) ?_
              intro w6 e6 h6 K6 hK6
              have hR6 := Blk.ext ((((hR5.set_ 0 _).set_ 1 _).set_ 2 _).set_ 3 _) e6
              go_wp2_with fail
              refine ⟨h6, ?_⟩
              simp only [List.setIfInBounds_toArray, List.set_cons_succ, List.set_cons_zero]
              refine ww_one (i := 7) rfl rfl (by kernel_rfl) ?_
              intro w7 e7 h7 K7 hK7
              have hR7 := Blk.ext hR6 e7
              go_wp2_with fail
              refine ⟨h7, ?_⟩
              simp only [List.setIfInBounds_toArray, List.set_cons_succ, List.set_cons_zero]
              refine ww_done (by kernel_rfl) fun w8 e8 h8 => ?_
              have hR8 := Blk.ext hR7 e8
              have he8 := h8.2.2
              obtain ⟨v1, v2⟩ := hR8.walk
              dsimp only [Exit.then]
              go_wp2
              go_light
              exact bodyPost_ret (v := .tuple #[.agg #[.int .i64 (-t), .int .i64 x.b, .int .i64 x.c, .int .i64 x.d], .int .i64 (x.a + t), .int .i64 0]) (by simp [results, Tryd.results13, go_sem, *]) rfl ⟨by first | rfl | rw [ht.out], (by (repeat (with_reducible first | assumption | exact Ext.refl _ | refine Ext.drew ?_ | refine Ext.alloc ?_ _ | refine Ext.setCell ?_ (by simp <;> omega) _ | refine Ext.trans ?_ (by assumption))))⟩

end Go.Proofs.YtolglfpnfeklkaaDoor
