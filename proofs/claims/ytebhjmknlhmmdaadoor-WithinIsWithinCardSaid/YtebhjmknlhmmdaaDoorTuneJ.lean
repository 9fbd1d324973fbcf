/- An interval in its octave, by both texts. Conditions: as each theorem says. -/
import Derived.Test.YtebhjmknlhmmdaaDoorTuneI
import Derived.Test.YtebhjmknlhmmdaaDoorMathC
namespace Go.Proofs.YtebhjmknlhmmdaaDoor
open Go Go.RowKit

def shiftI (x : I4) : I4 := ⟨x.a - octI x, x.b, x.c, x.d⟩
def octR (x : I4) : Int := if rightB (shiftI x) then octI x else 0
theorem two_pow_le {d n k : Nat} (hd : 1 ≤ d) (h : d * 2 ^ k ≤ n) (hn : n ≤ 1061882796441600000) : k ≤ 60 := by
  rcases Nat.lt_or_ge 60 k with hk | hk
  · exfalso
    have h1 : 2 ^ 61 ≤ 2 ^ k := Nat.pow_le_pow_right (by omega) hk
    have h2 : 1 * 2 ^ k ≤ d * 2 ^ k := Nat.mul_le_mul_right _ hd
    omega
  · exact hk

set_option maxRecDepth 100000 in
theorem within0_any (x : I4) (w : World) (hr : rightB x = false) :
    Calls Tryd.prog 8 #[.agg #[.int .i64 x.a, .int .i64 x.b, .int .i64 x.c, .int .i64 x.d]] w fun e w' =>
      e = .returned (.tuple #[.agg #[.int .i64 0, .int .i64 0, .int .i64 0, .int .i64 0], .int .i64 0, .int .i64 1]) ∧ Ext w w' := by
  have hF : faultI x = 1 := by unfold faultI; rw [hr]; rfl
  clear hr
  go_enter Tryd.func8, Tryd.ntmps8
  go_wp2_with (go_at_call 31; refine (checkInterval_any x _).mono ?_; rintro e w1 ⟨rfl, hb1⟩; obtain ⟨hc1, hf1, hz1⟩ := hb1.walk; (try simp only [World.size_alloc, World.size_setCell, World.size_drew] at hz1))
  go_light
  exact bodyPost_ret (v := .tuple #[.agg #[.int .i64 0, .int .i64 0, .int .i64 0, .int .i64 0], .int .i64 0, .int .i64 1]) (by simp [results, Tryd.results8, go_sem, *]) rfl ⟨rfl, (by (repeat (with_reducible first | assumption | exact Ext.refl _ | refine Ext.drew ?_ | refine Ext.alloc ?_ _ | refine Ext.setCell ?_ (by simp <;> omega) _ | refine Ext.trans ?_ (by assumption))))⟩

set_option maxRecDepth 100000 in
set_option maxHeartbeats 1600000 in
theorem within1_any (x : I4) (w : World) (hr : rightB x = true) :
    Calls Tryd.prog 8 #[.agg #[.int .i64 x.a, .int .i64 x.b, .int .i64 x.c, .int .i64 x.d]] w fun e w' =>
      e = .returned (.tuple #[.agg #[.int .i64 (okI (shiftI x)).a, .int .i64 (okI (shiftI x)).b, .int .i64 (okI (shiftI x)).c, .int .i64 (okI (shiftI x)).d], .int .i64 (octR x), .int .i64 (faultI (shiftI x))]) ∧ Ext w w' := by
  have hF : faultI x = 0 := by unfold faultI; rw [hr]; rfl
  have hB := right_bounds hr
  have b1 := (qn_le hr).2.2.2
  have b2 : qd x 4 ≤ _ := (qn_le (right_neg hr)).2.2.2
  have c1 := qn_pos x 4
  have c2 : 1 ≤ qd x 4 := qn_pos x.neg_ 4
  have ho := octN_range c1 c2 b1 b2
  cases hs : rightB (shiftI x)
  · have e1 : okI (shiftI x) = (⟨0, 0, 0, 0⟩ : I4) := by unfold okI; rw [hs]; rfl
    have e2 : octR x = 0 := by unfold octR; rw [hs]; rfl
    have e3 : faultI (shiftI x) = 1 := by unfold faultI; rw [hs]; rfl
    rw [e1, e2, e3]
    have hF2 : faultI ⟨x.a - octI x, x.b, x.c, x.d⟩ = 1 := e3
    clear e1 e2 e3 hs
    go_enter Tryd.func8, Tryd.ntmps8
    go_wp2_with (first | (go_at_call 31; refine (checkInterval_any x _).mono ?_; rintro e w1 ⟨rfl, hb1⟩; obtain ⟨hc1, hf1, hz1⟩ := hb1.walk; (try simp only [World.size_alloc, World.size_setCell, World.size_drew] at hz1)) | (go_at_call 32; refine (quotient_any x _ hr).mono ?_; rintro e wk ⟨rfl, hbk⟩; replace hb1 := Ext.trans hb1 (Ext.trans (by (repeat (with_reducible first | assumption | exact Ext.refl _ | refine Ext.drew ?_ | refine Ext.alloc ?_ _ | refine Ext.setCell ?_ (by simp <;> omega) _ | refine Ext.trans ?_ (by assumption)))) hbk); clear hbk hc1 hf1 hz1; obtain ⟨hc1, hf1, hz1⟩ := hb1.walk; (try simp only [World.size_alloc, World.size_setCell, World.size_drew] at hz1)))
    have hX : Blk wk w.heap.size 27 #[.int .i64 x.a, .int .i64 x.b, .int .i64 x.c, .int .i64 x.d] := Blk.ext (by (repeat (with_reducible first | assumption | exact Blk.new' (by simp) | refine Blk.drew ?_ | refine Blk.alloc ?_ _ | exact Ext.refl _ | refine Ext.drew ?_ | refine Ext.alloc ?_ _))) hb1
    have hR : Blk wk (w.heap.size + 1) 27 #[.int .i64 0, .int .i64 0, .int .i64 0, .int .i64 0] := Blk.ext (by (repeat (with_reducible first | assumption | exact Blk.new' (by simp) | refine Blk.drew ?_ | refine Blk.alloc ?_ _ | exact Ext.refl _ | refine Ext.drew ?_ | refine Ext.alloc ?_ _))) hb1
    have he : Ext w wk := (by (repeat (with_reducible first | assumption | exact Ext.refl _ | refine Ext.drew ?_ | refine Ext.alloc ?_ _ | refine Ext.setCell ?_ (by simp <;> omega) _ | refine Ext.trans ?_ (by assumption))))
    have l1 := hX.lt
    have l2 := hR.lt
    clear hc1 hf1 hb1
    go_loopw [7] (fun i w' => ∃ k : Nat, i = .int .i64 k ∧ (k = 0 ∨ qd x 4 * 2 ^ k ≤ qn x 4) ∧ Blk w' w.heap.size 27 #[.int .i64 x.a, .int .i64 x.b, .int .i64 x.c, .int .i64 x.d] ∧ Blk w' (w.heap.size + 1) 27 #[.int .i64 0, .int .i64 0, .int .i64 0, .int .i64 0] ∧ Blk w' wk.heap.size 67 #[.int .i64 (qn x 4 : Nat), .int .i64 (qd x 4 * 2 ^ k : Nat)] ∧ Ext w w') (fun i _ => 61 - (intOf i).toNat)
    case atStart => exact ⟨0, rfl, .inl rfl, hX.alloc _, hR.alloc _, (Blk.new' rfl).cast (by simp), (by (repeat (with_reducible first | assumption | exact Ext.refl _ | refine Ext.drew ?_ | refine Ext.alloc ?_ _ | refine Ext.setCell ?_ (by simp <;> omega) _ | refine Ext.trans ?_ (by assumption))))⟩
    case round =>
      clear hX hR he
      obtain ⟨k, rfl, hk, hX, hR, hQ, he⟩ := hrel
      obtain ⟨p1, p2⟩ := hQ.walk
      by_cases hlt : qd x 4 * 2 ^ k ≤ qn x 4 / 2
      · have hD : qd x 4 * 2 ^ k * 2 ≤ qn x 4 := by omega
        have hK : qd x 4 * 2 ^ (k + 1) ≤ qn x 4 := by rw [Nat.pow_succ, ← Nat.mul_assoc]; exact hD
        have hk60 := two_pow_le c2 hK b1
        have e : qd x 4 * 2 ^ (k + 1) = qd x 4 * 2 ^ k * 2 := by rw [Nat.pow_succ, Nat.mul_assoc]
        replace e := Lib.hid e
        clear hk
        replace hK := Lib.hid hK
        generalize qd x 4 * 2 ^ k = D at *
        go_wp2
        go_roundw
        case rel => exact ⟨k + 1, by go_num, .inr hK.out, hX.far (by simp; omega) _, hR.far (by simp; omega) _, (hQ.set_ 1 _).cast (by rw [e.out]; exact congrArg (fun v : Int => #[Value.int .i64 (qn x 4 : Nat), Value.int .i64 v]) (by omega)), (by (repeat (with_reducible first | assumption | exact Ext.refl _ | refine Ext.drew ?_ | refine Ext.alloc ?_ _ | refine Ext.setCell ?_ (by simp <;> omega) _ | refine Ext.trans ?_ (by assumption))))⟩
        case measure => simp [intOf]; omega
      · have hn : qn x 4 < qd x 4 * 2 ^ k * 2 := by omega
        have hd : qd x 4 * 2 ^ k ≤ 1061882796441600000 := by
          rcases hk with h | h
          · subst h; omega
          · omega
        have hk60 : k ≤ 60 := two_pow_le c2 hd (Nat.le_refl _)
        clear hk p1 p2
        obtain ⟨Dk, hDk⟩ : ∃ q, qd x 4 * 2 ^ k = q := ⟨_, rfl⟩
        rw [hDk] at hQ hn hd hlt
        replace hDk := Lib.hid hDk
        obtain ⟨p1, p2⟩ := hQ.walk
        go_wp2
        clear p1 p2 hlt
        go_loopw [7] (fun i w' => ∃ j : Nat, i = .int .i64 ((k : Int) - j) ∧ (j = 0 ∨ qn x 4 * 2 ^ j < Dk * 2) ∧ Blk w' w.heap.size 27 #[.int .i64 x.a, .int .i64 x.b, .int .i64 x.c, .int .i64 x.d] ∧ Blk w' (w.heap.size + 1) 27 #[.int .i64 0, .int .i64 0, .int .i64 0, .int .i64 0] ∧ Blk w' wk.heap.size 67 #[.int .i64 (qn x 4 * 2 ^ j : Nat), .int .i64 (Dk : Nat)] ∧ Ext w w') (fun i _ => (intOf i + 61 - k).toNat)
        case atStart => exact ⟨0, by simp, .inl rfl, hX, hR, hQ.cast (by simp), he⟩
        case round =>
          clear hX hR hQ he
          obtain ⟨j, rfl, hj, hX, hR, hQ, he⟩ := hrel
          obtain ⟨p1, p2⟩ := hQ.walk
          by_cases hlt : qn x 4 * 2 ^ j < Dk
          · have hj60 := two_pow_le c1 (Nat.le_of_lt hlt) hd
            have e : qn x 4 * 2 ^ (j + 1) = qn x 4 * 2 ^ j * 2 := by rw [Nat.pow_succ, Nat.mul_assoc]
            have hK : qn x 4 * 2 ^ (j + 1) < Dk * 2 := by omega
            replace e := Lib.hid e
            replace hK := Lib.hid hK
            clear hj
            generalize qn x 4 * 2 ^ j = N at *
            go_wp2
            go_roundw
            case rel => exact ⟨j + 1, by go_num, .inr hK.out, hX.far (by simp; omega) _, hR.far (by simp; omega) _, (hQ.set_ 0 _).cast (by rw [e.out]; exact congrArg (fun v : Int => #[Value.int .i64 v, Value.int .i64 (Dk : Nat)]) (by omega)), (by (repeat (with_reducible first | assumption | exact Ext.refl _ | refine Ext.drew ?_ | refine Ext.alloc ?_ _ | refine Ext.setCell ?_ (by simp <;> omega) _ | refine Ext.trans ?_ (by assumption))))⟩
            case measure => simp [intOf]; omega
          · have hO : octI x = (k : Int) - j := octN_eq c1 c2 ⟨k, j, rfl, by rw [hDk.out]; omega, by
              rw [Nat.pow_succ, ← Nat.mul_assoc, hDk.out]
              rcases hj with h | h
              · subst h; omega
              · exact h⟩
            rw [← hO]
            change -60 ≤ octI x ∧ octI x ≤ 60 at ho
            clear hO hj hn
            generalize ht : octI x = t at *
            replace ht := Lib.hid ht
            generalize qn x 4 * 2 ^ j = N at *
            obtain ⟨s1, s2⟩ := hX.walk
            obtain ⟨t1, t2⟩ := hR.walk
            go_wp2_with (go_at_call 31; refine (checkInterval_any ⟨x.a - t, x.b, x.c, x.d⟩ _).mono ?_; rintro e w3 ⟨rfl, hb3⟩; have lt30 := (Blk.ext (hX.set_ 0 _) hb3).lt; obtain ⟨s30, f30⟩ := (Blk.ext (hX.set_ 0 _) hb3).walk; have lt31 := (Blk.ext (hR.far (by simp <;> omega) _) hb3).lt; obtain ⟨s31, f31⟩ := (Blk.ext (hR.far (by simp <;> omega) _) hb3).walk; have hz3 := hb3.size; (try simp only [World.size_alloc, World.size_setCell, World.size_drew] at hz3))
            go_light
            exact bodyPost_ret (v := .tuple #[.agg #[.int .i64 0, .int .i64 0, .int .i64 0, .int .i64 0], .int .i64 0, .int .i64 1]) (by simp [results, Tryd.results8, go_sem, *]) rfl ⟨by first | rfl | rw [ht.out], (by (repeat (with_reducible first | assumption | exact Ext.refl _ | refine Ext.drew ?_ | refine Ext.alloc ?_ _ | refine Ext.setCell ?_ (by simp <;> omega) _ | refine Ext.trans ?_ (by assumption))))⟩
  · have e1 : okI (shiftI x) = (⟨x.a - octI x, x.b, x.c, x.d⟩ : I4) := by unfold okI; rw [hs]; rfl
    have e2 : octR x = octI x := by unfold octR; rw [hs]; rfl
    have e3 : faultI (shiftI x) = 0 := by unfold faultI; rw [hs]; rfl
    rw [e1, e2, e3]
    have hF2 : faultI ⟨x.a - octI x, x.b, x.c, x.d⟩ = 0 := e3
    clear e1 e2 e3 hs
    go_enter Tryd.func8, Tryd.ntmps8
    go_wp2_with (first | (go_at_call 31; refine (checkInterval_any x _).mono ?_; rintro e w1 ⟨rfl, hb1⟩; obtain ⟨hc1, hf1, hz1⟩ := hb1.walk; (try simp only [World.size_alloc, World.size_setCell, World.size_drew] at hz1)) | (go_at_call 32; refine (quotient_any x _ hr).mono ?_; rintro e wk ⟨rfl, hbk⟩; replace hb1 := Ext.trans hb1 (Ext.trans (by (repeat (with_reducible first | assumption | exact Ext.refl _ | refine Ext.drew ?_ | refine Ext.alloc ?_ _ | refine Ext.setCell ?_ (by simp <;> omega) _ | refine Ext.trans ?_ (by assumption)))) hbk); clear hbk hc1 hf1 hz1; obtain ⟨hc1, hf1, hz1⟩ := hb1.walk; (try simp only [World.size_alloc, World.size_setCell, World.size_drew] at hz1)))
    have hX : Blk wk w.heap.size 27 #[.int .i64 x.a, .int .i64 x.b, .int .i64 x.c, .int .i64 x.d] := Blk.ext (by (repeat (with_reducible first | assumption | exact Blk.new' (by simp) | refine Blk.drew ?_ | refine Blk.alloc ?_ _ | exact Ext.refl _ | refine Ext.drew ?_ | refine Ext.alloc ?_ _))) hb1
    have hR : Blk wk (w.heap.size + 1) 27 #[.int .i64 0, .int .i64 0, .int .i64 0, .int .i64 0] := Blk.ext (by (repeat (with_reducible first | assumption | exact Blk.new' (by simp) | refine Blk.drew ?_ | refine Blk.alloc ?_ _ | exact Ext.refl _ | refine Ext.drew ?_ | refine Ext.alloc ?_ _))) hb1
    have he : Ext w wk := (by (repeat (with_reducible first | assumption | exact Ext.refl _ | refine Ext.drew ?_ | refine Ext.alloc ?_ _ | refine Ext.setCell ?_ (by simp <;> omega) _ | refine Ext.trans ?_ (by assumption))))
    have l1 := hX.lt
    have l2 := hR.lt
    clear hc1 hf1 hb1
    go_loopw [7] (fun i w' => ∃ k : Nat, i = .int .i64 k ∧ (k = 0 ∨ qd x 4 * 2 ^ k ≤ qn x 4) ∧ Blk w' w.heap.size 27 #[.int .i64 x.a, .int .i64 x.b, .int .i64 x.c, .int .i64 x.d] ∧ Blk w' (w.heap.size + 1) 27 #[.int .i64 0, .int .i64 0, .int .i64 0, .int .i64 0] ∧ Blk w' wk.heap.size 67 #[.int .i64 (qn x 4 : Nat), .int .i64 (qd x 4 * 2 ^ k : Nat)] ∧ Ext w w') (fun i _ => 61 - (intOf i).toNat)
    case atStart => exact ⟨0, rfl, .inl rfl, hX.alloc _, hR.alloc _, (Blk.new' rfl).cast (by simp), (by (repeat (with_reducible first | assumption | exact Ext.refl _ | refine Ext.drew ?_ | refine Ext.alloc ?_ _ | refine Ext.setCell ?_ (by simp <;> omega) _ | refine Ext.trans ?_ (by assumption))))⟩
    case round =>
      clear hX hR he
      obtain ⟨k, rfl, hk, hX, hR, hQ, he⟩ := hrel
      obtain ⟨p1, p2⟩ := hQ.walk
      by_cases hlt : qd x 4 * 2 ^ k ≤ qn x 4 / 2
      · have hD : qd x 4 * 2 ^ k * 2 ≤ qn x 4 := by omega
        have hK : qd x 4 * 2 ^ (k + 1) ≤ qn x 4 := by rw [Nat.pow_succ, ← Nat.mul_assoc]; exact hD
        have hk60 := two_pow_le c2 hK b1
        have e : qd x 4 * 2 ^ (k + 1) = qd x 4 * 2 ^ k * 2 := by rw [Nat.pow_succ, Nat.mul_assoc]
        replace e := Lib.hid e
        clear hk
        replace hK := Lib.hid hK
        generalize qd x 4 * 2 ^ k = D at *
        go_wp2
        go_roundw
        case rel => exact ⟨k + 1, by go_num, .inr hK.out, hX.far (by simp; omega) _, hR.far (by simp; omega) _, (hQ.set_ 1 _).cast (by rw [e.out]; exact congrArg (fun v : Int => #[Value.int .i64 (qn x 4 : Nat), Value.int .i64 v]) (by omega)), (by (repeat (with_reducible first | assumption | exact Ext.refl _ | refine Ext.drew ?_ | refine Ext.alloc ?_ _ | refine Ext.setCell ?_ (by simp <;> omega) _ | refine Ext.trans ?_ (by assumption))))⟩
        case measure => simp [intOf]; omega
      · have hn : qn x 4 < qd x 4 * 2 ^ k * 2 := by omega
        have hd : qd x 4 * 2 ^ k ≤ 1061882796441600000 := by
          rcases hk with h | h
          · subst h; omega
          · omega
        have hk60 : k ≤ 60 := two_pow_le c2 hd (Nat.le_refl _)
        clear hk p1 p2
        obtain ⟨Dk, hDk⟩ : ∃ q, qd x 4 * 2 ^ k = q := ⟨_, rfl⟩
        rw [hDk] at hQ hn hd hlt
        replace hDk := Lib.hid hDk
        obtain ⟨p1, p2⟩ := hQ.walk
        go_wp2
        clear p1 p2 hlt
        go_loopw [7] (fun i w' => ∃ j : Nat, i = .int .i64 ((k : Int) - j) ∧ (j = 0 ∨ qn x 4 * 2 ^ j < Dk * 2) ∧ Blk w' w.heap.size 27 #[.int .i64 x.a, .int .i64 x.b, .int .i64 x.c, .int .i64 x.d] ∧ Blk w' (w.heap.size + 1) 27 #[.int .i64 0, .int .i64 0, .int .i64 0, .int .i64 0] ∧ Blk w' wk.heap.size 67 #[.int .i64 (qn x 4 * 2 ^ j : Nat), .int .i64 (Dk : Nat)] ∧ Ext w w') (fun i _ => (intOf i + 61 - k).toNat)
        case atStart => exact ⟨0, by simp, .inl rfl, hX, hR, hQ.cast (by simp), he⟩
        case round =>
          clear hX hR hQ he
          obtain ⟨j, rfl, hj, hX, hR, hQ, he⟩ := hrel
          obtain ⟨p1, p2⟩ := hQ.walk
          by_cases hlt : qn x 4 * 2 ^ j < Dk
          · have hj60 := two_pow_le c1 (Nat.le_of_lt hlt) hd
            have e : qn x 4 * 2 ^ (j + 1) = qn x 4 * 2 ^ j * 2 := by rw [Nat.pow_succ, Nat.mul_assoc]
            have hK : qn x 4 * 2 ^ (j + 1) < Dk * 2 := by omega
            replace e := Lib.hid e
            replace hK := Lib.hid hK
            clear hj
            generalize qn x 4 * 2 ^ j = N at *
            go_wp2
            go_roundw
            case rel => exact ⟨j + 1, by go_num, .inr hK.out, hX.far (by simp; omega) _, hR.far (by simp; omega) _, (hQ.set_ 0 _).cast (by rw [e.out]; exact congrArg (fun v : Int => #[Value.int .i64 v, Value.int .i64 (Dk : Nat)]) (by omega)), (by (repeat (with_reducible first | assumption | exact Ext.refl _ | refine Ext.drew ?_ | refine Ext.alloc ?_ _ | refine Ext.setCell ?_ (by simp <;> omega) _ | refine Ext.trans ?_ (by assumption))))⟩
            case measure => simp [intOf]; omega
          · have hO : octI x = (k : Int) - j := octN_eq c1 c2 ⟨k, j, rfl, by rw [hDk.out]; omega, by
              rw [Nat.pow_succ, ← Nat.mul_assoc, hDk.out]
              rcases hj with h | h
              · subst h; omega
              · exact h⟩
            rw [← hO]
            change -60 ≤ octI x ∧ octI x ≤ 60 at ho
            clear hO hj hn
            generalize ht : octI x = t at *
            replace ht := Lib.hid ht
            generalize qn x 4 * 2 ^ j = N at *
            obtain ⟨s1, s2⟩ := hX.walk
            obtain ⟨t1, t2⟩ := hR.walk
            go_wp2_with (go_at_call 31; refine (checkInterval_any ⟨x.a - t, x.b, x.c, x.d⟩ _).mono ?_; rintro e w3 ⟨rfl, hb3⟩; have lt30 := (Blk.ext (hX.set_ 0 _) hb3).lt; obtain ⟨s30, f30⟩ := (Blk.ext (hX.set_ 0 _) hb3).walk; have lt31 := (Blk.ext (hR.far (by simp <;> omega) _) hb3).lt; obtain ⟨s31, f31⟩ := (Blk.ext (hR.far (by simp <;> omega) _) hb3).walk; have hz3 := hb3.size; (try simp only [World.size_alloc, World.size_setCell, World.size_drew] at hz3))
            go_light
            exact bodyPost_ret (v := .tuple #[.agg #[.int .i64 (x.a - t), .int .i64 x.b, .int .i64 x.c, .int .i64 x.d], .int .i64 t, .int .i64 0]) (by simp [results, Tryd.results8, go_sem, *]) rfl ⟨by first | rfl | rw [ht.out], (by (repeat (with_reducible first | assumption | exact Ext.refl _ | refine Ext.drew ?_ | refine Ext.alloc ?_ _ | refine Ext.setCell ?_ (by simp <;> omega) _ | refine Ext.trans ?_ (by assumption))))⟩

end Go.Proofs.YtebhjmknlhmmdaaDoor
