/- The interval of a quotient, by the reference's text. Conditions: as each theorem says. -/
import Derived.Test.YtolglfpnfeklkaaDoorTuneD
namespace Go.Proofs.YtolglfpnfeklkaaDoor
open Go Go.RowKit

def iC (n d k : Nat) (v : Int) : Array Value := (mCells n d k).setIfInBounds k (.int .i64 v)
theorem iC_zero (n d k : Nat) (hk : k < 4) : mCells n d k = iC n d k 0 := by
  match k, hk with
  | 0, _ => rfl
  | 1, _ => rfl
  | 2, _ => rfl
  | 3, _ => rfl
theorem iC_get (n d k : Nat) (v : Int) (hk : k < 4) : (iC n d k v)[k]? = some (.int .i64 v) := by
  match k, hk with
  | 0, _ => rfl
  | 1, _ => rfl
  | 2, _ => rfl
  | 3, _ => rfl
theorem iC_set (n d k : Nat) (v u : Int) (hk : k < 4) : (iC n d k v).setIfInBounds k (.int .i64 u) = iC n d k u := by
  match k, hk with
  | 0, _ => rfl
  | 1, _ => rfl
  | 2, _ => rfl
  | 3, _ => rfl
theorem iC_next (n d k : Nat) (hk : k < 4) : iC n d k ((expK n k : Int) - expK d k) = mCells n d (k + 1) := mCells_set n d k hk

theorem iof0_any (n d : Int) (w : World) (h : n < 1 ∨ d < 1) :
    Calls Tryd.prog 10 #[.agg #[.int .i64 n, .int .i64 d]] w fun e w' =>
      e = .returned (.tuple #[.agg #[.int .i64 0, .int .i64 0, .int .i64 0, .int .i64 0], .int .i64 1]) ∧ Ext w w' := by
  by_cases h1 : n < 1
  case' neg => have h2 : d < 1 := by omega
  all_goals
    clear h
    go_enter Tryd.func10, Tryd.ntmps10
    go_wp2
    go_light
    exact bodyPost_ret (v := .tuple #[.agg #[.int .i64 0, .int .i64 0, .int .i64 0, .int .i64 0], .int .i64 1]) (by simp [results, Tryd.results10, go_sem]) rfl ⟨rfl, (by (repeat (with_reducible first | assumption | exact Ext.refl _ | refine Ext.drew ?_ | refine Ext.alloc ?_ _ | refine Ext.setCell ?_ (by simp <;> omega) _ | refine Ext.trans ?_ (by assumption))))⟩

theorem iof1_any (n d : Nat) (w : World) (hn : 1 ≤ n) (hn' : n ≤ 9223372036854775807) (hd : 1 ≤ d) (hd' : d ≤ 9223372036854775807) (hg : Nat.gcd n d ≠ 1) :
    Calls Tryd.prog 10 #[.agg #[.int .i64 n, .int .i64 d]] w fun e w' =>
      e = .returned (.tuple #[.agg #[.int .i64 0, .int .i64 0, .int .i64 0, .int .i64 0], .int .i64 3]) ∧ Ext w w' := by
  have hq : ((Nat.gcd n d : Int) != 1) = true := by simp; omega
  clear hg
  go_enter Tryd.func10, Tryd.ntmps10
  go_wp2_with (go_at_call 30; refine (divisor_any n d _ hn' hd').mono ?_; rintro e w1 ⟨rfl, hb1⟩; obtain ⟨hc1, hf1, hz1⟩ := hb1.walk; (try simp only [World.size_alloc, World.size_setCell, World.size_drew] at hz1))
  go_light
  exact bodyPost_ret (v := .tuple #[.agg #[.int .i64 0, .int .i64 0, .int .i64 0, .int .i64 0], .int .i64 3]) (by simp [results, Tryd.results10, go_sem, *]) rfl ⟨rfl, (by (repeat (with_reducible first | assumption | exact Ext.refl _ | refine Ext.drew ?_ | refine Ext.alloc ?_ _ | refine Ext.setCell ?_ (by simp <;> omega) _ | refine Ext.trans ?_ (by assumption))))⟩

set_option maxRecDepth 100000 in
set_option maxHeartbeats 3200000 in
theorem iof2_any (n d : Nat) (w : World) (hn : 1 ≤ n) (hn' : n ≤ 9223372036854775807) (hd : 1 ≤ d) (hd' : d ≤ 9223372036854775807) (hg : Nat.gcd n d = 1) :
    Calls Tryd.prog 10 #[.agg #[.int .i64 n, .int .i64 d]] w fun e w' =>
      e = .returned (.tuple #[.agg #[.int .i64 (ofR n d).a, .int .i64 (ofR n d).b, .int .i64 (ofR n d).c, .int .i64 (ofR n d).d], .int .i64 (ofE n d)]) ∧ Ext w w' := by
  go_enter Tryd.func10, Tryd.ntmps10
  go_wp2_with (go_at_call 30; refine (divisor_any n d _ hn' hd').mono ?_; rintro e w1 ⟨rfl, hb1⟩; have lt10 := (Blk.ext (Blk.alloc (Blk.new' (w := w) rfl) _) hb1).lt; obtain ⟨s10, f10⟩ := (Blk.ext (Blk.alloc (Blk.new' (w := w) rfl) _) hb1).walk; have lt11 := (Blk.ext (Blk.new' (g := w.heap.size + 1) (by simp)) hb1).lt; obtain ⟨s11, f11⟩ := (Blk.ext (Blk.new' (g := w.heap.size + 1) (by simp)) hb1).walk; have hz1 := hb1.size; (try simp only [World.size_alloc, World.size_setCell, World.size_drew] at hz1))
  have hR1 := Blk.ext (Blk.new' (g := w.heap.size + 1) (by simp)) hb1
  have hF1 := Blk.ext (Blk.alloc (Blk.new' (w := w) rfl) _) hb1
  have he1 : Ext w w1 := (by (repeat (with_reducible first | assumption | exact Ext.refl _ | refine Ext.drew ?_ | refine Ext.alloc ?_ _ | refine Ext.setCell ?_ (by simp <;> omega) _ | refine Ext.trans ?_ (by assumption))))
  clear s10 s11 f10 f11 hb1
  refine wp_region_planS [(0, true), (1, true), (2, true), (3, true), (4, true), (5, true)] 6 (fun w' => Blk w' w.heap.size 30 #[.int .i64 n, .int .i64 d] ∧ Blk w' (w.heap.size + 1) 27 #[.int .i64 0, .int .i64 0, .int .i64 0, .int .i64 0] ∧ Ext w w') Ext (by kernel_rfl) (by kernel_rfl) Ext.refl (fun _ _ _ => Ext.trans) (fun _ _ h he => ⟨h.1.ext he, h.2.1.ext he, h.2.2.trans he⟩) ⟨(by (repeat (with_reducible first | assumption | exact Blk.new' (by simp) | refine Blk.drew ?_ | refine Blk.alloc ?_ _ | exact Ext.refl _ | refine Ext.drew ?_ | refine Ext.alloc ?_ _))), (by (repeat (with_reducible first | assumption | exact Blk.new' (by simp) | refine Blk.drew ?_ | refine Blk.alloc ?_ _ | exact Ext.refl _ | refine Ext.drew ?_ | refine Ext.alloc ?_ _))), (by (repeat (with_reducible first | assumption | exact Blk.new' (by simp) | refine Blk.drew ?_ | refine Blk.alloc ?_ _ | exact Ext.refl _ | refine Ext.drew ?_ | refine Ext.alloc ?_ _)))⟩ ?_
  repeat
    first
      | (refine plan_quiet rfl rfl (fun _ _ _ _ h => h) ?_
         apply Exists.intro
         refine ⟨fun w' hw' => ?_, ?_⟩
         · obtain ⟨hH20, hH21, hH22⟩ := hw'
           unfold Blk at hH20 hH21
           simp [go_sem, quietTo, World.cell?, hH20, hH21, Ext.refl, ↓IntWalk.iteOmega]
           first
             | rfl
         simp only [Act.put, List.setIfInBounds_toArray, List.set_cons_succ, List.set_cons_zero])
      | (refine plan_skip rfl rfl (fun _ _ _ _ h => h) ?_
         simp only [Act.put, List.setIfInBounds_toArray, List.set_cons_succ, List.set_cons_zero])
  refine plan_nil fun wr2 her2 hwr2 => ?_
  clear her2
  obtain ⟨hH20, hH21, hH22⟩ := hwr2
  obtain ⟨hC20, hF20⟩ := hH20.walk
  obtain ⟨hC21, hF21⟩ := hH21.walk
  simp only [List.drop_succ_cons, List.drop_zero, List.drop_nil]
  go_wp2
  have hlt := hH21.lt
  have hR3 := Blk.alloc (Blk.alloc hH21 (.cells #[.int .i64 0, .int .i64 0, .int .i64 0, .int .i64 0] 58)) (.cells #[.int .i64 2, .int .i64 3, .int .i64 5, .int .i64 7] 3)
  have hM3 : Blk ((wr2.alloc (.cells #[.int .i64 0, .int .i64 0, .int .i64 0, .int .i64 0] 58)).alloc (.cells #[.int .i64 2, .int .i64 3, .int .i64 5, .int .i64 7] 3)) wr2.heap.size 58 (mCells n d 0) := Blk.alloc (Blk.new' rfl) _
  have hS3 : Blk ((wr2.alloc (.cells #[.int .i64 0, .int .i64 0, .int .i64 0, .int .i64 0] 58)).alloc (.cells #[.int .i64 2, .int .i64 3, .int .i64 5, .int .i64 7] 3)) (wr2.heap.size + 1) 3 #[.int .i64 2, .int .i64 3, .int .i64 5, .int .i64 7] := Blk.new' (by simp)
  have he3 : Ext w ((wr2.alloc (.cells #[.int .i64 0, .int .i64 0, .int .i64 0, .int .i64 0] 58)).alloc (.cells #[.int .i64 2, .int .i64 3, .int .i64 5, .int .i64 7] 3)) := (by (repeat (with_reducible first | assumption | exact Ext.refl _ | refine Ext.drew ?_ | refine Ext.alloc ?_ _ | refine Ext.setCell ?_ (by simp <;> omega) _ | refine Ext.trans ?_ (by assumption))))
  clear hC20 hC21 hF20 hF21 hH20 hH21 hH22 hR1 hF1 he1
  generalize (wr2.alloc (.cells #[.int .i64 0, .int .i64 0, .int .i64 0, .int .i64 0] 58)).alloc (.cells #[.int .i64 2, .int .i64 3, .int .i64 5, .int .i64 7] 3) = w4 at hR3 hM3 hS3 he3 ⊢
  generalize wr2.heap.size = M at hR3 hM3 hS3 hlt ⊢
  go_loopw [4, 5, 35] (fun a b i w' => ∃ k : Nat, k ≤ 4 ∧ a = .int .i64 (numK n k) ∧ b = .int .i64 (numK d k) ∧ i = .int .i64 k ∧ Blk w' (w.heap.size + 1) 27 #[.int .i64 0, .int .i64 0, .int .i64 0, .int .i64 0] ∧ Blk w' M 58 (mCells n d k) ∧ Blk w' (M + 1) 3 #[.int .i64 2, .int .i64 3, .int .i64 5, .int .i64 7] ∧ Ext w w') (fun _ _ i _ => 4 - (intOf i).toNat)
  case atStart => exact ⟨0, by omega, rfl, rfl, rfl, hR3, hM3, hS3, he3⟩
  case round =>
    clear hR3 hM3 hS3 he3
    obtain ⟨k, hk, rfl, rfl, rfl, hR, hMk, hS, he⟩ := hrel
    have hk' : k = 0 ∨ k = 1 ∨ k = 2 ∨ k = 3 ∨ k = 4 := by omega
    rcases hk' with rfl | rfl | rfl | rfl | rfl
    case inr.inr.inr.inr =>
      obtain ⟨c0, c1, c2, c3, cf⟩ := mCells_walk hMk
      have e0 : wr.cell? ⟨M, 0, none⟩ = some (.int .i64 (ofI n d).a) := c0
      have e1 : wr.cell? ⟨M, 1, none⟩ = some (.int .i64 (ofI n d).b) := c1
      have e2 : wr.cell? ⟨M, 2, none⟩ = some (.int .i64 (ofI n d).c) := c2
      have e3 : wr.cell? ⟨M, 3, none⟩ = some (.int .i64 (ofI n d).d) := c3
      have hM3 := hMk.lt
      have hR4 : w.heap.size < wr.heap.size := by have := hR.lt; omega
      obtain ⟨r1, r2⟩ := hR.walk
      clear c0 c1 c2 c3 hMk cf
      rcases (by omega : (numK n 4 = 1 ∧ numK d 4 = 1) ∨ numK n 4 ≠ 1 ∨ (numK n 4 = 1 ∧ numK d 4 ≠ 1)) with ⟨h1, h2⟩ | h1 | ⟨h1, h2⟩
      · have hOK : ofOK n d = true := by unfold ofOK; rw [h1, h2]; rfl
        have hr : ofR n d = okI (ofI n d) := by unfold ofR; rw [hg, hOK]; rfl
        have hE : ofE n d = faultI (ofI n d) := by unfold ofE; rw [hg, hOK]; rfl
        rw [h1, h2]
        clear hOK
        replace hr := Lib.hid hr
        replace hE := Lib.hid hE
        cases hB : rightB (ofI n d)
        · have hF : faultI (ofI n d) = 1 := by unfold faultI; rw [hB]; rfl
          have hK : okI (ofI n d) = zeroI := by unfold okI; rw [hB]; rfl
          replace hK := Lib.hid hK
          go_wp2_with (go_at_call 6; refine (intervalFault_any (ofI n d) _).mono ?_; rintro e w1 ⟨rfl, hb1⟩; have lt10 := (Blk.ext (Blk.alloc hR _) hb1).lt; obtain ⟨s10, f10⟩ := (Blk.ext (Blk.alloc hR _) hb1).walk; have lt11 := (Blk.ext (Blk.new' (w := wr) (t := 27) (cs := #[.int .i64 (ofI n d).a, .int .i64 (ofI n d).b, .int .i64 (ofI n d).c, .int .i64 (ofI n d).d]) rfl) hb1).lt; obtain ⟨s11, f11⟩ := (Blk.ext (Blk.new' (w := wr) (t := 27) (cs := #[.int .i64 (ofI n d).a, .int .i64 (ofI n d).b, .int .i64 (ofI n d).c, .int .i64 (ofI n d).d]) rfl) hb1).walk; have hz1 := hb1.size; (try simp only [World.size_alloc, World.size_setCell, World.size_drew] at hz1))
          go_light
          refine bodyPost_ret (v := .tuple #[.agg #[.int .i64 0, .int .i64 0, .int .i64 0, .int .i64 0], .int .i64 1]) (by simp [results, Tryd.results10, go_sem, *]) rfl ⟨?_, (by (repeat (with_reducible first | assumption | exact Ext.refl _ | refine Ext.drew ?_ | refine Ext.alloc ?_ _ | refine Ext.setCell ?_ (by simp <;> omega) _ | refine Ext.trans ?_ (by assumption))))⟩
          rw [hr.out, hE.out, hK.out, hF]
          rfl
        · have hF : faultI (ofI n d) = 0 := by unfold faultI; rw [hB]; rfl
          have hK : okI (ofI n d) = ofI n d := by unfold okI; rw [hB]; rfl
          replace hK := Lib.hid hK
          go_wp2_with (go_at_call 6; refine (intervalFault_any (ofI n d) _).mono ?_; rintro e w1 ⟨rfl, hb1⟩; have lt10 := (Blk.ext (Blk.alloc hR _) hb1).lt; obtain ⟨s10, f10⟩ := (Blk.ext (Blk.alloc hR _) hb1).walk; have lt11 := (Blk.ext (Blk.new' (w := wr) (t := 27) (cs := #[.int .i64 (ofI n d).a, .int .i64 (ofI n d).b, .int .i64 (ofI n d).c, .int .i64 (ofI n d).d]) rfl) hb1).lt; obtain ⟨s11, f11⟩ := (Blk.ext (Blk.new' (w := wr) (t := 27) (cs := #[.int .i64 (ofI n d).a, .int .i64 (ofI n d).b, .int .i64 (ofI n d).c, .int .i64 (ofI n d).d]) rfl) hb1).walk; have hz1 := hb1.size; (try simp only [World.size_alloc, World.size_setCell, World.size_drew] at hz1))
          go_light
          refine bodyPost_ret (v := .tuple #[.agg #[.int .i64 (ofI n d).a, .int .i64 (ofI n d).b, .int .i64 (ofI n d).c, .int .i64 (ofI n d).d], .int .i64 0]) (by simp [results, Tryd.results10, go_sem, *]) rfl ⟨?_, (by (repeat (with_reducible first | assumption | exact Ext.refl _ | refine Ext.drew ?_ | refine Ext.alloc ?_ _ | refine Ext.setCell ?_ (by simp <;> omega) _ | refine Ext.trans ?_ (by assumption))))⟩
          rw [hr.out, hE.out, hK.out, hF]
      · have hOK : ofOK n d = false := by unfold ofOK; rw [beq_eq_false_iff_ne.2 h1]; rfl
        have hr : ofR n d = zeroI := by unfold ofR; rw [hg, hOK]; rfl
        have hE : ofE n d = 16 := by unfold ofE; rw [hg, hOK]; rfl
        have h1' : ((numK n 4 : Int) != 1) = true := by simp; omega
        clear hOK h1
        replace hr := Lib.hid hr
        replace hE := Lib.hid hE
        go_wp2
        go_light
        refine bodyPost_ret (v := .tuple #[.agg #[.int .i64 0, .int .i64 0, .int .i64 0, .int .i64 0], .int .i64 16]) (by simp [results, Tryd.results10, go_sem, *]) rfl ⟨?_, (by (repeat (with_reducible first | assumption | exact Ext.refl _ | refine Ext.drew ?_ | refine Ext.alloc ?_ _ | refine Ext.setCell ?_ (by simp <;> omega) _ | refine Ext.trans ?_ (by assumption))))⟩
        rw [hr.out, hE.out]
        rfl
      · have hOK : ofOK n d = false := by unfold ofOK; rw [beq_eq_false_iff_ne.2 h2, Bool.and_false]
        have hr : ofR n d = zeroI := by unfold ofR; rw [hg, hOK]; rfl
        have hE : ofE n d = 16 := by unfold ofE; rw [hg, hOK]; rfl
        have h2' : ((numK d 4 : Int) != 1) = true := by simp; omega
        rw [h1]
        clear hOK h2 h1
        replace hr := Lib.hid hr
        replace hE := Lib.hid hE
        go_wp2
        go_light
        refine bodyPost_ret (v := .tuple #[.agg #[.int .i64 0, .int .i64 0, .int .i64 0, .int .i64 0], .int .i64 16]) (by simp [results, Tryd.results10, go_sem, *]) rfl ⟨?_, (by (repeat (with_reducible first | assumption | exact Ext.refl _ | refine Ext.drew ?_ | refine Ext.alloc ?_ _ | refine Ext.setCell ?_ (by simp <;> omega) _ | refine Ext.trans ?_ (by assumption))))⟩
        rw [hr.out, hE.out]
        rfl
    · obtain ⟨s1, s2⟩ := hS.walk
      have bn := expK_lt hn hn' 0
      have bd := expK_lt hd hd' 0
      have pn := numK_pos hn 0
      have pd := numK_pos hd 0
      have ln := Nat.le_trans (numK_le hn 0) hn'
      have ld := Nat.le_trans (numK_le hd 0) hd'
      go_wp2
      clear s1 s2
      go_loopw [4] (fun a w' => ∃ x e : Nat, 1 ≤ x ∧ x ≤ 9223372036854775807 ∧ e + x ≤ 9223372036854775807 ∧ a = .int .i64 x ∧ Hid (V 2 x e = V 2 (numK n 0) 0) ∧ Blk w' (w.heap.size + 1) 27 #[.int .i64 0, .int .i64 0, .int .i64 0, .int .i64 0] ∧ Blk w' M 58 (iC n d 0 e) ∧ Blk w' (M + 1) 3 #[.int .i64 2, .int .i64 3, .int .i64 5, .int .i64 7] ∧ Ext w w') (fun a _ => (intOf a).toNat)
      case atStart => exact ⟨_, 0, pn, ln, by omega, rfl, rfl, hR, hMk.cast (iC_zero n d 0 (by omega)), hS, he⟩
      case round =>
        clear hR hMk hS he
        obtain ⟨x, e, hx, hx', hk, rfl, hv, hR, hMk, hS, he⟩ := hrel
        by_cases h0 : x % 2 = 0
        · have h1 : (((x : Int) % 2) == 0) = true := by rw [beq_iff_eq]; omega
          have hlt2 : x / 2 < x := Nat.div_lt_self (by omega) (by omega)
          have hpos := div_pos_of_dvd hx h0
          have h2 : e + 1 + x / 2 ≤ 9223372036854775807 := by omega
          have c0 : wr.cell? ⟨M, 0, none⟩ = some (.int .i64 e) := (hMk.cell _).trans (iC_get n d 0 _ (by omega))
          have f0 := hMk.frozen 0
          have g0 := h0
          clear h0
          replace g0 := Lib.hid g0
          replace h2 := Lib.hid h2
          go_wp2
          go_roundw
          case rel => exact ⟨x / 2, e + 1, hpos, by omega, h2.out, by rw [Int.natCast_ediv]; rfl, (V_step (by omega) hx g0.out).trans hv.out, hR.far (by simp; omega) _, (hMk.set_ 0 _).cast ((iC_set n d 0 _ _ (by omega)).trans (congrArg (iC n d 0) (by omega))), hS.far (by simp) _, (by (repeat (with_reducible first | assumption | exact Ext.refl _ | refine Ext.drew ?_ | refine Ext.alloc ?_ _ | refine Ext.setCell ?_ (by simp <;> omega) _ | refine Ext.trans ?_ (by assumption))))⟩
          case measure => simp [intOf]; omega
        · have h1 : (((x : Int) % 2) == 0) = false := by rw [beq_eq_false_iff_ne]; omega
          have hV : (e, x) = V 2 (numK n 0) 0 := (V_end hx h0).symm.trans hv.out
          obtain rfl : e = expK n 0 := congrArg Prod.fst hV
          obtain rfl : x = numK n (0 + 1) := congrArg Prod.snd hV
          clear hV h0 hv hk
          go_wp2
          go_loopw [5] (fun a w' => ∃ y e : Nat, 1 ≤ y ∧ y ≤ 9223372036854775807 ∧ e + y ≤ 9223372036854775807 ∧ a = .int .i64 y ∧ Hid (V 2 y e = V 2 (numK d 0) 0) ∧ Blk w' (w.heap.size + 1) 27 #[.int .i64 0, .int .i64 0, .int .i64 0, .int .i64 0] ∧ Blk w' M 58 (iC n d 0 ((expK n 0 : Int) - e)) ∧ Blk w' (M + 1) 3 #[.int .i64 2, .int .i64 3, .int .i64 5, .int .i64 7] ∧ Ext w w') (fun a _ => (intOf a).toNat)
          case atStart => exact ⟨_, 0, pd, ld, by omega, rfl, rfl, hR, hMk.cast (congrArg (iC n d 0) (by omega)), hS, he⟩
          case round =>
            clear hR hMk hS he
            obtain ⟨y, e, hy, hy', hk, rfl, hv, hR, hMk, hS, he⟩ := hrel
            by_cases h0 : y % 2 = 0
            · have h1 : (((y : Int) % 2) == 0) = true := by rw [beq_iff_eq]; omega
              have hpos := div_pos_of_dvd hy h0
              have h2 : e + 1 + y / 2 ≤ 9223372036854775807 := by omega
              have h3 : e ≤ 9223372036854775806 := by omega
              have c0 : wr.cell? ⟨M, 0, none⟩ = some (.int .i64 ((expK n 0 : Int) - e)) := (hMk.cell _).trans (iC_get n d 0 _ (by omega))
              have f0 := hMk.frozen 0
              have g0 := h0
              clear h0
              replace g0 := Lib.hid g0
              replace h2 := Lib.hid h2
              go_wp2
              go_roundw
              case rel => exact ⟨y / 2, e + 1, hpos, by omega, h2.out, by rw [Int.natCast_ediv]; rfl, (V_step (by omega) hy g0.out).trans hv.out, hR.far (by simp; omega) _, (hMk.set_ 0 _).cast ((iC_set n d 0 _ _ (by omega)).trans (congrArg (iC n d 0) (by omega))), hS.far (by simp) _, (by (repeat (with_reducible first | assumption | exact Ext.refl _ | refine Ext.drew ?_ | refine Ext.alloc ?_ _ | refine Ext.setCell ?_ (by simp <;> omega) _ | refine Ext.trans ?_ (by assumption))))⟩
              case measure => simp [intOf]; omega
            · have h1 : (((y : Int) % 2) == 0) = false := by rw [beq_eq_false_iff_ne]; omega
              have hV : (e, y) = V 2 (numK d 0) 0 := (V_end hy h0).symm.trans hv.out
              obtain rfl : e = expK d 0 := congrArg Prod.fst hV
              obtain rfl : y = numK d (0 + 1) := congrArg Prod.snd hV
              clear hV h0 hv hk
              go_wp2
              go_roundw
              case rel => exact ⟨_, by omega, rfl, rfl, by first | rfl | go_num, hR, hMk.cast (iC_next n d 0 (by omega)), hS, he⟩
              case measure => simp [intOf]
    · obtain ⟨s1, s2⟩ := hS.walk
      have bn := expK_lt hn hn' 1
      have bd := expK_lt hd hd' 1
      have pn := numK_pos hn 1
      have pd := numK_pos hd 1
      have ln := Nat.le_trans (numK_le hn 1) hn'
      have ld := Nat.le_trans (numK_le hd 1) hd'
      go_wp2
      clear s1 s2
      go_loopw [4] (fun a w' => ∃ x e : Nat, 1 ≤ x ∧ x ≤ 9223372036854775807 ∧ e + x ≤ 9223372036854775807 ∧ a = .int .i64 x ∧ Hid (V 3 x e = V 3 (numK n 1) 0) ∧ Blk w' (w.heap.size + 1) 27 #[.int .i64 0, .int .i64 0, .int .i64 0, .int .i64 0] ∧ Blk w' M 58 (iC n d 1 e) ∧ Blk w' (M + 1) 3 #[.int .i64 2, .int .i64 3, .int .i64 5, .int .i64 7] ∧ Ext w w') (fun a _ => (intOf a).toNat)
      case atStart => exact ⟨_, 0, pn, ln, by omega, rfl, rfl, hR, hMk.cast (iC_zero n d 1 (by omega)), hS, he⟩
      case round =>
        clear hR hMk hS he
        obtain ⟨x, e, hx, hx', hk, rfl, hv, hR, hMk, hS, he⟩ := hrel
        by_cases h0 : x % 3 = 0
        · have h1 : (((x : Int) % 3) == 0) = true := by rw [beq_iff_eq]; omega
          have hlt2 : x / 3 < x := Nat.div_lt_self (by omega) (by omega)
          have hpos := div_pos_of_dvd hx h0
          have h2 : e + 1 + x / 3 ≤ 9223372036854775807 := by omega
          have c0 : wr.cell? ⟨M, 1, none⟩ = some (.int .i64 e) := (hMk.cell _).trans (iC_get n d 1 _ (by omega))
          have f0 := hMk.frozen 1
          have g0 := h0
          clear h0
          replace g0 := Lib.hid g0
          replace h2 := Lib.hid h2
          go_wp2
          go_roundw
          case rel => exact ⟨x / 3, e + 1, hpos, by omega, h2.out, by rw [Int.natCast_ediv]; rfl, (V_step (by omega) hx g0.out).trans hv.out, hR.far (by simp; omega) _, (hMk.set_ 1 _).cast ((iC_set n d 1 _ _ (by omega)).trans (congrArg (iC n d 1) (by omega))), hS.far (by simp) _, (by (repeat (with_reducible first | assumption | exact Ext.refl _ | refine Ext.drew ?_ | refine Ext.alloc ?_ _ | refine Ext.setCell ?_ (by simp <;> omega) _ | refine Ext.trans ?_ (by assumption))))⟩
          case measure => simp [intOf]; omega
        · have h1 : (((x : Int) % 3) == 0) = false := by rw [beq_eq_false_iff_ne]; omega
          have hV : (e, x) = V 3 (numK n 1) 0 := (V_end hx h0).symm.trans hv.out
          obtain rfl : e = expK n 1 := congrArg Prod.fst hV
          obtain rfl : x = numK n (1 + 1) := congrArg Prod.snd hV
          clear hV h0 hv hk
          go_wp2
          go_loopw [5] (fun a w' => ∃ y e : Nat, 1 ≤ y ∧ y ≤ 9223372036854775807 ∧ e + y ≤ 9223372036854775807 ∧ a = .int .i64 y ∧ Hid (V 3 y e = V 3 (numK d 1) 0) ∧ Blk w' (w.heap.size + 1) 27 #[.int .i64 0, .int .i64 0, .int .i64 0, .int .i64 0] ∧ Blk w' M 58 (iC n d 1 ((expK n 1 : Int) - e)) ∧ Blk w' (M + 1) 3 #[.int .i64 2, .int .i64 3, .int .i64 5, .int .i64 7] ∧ Ext w w') (fun a _ => (intOf a).toNat)
          case atStart => exact ⟨_, 0, pd, ld, by omega, rfl, rfl, hR, hMk.cast (congrArg (iC n d 1) (by omega)), hS, he⟩
          case round =>
            clear hR hMk hS he
            obtain ⟨y, e, hy, hy', hk, rfl, hv, hR, hMk, hS, he⟩ := hrel
            by_cases h0 : y % 3 = 0
            · have h1 : (((y : Int) % 3) == 0) = true := by rw [beq_iff_eq]; omega
              have hpos := div_pos_of_dvd hy h0
              have h2 : e + 1 + y / 3 ≤ 9223372036854775807 := by omega
              have h3 : e ≤ 9223372036854775806 := by omega
              have c0 : wr.cell? ⟨M, 1, none⟩ = some (.int .i64 ((expK n 1 : Int) - e)) := (hMk.cell _).trans (iC_get n d 1 _ (by omega))
              have f0 := hMk.frozen 1
              have g0 := h0
              clear h0
              replace g0 := Lib.hid g0
              replace h2 := Lib.hid h2
              go_wp2
              go_roundw
              case rel => exact ⟨y / 3, e + 1, hpos, by omega, h2.out, by rw [Int.natCast_ediv]; rfl, (V_step (by omega) hy g0.out).trans hv.out, hR.far (by simp; omega) _, (hMk.set_ 1 _).cast ((iC_set n d 1 _ _ (by omega)).trans (congrArg (iC n d 1) (by omega))), hS.far (by simp) _, (by (repeat (with_reducible first | assumption | exact Ext.refl _ | refine Ext.drew ?_ | refine Ext.alloc ?_ _ | refine Ext.setCell ?_ (by simp <;> omega) _ | refine Ext.trans ?_ (by assumption))))⟩
              case measure => simp [intOf]; omega
            · have h1 : (((y : Int) % 3) == 0) = false := by rw [beq_eq_false_iff_ne]; omega
              have hV : (e, y) = V 3 (numK d 1) 0 := (V_end hy h0).symm.trans hv.out
              obtain rfl : e = expK d 1 := congrArg Prod.fst hV
              obtain rfl : y = numK d (1 + 1) := congrArg Prod.snd hV
              clear hV h0 hv hk
              go_wp2
              go_roundw
              case rel => exact ⟨_, by omega, rfl, rfl, by first | rfl | go_num, hR, hMk.cast (iC_next n d 1 (by omega)), hS, he⟩
              case measure => simp [intOf]
    · obtain ⟨s1, s2⟩ := hS.walk
      have bn := expK_lt hn hn' 2
      have bd := expK_lt hd hd' 2
      have pn := numK_pos hn 2
      have pd := numK_pos hd 2
      have ln := Nat.le_trans (numK_le hn 2) hn'
      have ld := Nat.le_trans (numK_le hd 2) hd'
      go_wp2
      clear s1 s2
      go_loopw [4] (fun a w' => ∃ x e : Nat, 1 ≤ x ∧ x ≤ 9223372036854775807 ∧ e + x ≤ 9223372036854775807 ∧ a = .int .i64 x ∧ Hid (V 5 x e = V 5 (numK n 2) 0) ∧ Blk w' (w.heap.size + 1) 27 #[.int .i64 0, .int .i64 0, .int .i64 0, .int .i64 0] ∧ Blk w' M 58 (iC n d 2 e) ∧ Blk w' (M + 1) 3 #[.int .i64 2, .int .i64 3, .int .i64 5, .int .i64 7] ∧ Ext w w') (fun a _ => (intOf a).toNat)
      case atStart => exact ⟨_, 0, pn, ln, by omega, rfl, rfl, hR, hMk.cast (iC_zero n d 2 (by omega)), hS, he⟩
      case round =>
        clear hR hMk hS he
        obtain ⟨x, e, hx, hx', hk, rfl, hv, hR, hMk, hS, he⟩ := hrel
        by_cases h0 : x % 5 = 0
        · have h1 : (((x : Int) % 5) == 0) = true := by rw [beq_iff_eq]; omega
          have hlt2 : x / 5 < x := Nat.div_lt_self (by omega) (by omega)
          have hpos := div_pos_of_dvd hx h0
          have h2 : e + 1 + x / 5 ≤ 9223372036854775807 := by omega
          have c0 : wr.cell? ⟨M, 2, none⟩ = some (.int .i64 e) := (hMk.cell _).trans (iC_get n d 2 _ (by omega))
          have f0 := hMk.frozen 2
          have g0 := h0
          clear h0
          replace g0 := Lib.hid g0
          replace h2 := Lib.hid h2
          go_wp2
          go_roundw
          case rel => exact ⟨x / 5, e + 1, hpos, by omega, h2.out, by rw [Int.natCast_ediv]; rfl, (V_step (by omega) hx g0.out).trans hv.out, hR.far (by simp; omega) _, (hMk.set_ 2 _).cast ((iC_set n d 2 _ _ (by omega)).trans (congrArg (iC n d 2) (by omega))), hS.far (by simp) _, (by (repeat (with_reducible first | assumption | exact Ext.refl _ | refine Ext.drew ?_ | refine Ext.alloc ?_ _ | refine Ext.setCell ?_ (by simp <;> omega) _ | refine Ext.trans ?_ (by assumption))))⟩
          case measure => simp [intOf]; omega
        · have h1 : (((x : Int) % 5) == 0) = false := by rw [beq_eq_false_iff_ne]; omega
          have hV : (e, x) = V 5 (numK n 2) 0 := (V_end hx h0).symm.trans hv.out
          obtain rfl : e = expK n 2 := congrArg Prod.fst hV
          obtain rfl : x = numK n (2 + 1) := congrArg Prod.snd hV
          clear hV h0 hv hk
          go_wp2
          go_loopw [5] (fun a w' => ∃ y e : Nat, 1 ≤ y ∧ y ≤ 9223372036854775807 ∧ e + y ≤ 9223372036854775807 ∧ a = .int .i64 y ∧ Hid (V 5 y e = V 5 (numK d 2) 0) ∧ Blk w' (w.heap.size + 1) 27 #[.int .i64 0, .int .i64 0, .int .i64 0, .int .i64 0] ∧ Blk w' M 58 (iC n d 2 ((expK n 2 : Int) - e)) ∧ Blk w' (M + 1) 3 #[.int .i64 2, .int .i64 3, .int .i64 5, .int .i64 7] ∧ Ext w w') (fun a _ => (intOf a).toNat)
          case atStart => exact ⟨_, 0, pd, ld, by omega, rfl, rfl, hR, hMk.cast (congrArg (iC n d 2) (by omega)), hS, he⟩
          case round =>
            clear hR hMk hS he
            obtain ⟨y, e, hy, hy', hk, rfl, hv, hR, hMk, hS, he⟩ := hrel
            by_cases h0 : y % 5 = 0
            · have h1 : (((y : Int) % 5) == 0) = true := by rw [beq_iff_eq]; omega
              have hpos := div_pos_of_dvd hy h0
              have h2 : e + 1 + y / 5 ≤ 9223372036854775807 := by omega
              have h3 : e ≤ 9223372036854775806 := by omega
              have c0 : wr.cell? ⟨M, 2, none⟩ = some (.int .i64 ((expK n 2 : Int) - e)) := (hMk.cell _).trans (iC_get n d 2 _ (by omega))
              have f0 := hMk.frozen 2
              have g0 := h0
              clear h0
              replace g0 := Lib.hid g0
              replace h2 := Lib.hid h2
              go_wp2
              go_roundw
              case rel => exact ⟨y / 5, e + 1, hpos, by omega, h2.out, by rw [Int.natCast_ediv]; rfl, (V_step (by omega) hy g0.out).trans hv.out, hR.far (by simp; omega) _, (hMk.set_ 2 _).cast ((iC_set n d 2 _ _ (by omega)).trans (congrArg (iC n d 2) (by omega))), hS.far (by simp) _, (by (repeat (with_reducible first | assumption | exact Ext.refl _ | refine Ext.drew ?_ | refine Ext.alloc ?_ _ | refine Ext.setCell ?_ (by simp <;> omega) _ | refine Ext.trans ?_ (by assumption))))⟩
              case measure => simp [intOf]; omega
            · have h1 : (((y : Int) % 5) == 0) = false := by rw [beq_eq_false_iff_ne]; omega
              have hV : (e, y) = V 5 (numK d 2) 0 := (V_end hy h0).symm.trans hv.out
              obtain rfl : e = expK d 2 := congrArg Prod.fst hV
              obtain rfl : y = numK d (2 + 1) := congrArg Prod.snd hV
              clear hV h0 hv hk
              go_wp2
              go_roundw
              case rel => exact ⟨_, by omega, rfl, rfl, by first | rfl | go_num, hR, hMk.cast (iC_next n d 2 (by omega)), hS, he⟩
              case measure => simp [intOf]
    · obtain ⟨s1, s2⟩ := hS.walk
      have bn := expK_lt hn hn' 3
      have bd := expK_lt hd hd' 3
      have pn := numK_pos hn 3
      have pd := numK_pos hd 3
      have ln := Nat.le_trans (numK_le hn 3) hn'
      have ld := Nat.le_trans (numK_le hd 3) hd'
      go_wp2
      clear s1 s2
      go_loopw [4] (fun a w' => ∃ x e : Nat, 1 ≤ x ∧ x ≤ 9223372036854775807 ∧ e + x ≤ 9223372036854775807 ∧ a = .int .i64 x ∧ Hid (V 7 x e = V 7 (numK n 3) 0) ∧ Blk w' (w.heap.size + 1) 27 #[.int .i64 0, .int .i64 0, .int .i64 0, .int .i64 0] ∧ Blk w' M 58 (iC n d 3 e) ∧ Blk w' (M + 1) 3 #[.int .i64 2, .int .i64 3, .int .i64 5, .int .i64 7] ∧ Ext w w') (fun a _ => (intOf a).toNat)
      case atStart => exact ⟨_, 0, pn, ln, by omega, rfl, rfl, hR, hMk.cast (iC_zero n d 3 (by omega)), hS, he⟩
      case round =>
        clear hR hMk hS he
        obtain ⟨x, e, hx, hx', hk, rfl, hv, hR, hMk, hS, he⟩ := hrel
        by_cases h0 : x % 7 = 0
        · have h1 : (((x : Int) % 7) == 0) = true := by rw [beq_iff_eq]; omega
          have hlt2 : x / 7 < x := Nat.div_lt_self (by omega) (by omega)
          have hpos := div_pos_of_dvd hx h0
          have h2 : e + 1 + x / 7 ≤ 9223372036854775807 := by omega
          have c0 : wr.cell? ⟨M, 3, none⟩ = some (.int .i64 e) := (hMk.cell _).trans (iC_get n d 3 _ (by omega))
          have f0 := hMk.frozen 3
          have g0 := h0
          clear h0
          replace g0 := Lib.hid g0
          replace h2 := Lib.hid h2
          go_wp2
          go_roundw
          case rel => exact ⟨x / 7, e + 1, hpos, by omega, h2.out, by rw [Int.natCast_ediv]; rfl, (V_step (by omega) hx g0.out).trans hv.out, hR.far (by simp; omega) _, (hMk.set_ 3 _).cast ((iC_set n d 3 _ _ (by omega)).trans (congrArg (iC n d 3) (by omega))), hS.far (by simp) _, (by (repeat (with_reducible first | assumption | exact Ext.refl _ | refine Ext.drew ?_ | refine Ext.alloc ?_ _ | refine Ext.setCell ?_ (by simp <;> omega) _ | refine Ext.trans ?_ (by assumption))))⟩
          case measure => simp [intOf]; omega
        · have h1 : (((x : Int) % 7) == 0) = false := by rw [beq_eq_false_iff_ne]; omega
          have hV : (e, x) = V 7 (numK n 3) 0 := (V_end hx h0).symm.trans hv.out
          obtain rfl : e = expK n 3 := congrArg Prod.fst hV
          obtain rfl : x = numK n (3 + 1) := congrArg Prod.snd hV
          clear hV h0 hv hk
          go_wp2
          go_loopw [5] (fun a w' => ∃ y e : Nat, 1 ≤ y ∧ y ≤ 9223372036854775807 ∧ e + y ≤ 9223372036854775807 ∧ a = .int .i64 y ∧ Hid (V 7 y e = V 7 (numK d 3) 0) ∧ Blk w' (w.heap.size + 1) 27 #[.int .i64 0, .int .i64 0, .int .i64 0, .int .i64 0] ∧ Blk w' M 58 (iC n d 3 ((expK n 3 : Int) - e)) ∧ Blk w' (M + 1) 3 #[.int .i64 2, .int .i64 3, .int .i64 5, .int .i64 7] ∧ Ext w w') (fun a _ => (intOf a).toNat)
          case atStart => exact ⟨_, 0, pd, ld, by omega, rfl, rfl, hR, hMk.cast (congrArg (iC n d 3) (by omega)), hS, he⟩
          case round =>
            clear hR hMk hS he
            obtain ⟨y, e, hy, hy', hk, rfl, hv, hR, hMk, hS, he⟩ := hrel
            by_cases h0 : y % 7 = 0
            · have h1 : (((y : Int) % 7) == 0) = true := by rw [beq_iff_eq]; omega
              have hpos := div_pos_of_dvd hy h0
              have h2 : e + 1 + y / 7 ≤ 9223372036854775807 := by omega
              have h3 : e ≤ 9223372036854775806 := by omega
              have c0 : wr.cell? ⟨M, 3, none⟩ = some (.int .i64 ((expK n 3 : Int) - e)) := (hMk.cell _).trans (iC_get n d 3 _ (by omega))
              have f0 := hMk.frozen 3
              have g0 := h0
              clear h0
              replace g0 := Lib.hid g0
              replace h2 := Lib.hid h2
              go_wp2
              go_roundw
              case rel => exact ⟨y / 7, e + 1, hpos, by omega, h2.out, by rw [Int.natCast_ediv]; rfl, (V_step (by omega) hy g0.out).trans hv.out, hR.far (by simp; omega) _, (hMk.set_ 3 _).cast ((iC_set n d 3 _ _ (by omega)).trans (congrArg (iC n d 3) (by omega))), hS.far (by simp) _, (by (repeat (with_reducible first | assumption | exact Ext.refl _ | refine Ext.drew ?_ | refine Ext.alloc ?_ _ | refine Ext.setCell ?_ (by simp <;> omega) _ | refine Ext.trans ?_ (by assumption))))⟩
              case measure => simp [intOf]; omega
            · have h1 : (((y : Int) % 7) == 0) = false := by rw [beq_eq_false_iff_ne]; omega
              have hV : (e, y) = V 7 (numK d 3) 0 := (V_end hy h0).symm.trans hv.out
              obtain rfl : e = expK d 3 := congrArg Prod.fst hV
              obtain rfl : y = numK d (3 + 1) := congrArg Prod.snd hV
              clear hV h0 hv hk
              go_wp2
              go_roundw
              case rel => exact ⟨_, by omega, rfl, rfl, by first | rfl | go_num, hR, hMk.cast (iC_next n d 3 (by omega)), hS, he⟩
              case measure => simp [intOf]

end Go.Proofs.YtolglfpnfeklkaaDoor
