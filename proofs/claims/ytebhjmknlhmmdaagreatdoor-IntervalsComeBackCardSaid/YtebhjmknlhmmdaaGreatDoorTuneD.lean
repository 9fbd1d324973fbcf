/- The interval of a quotient, by both texts. Conditions: as each theorem says. -/
import Derived.Test.YtebhjmknlhmmdaaGreatDoorTuneC
import Derived.Test.YtebhjmknlhmmdaaGreatDoorMathA
namespace Go.Proofs.YtebhjmknlhmmdaaGreatDoor
open Go Go.RowKit

set_option maxRecDepth 100000 in
theorem times_any (n p : Nat) (w : World) (hn : 1 ≤ n) (hn' : n ≤ 9223372036854775807) (hp : 2 ≤ p) (hp' : p ≤ 7) :
    Calls Tryz.prog 30 #[.int .i64 n, .int .i64 p] w fun e w' => e = .returned (.tuple #[.int .i64 ((V p n 0).1 : Nat), .int .i64 ((V p n 0).2 : Nat)]) ∧ w = w' := by
  go_enter Tryz.func30, Tryz.ntmps30
  go_wp2
  go_loop [0, 4] (fun s t => ∃ x k : Nat, 1 ≤ x ∧ x ≤ 9223372036854775807 ∧ k + x ≤ 9223372036854775807 ∧ s = .int .i64 x ∧ t = .int .i64 k ∧ Hid (V p x k = V p n 0)) (fun s _ => (intOf s).toNat)
  case atStart => exact ⟨n, 0, hn, hn', by omega, rfl, rfl, rfl⟩
  case round =>
    obtain ⟨x, k, hx, hx', hk, rfl, rfl, hv⟩ := hrel
    have hp0 : ¬ p = 0 := by omega
    by_cases h0 : x % p = 0
    · have h1 : (((x : Int) % (p : Int)) == 0) = true := by rw [← Int.natCast_emod, h0]; rfl
      have hlt : x / p < x := Nat.div_lt_self (by omega) (by omega)
      have hpos := div_pos_of_dvd hx h0
      have h2 : k + 1 + x / p ≤ 9223372036854775807 := by omega
      replace h0 := Lib.hid h0
      replace h2 := Lib.hid h2
      go_wp2
      go_round
      case rel => exact ⟨x / p, k + 1, hpos, by omega, h2.out, by rw [Int.natCast_ediv], by go_num, (V_step hp hx h0.out).trans hv.out⟩
      case measure => simp [intOf]; rw [← Int.natCast_ediv]; simp; omega
    · have h1 : (((x : Int) % (p : Int)) == 0) = false := by rw [← Int.natCast_emod, beq_eq_false_iff_ne]; omega
      have h3 : (k, x) = V p n 0 := (V_end hx h0).symm.trans hv.out
      replace h0 := Lib.hid h0
      replace h3 := Lib.hid h3
      go_wp2
      go_ret2
      exact ⟨by rw [← h3.out]; rfl, rfl⟩

set_option maxRecDepth 100000 in
theorem primes_any (w : World) :
    Calls Tryz.prog 29 #[] w fun e w' => e = .returned (.agg #[.int .i64 2, .int .i64 3, .int .i64 5, .int .i64 7]) ∧ Ext w w' := by
  go_enter Tryz.func29, Tryz.ntmps29
  go_wp2
  go_light
  exact bodyPost_ret (v := .agg #[.int .i64 2, .int .i64 3, .int .i64 5, .int .i64 7]) (by simp [results, Tryz.results29, go_sem]) rfl ⟨rfl, (by (repeat (with_reducible first | assumption | exact Ext.refl _ | refine Ext.drew ?_ | refine Ext.alloc ?_ _ | refine Ext.setCell ?_ (by simp <;> omega) _ | refine Ext.trans ?_ (by assumption))))⟩

theorem timesK_any (n k : Nat) (p : Int) (w : World) (hn : 1 ≤ n) (hn' : n ≤ 9223372036854775807) (hp : p = pr k) :
    Calls Tryz.prog 30 #[.int .i64 (numK n k), .int .i64 p] w fun e w' => e = .returned (.tuple #[.int .i64 (expK n k), .int .i64 (numK n (k + 1))]) ∧ w = w' := by
  subst hp
  exact times_any (numK n k) (pr k) w (numK_pos hn k) (Nat.le_trans (numK_le hn k) hn') (pr_ge k) (by unfold pr; split <;> omega)
def mCells (n d j : Nat) : Array Value := #[.int .i64 (mK n d j 0), .int .i64 (mK n d j 1), .int .i64 (mK n d j 2), .int .i64 (mK n d j 3)]
theorem mCells_zero (n d : Nat) : mCells n d 0 = #[.int .i64 0, .int .i64 0, .int .i64 0, .int .i64 0] := rfl
theorem mCells_four (n d : Nat) : mCells n d 4 = #[.int .i64 ((expK n 0 : Int) - expK d 0), .int .i64 ((expK n 1 : Int) - expK d 1), .int .i64 ((expK n 2 : Int) - expK d 2), .int .i64 ((expK n 3 : Int) - expK d 3)] := rfl
theorem mCells_walk {w : World} {g : Nat} {t : TypeId} {n d k : Nat} (h : Blk w g t (mCells n d k)) : w.cell? ⟨g, 0, none⟩ = some (.int .i64 (mK n d k 0)) ∧ w.cell? ⟨g, 1, none⟩ = some (.int .i64 (mK n d k 1)) ∧
    w.cell? ⟨g, 2, none⟩ = some (.int .i64 (mK n d k 2)) ∧ w.cell? ⟨g, 3, none⟩ = some (.int .i64 (mK n d k 3)) ∧ ∀ i, w.frozen? ⟨g, i, none⟩ = false := ⟨h.cell 0, h.cell 1, h.cell 2, h.cell 3, h.frozen⟩
theorem mCells_set (n d k : Nat) (hk : k < 4) : (mCells n d k).setIfInBounds k (.int .i64 ((expK n k : Int) - expK d k)) = mCells n d (k + 1) := by
  match k, hk with
  | 0, _ => rfl
  | 1, _ => rfl
  | 2, _ => rfl
  | 3, _ => rfl

/-- The interval that a quotient gives, if it is one. -/
def ofI (n d : Nat) : I4 := ⟨(expK n 0 : Int) - expK d 0, (expK n 1 : Int) - expK d 1, (expK n 2 : Int) - expK d 2, (expK n 3 : Int) - expK d 3⟩
def ofOK (n d : Nat) : Bool := numK n 4 == 1 && numK d 4 == 1
def ofR (n d : Nat) : I4 := if Nat.gcd n d == 1 && ofOK n d then okI (ofI n d) else zeroI
def ofE (n d : Nat) : Int := if Nat.gcd n d == 1 then (if ofOK n d then faultI (ofI n d) else 16) else 3

set_option maxRecDepth 100000 in
theorem of0_any (n d : Int) (w : World) (h : n < 1 ∨ d < 1) :
    Calls Tryz.prog 10 #[.agg #[.int .i64 n, .int .i64 d]] w fun e w' =>
      e = .returned (.tuple #[.agg #[.int .i64 0, .int .i64 0, .int .i64 0, .int .i64 0], .int .i64 1]) ∧ Ext w w' := by
  by_cases h1 : n < 1
  case' neg => have h2 : d < 1 := by omega
  all_goals
    clear h
    go_enter Tryz.func10, Tryz.ntmps10
    go_wp2
    go_light
    exact bodyPost_ret (v := .tuple #[.agg #[.int .i64 0, .int .i64 0, .int .i64 0, .int .i64 0], .int .i64 1]) (by simp [results, Tryz.results10, go_sem]) rfl ⟨rfl, (by (repeat (with_reducible first | assumption | exact Ext.refl _ | refine Ext.drew ?_ | refine Ext.alloc ?_ _ | refine Ext.setCell ?_ (by simp <;> omega) _ | refine Ext.trans ?_ (by assumption))))⟩

set_option maxRecDepth 100000 in
theorem of1_any (n d : Nat) (w : World) (hn : 1 ≤ n) (hn' : n ≤ 9223372036854775807) (hd : 1 ≤ d) (hd' : d ≤ 9223372036854775807) (hg : Nat.gcd n d ≠ 1) :
    Calls Tryz.prog 10 #[.agg #[.int .i64 n, .int .i64 d]] w fun e w' =>
      e = .returned (.tuple #[.agg #[.int .i64 0, .int .i64 0, .int .i64 0, .int .i64 0], .int .i64 3]) ∧ Ext w w' := by
  have hq : ¬ n / Nat.gcd n d = n := by
    have h0 : 0 < Nat.gcd n d := Nat.gcd_pos_of_pos_left _ (by omega)
    have := Nat.div_lt_self (n := n) (k := Nat.gcd n d) (by omega) (by omega)
    omega
  clear hg
  go_enter Tryz.func10, Tryz.ntmps10
  go_wp2
  refine wp_region_planS [(0, true), (1, true), (2, true), (3, true), (4, true), (5, true), (6, true)] 7 (fun w' => Blk w' w.heap.size 36 #[.int .i64 n, .int .i64 d] ∧ Blk w' (w.heap.size + 1) 27 #[.int .i64 0, .int .i64 0, .int .i64 0, .int .i64 0] ∧ Ext w w') Ext (by kernel_rfl) (by kernel_rfl) Ext.refl (fun _ _ _ => Ext.trans) (fun _ _ h he => ⟨h.1.ext he, h.2.1.ext he, h.2.2.trans he⟩) ⟨(by (repeat (with_reducible first | assumption | exact Blk.new' (by simp) | refine Blk.drew ?_ | refine Blk.alloc ?_ _ | exact Ext.refl _ | refine Ext.drew ?_ | refine Ext.alloc ?_ _))), (by (repeat (with_reducible first | assumption | exact Blk.new' (by simp) | refine Blk.drew ?_ | refine Blk.alloc ?_ _ | exact Ext.refl _ | refine Ext.drew ?_ | refine Ext.alloc ?_ _))), (by (repeat (with_reducible first | assumption | exact Blk.new' (by simp) | refine Blk.drew ?_ | refine Blk.alloc ?_ _ | exact Ext.refl _ | refine Ext.drew ?_ | refine Ext.alloc ?_ _)))⟩ ?_
  repeat
    first
      | (refine plan_quiet rfl rfl (fun _ _ _ _ h => h) ?_
         apply Exists.intro
         refine ⟨fun w' hw' => ?_, ?_⟩
         · obtain ⟨hH0, hH1, hH2⟩ := hw'
           unfold Blk at hH0 hH1
           simp [go_sem, quietTo, World.cell?, hH0, hH1, Ext.refl, ↓IntWalk.iteOmega, hq]
           first
             | rfl
             | (exact lowest_any n d _ hn hn' hd hd')
         simp only [Act.put, List.setIfInBounds_toArray, List.set_cons_succ, List.set_cons_zero])
      | (refine plan_skip rfl rfl (fun _ _ _ _ h => h) ?_
         simp only [Act.put, List.setIfInBounds_toArray, List.set_cons_succ, List.set_cons_zero])
  refine plan_nil fun wr her hwr => ?_
  clear her
  obtain ⟨hH0, hH1, hH2⟩ := hwr
  obtain ⟨hC0, hF0⟩ := hH0.walk
  obtain ⟨hC1, hF1⟩ := hH1.walk
  simp only [List.drop_succ_cons, List.drop_zero, List.drop_nil]
  go_wp2
  go_light
  exact bodyPost_ret (v := .tuple #[.agg #[.int .i64 0, .int .i64 0, .int .i64 0, .int .i64 0], .int .i64 3]) (by simp [results, Tryz.results10, go_sem, *]) rfl ⟨rfl, (by (repeat (with_reducible first | assumption | exact Ext.refl _ | refine Ext.drew ?_ | refine Ext.alloc ?_ _ | refine Ext.setCell ?_ (by simp <;> omega) _ | refine Ext.trans ?_ (by assumption))))⟩

set_option maxRecDepth 100000 in
set_option maxHeartbeats 1600000 in
theorem of2_any (n d : Nat) (w : World) (hn : 1 ≤ n) (hn' : n ≤ 9223372036854775807) (hd : 1 ≤ d) (hd' : d ≤ 9223372036854775807) (hg : Nat.gcd n d = 1) :
    Calls Tryz.prog 10 #[.agg #[.int .i64 n, .int .i64 d]] w fun e w' =>
      e = .returned (.tuple #[.agg #[.int .i64 (ofR n d).a, .int .i64 (ofR n d).b, .int .i64 (ofR n d).c, .int .i64 (ofR n d).d], .int .i64 (ofE n d)]) ∧ Ext w w' := by
  go_enter Tryz.func10, Tryz.ntmps10
  go_wp2
  refine wp_region_planS [(0, true), (1, true), (2, true), (3, true), (4, true), (5, true), (6, true)] 7 (fun w' => Blk w' w.heap.size 36 #[.int .i64 n, .int .i64 d] ∧ Blk w' (w.heap.size + 1) 27 #[.int .i64 0, .int .i64 0, .int .i64 0, .int .i64 0] ∧ Ext w w') Ext (by kernel_rfl) (by kernel_rfl) Ext.refl (fun _ _ _ => Ext.trans) (fun _ _ h he => ⟨h.1.ext he, h.2.1.ext he, h.2.2.trans he⟩) ⟨(by (repeat (with_reducible first | assumption | exact Blk.new' (by simp) | refine Blk.drew ?_ | refine Blk.alloc ?_ _ | exact Ext.refl _ | refine Ext.drew ?_ | refine Ext.alloc ?_ _))), (by (repeat (with_reducible first | assumption | exact Blk.new' (by simp) | refine Blk.drew ?_ | refine Blk.alloc ?_ _ | exact Ext.refl _ | refine Ext.drew ?_ | refine Ext.alloc ?_ _))), (by (repeat (with_reducible first | assumption | exact Blk.new' (by simp) | refine Blk.drew ?_ | refine Blk.alloc ?_ _ | exact Ext.refl _ | refine Ext.drew ?_ | refine Ext.alloc ?_ _)))⟩ ?_
  repeat
    first
      | (refine plan_quiet rfl rfl (fun _ _ _ _ h => h) ?_
         apply Exists.intro
         refine ⟨fun w' hw' => ?_, ?_⟩
         · obtain ⟨hH0, hH1, hH2⟩ := hw'
           unfold Blk at hH0 hH1
           simp [go_sem, quietTo, World.cell?, hH0, hH1, Ext.refl, ↓IntWalk.iteOmega, hg]
           first
             | rfl
             | (exact lowest_any n d _ hn hn' hd hd')
         simp only [Act.put, List.setIfInBounds_toArray, List.set_cons_succ, List.set_cons_zero])
      | (refine plan_skip rfl rfl (fun _ _ _ _ h => h) ?_
         simp only [Act.put, List.setIfInBounds_toArray, List.set_cons_succ, List.set_cons_zero])
  refine plan_nil fun wr her hwr => ?_
  clear her
  obtain ⟨hH0, hH1, hH2⟩ := hwr
  obtain ⟨hC0, hF0⟩ := hH0.walk
  obtain ⟨hC1, hF1⟩ := hH1.walk
  simp only [List.drop_succ_cons, List.drop_zero, List.drop_nil]
  go_wp2
  refine wp_region_planS [(0, true), (1, true), (2, true), (3, true), (4, true), (5, true)] 6 (fun w' => Blk w' w.heap.size 36 #[.int .i64 n, .int .i64 d] ∧ Blk w' (w.heap.size + 1) 27 #[.int .i64 0, .int .i64 0, .int .i64 0, .int .i64 0] ∧ Blk w' wr.heap.size 69 #[.int .i64 0, .int .i64 0, .int .i64 0, .int .i64 0] ∧ Ext w w') Ext (by kernel_rfl) (by kernel_rfl) Ext.refl (fun _ _ _ => Ext.trans) (fun _ _ h he => ⟨h.1.ext he, h.2.1.ext he, h.2.2.1.ext he, h.2.2.2.trans he⟩) ⟨(by (repeat (with_reducible first | assumption | exact Blk.new' (by simp) | refine Blk.drew ?_ | refine Blk.alloc ?_ _ | exact Ext.refl _ | refine Ext.drew ?_ | refine Ext.alloc ?_ _))), (by (repeat (with_reducible first | assumption | exact Blk.new' (by simp) | refine Blk.drew ?_ | refine Blk.alloc ?_ _ | exact Ext.refl _ | refine Ext.drew ?_ | refine Ext.alloc ?_ _))), (by (repeat (with_reducible first | assumption | exact Blk.new' (by simp) | refine Blk.drew ?_ | refine Blk.alloc ?_ _ | exact Ext.refl _ | refine Ext.drew ?_ | refine Ext.alloc ?_ _))), (by (repeat (with_reducible first | assumption | exact Blk.new' (by simp) | refine Blk.drew ?_ | refine Blk.alloc ?_ _ | exact Ext.refl _ | refine Ext.drew ?_ | refine Ext.alloc ?_ _)))⟩ ?_
  repeat
    first
      | (refine plan_quiet rfl rfl (fun _ _ _ _ h => h) ?_
         apply Exists.intro
         refine ⟨fun w' hw' => ?_, ?_⟩
         · obtain ⟨hH20, hH21, hH22, hH23⟩ := hw'
           unfold Blk at hH20 hH21 hH22
           simp [go_sem, quietTo, World.cell?, hH20, hH21, hH22, Ext.refl, ↓IntWalk.iteOmega]
           first
             | rfl
         simp only [Act.put, List.setIfInBounds_toArray, List.set_cons_succ, List.set_cons_zero])
      | (refine plan_skip rfl rfl (fun _ _ _ _ h => h) ?_
         simp only [Act.put, List.setIfInBounds_toArray, List.set_cons_succ, List.set_cons_zero])
  refine plan_nil fun wr2 her2 hwr2 => ?_
  clear her2
  obtain ⟨hH20, hH21, hH22, hH23⟩ := hwr2
  obtain ⟨hC20, hF20⟩ := hH20.walk
  obtain ⟨hC21, hF21⟩ := hH21.walk
  obtain ⟨hC22, hF22⟩ := hH22.walk
  simp only [List.drop_succ_cons, List.drop_zero, List.drop_nil]
  go_wp2_with (go_at_call 29; refine (primes_any _).mono ?_; rintro e w3 ⟨rfl, hb3⟩)
  have hR3 := hH21.ext hb3
  have hM3 : Blk w3 wr.heap.size 69 (mCells n d 0) := hH22.ext hb3
  have he3 := hH23.trans hb3
  have hlt := hH1.lt
  clear hC0 hC1 hF0 hF1 hC20 hC21 hC22 hF20 hF21 hF22 hH0 hH1 hH2 hH20 hH21 hH22 hH23 hb3
  generalize wr.heap.size = M at hM3 hlt ⊢
  have i0 : ∀ w, (Instr.index 69 (.agg #[.int .i64 2, .int .i64 3, .int .i64 5, .int .i64 7]) (.int .i64 0)).run Tryz.prog w = .ok (.int .i64 2) w := fun _ => by kernel_rfl
  have i1 : ∀ w, (Instr.index 69 (.agg #[.int .i64 2, .int .i64 3, .int .i64 5, .int .i64 7]) (.int .i64 1)).run Tryz.prog w = .ok (.int .i64 3) w := fun _ => by kernel_rfl
  have i2 : ∀ w, (Instr.index 69 (.agg #[.int .i64 2, .int .i64 3, .int .i64 5, .int .i64 7]) (.int .i64 2)).run Tryz.prog w = .ok (.int .i64 5) w := fun _ => by kernel_rfl
  have i3 : ∀ w, (Instr.index 69 (.agg #[.int .i64 2, .int .i64 3, .int .i64 5, .int .i64 7]) (.int .i64 3)).run Tryz.prog w = .ok (.int .i64 7) w := fun _ => by kernel_rfl
  go_loopw [5, 6, 35] (fun a b i w' => ∃ k : Nat, k ≤ 4 ∧ a = .int .i64 (numK n k) ∧ b = .int .i64 (numK d k) ∧ i = .int .i64 k ∧ Blk w' (w.heap.size + 1) 27 #[.int .i64 0, .int .i64 0, .int .i64 0, .int .i64 0] ∧ Blk w' M 69 (mCells n d k) ∧ Ext w w') (fun _ _ i _ => 4 - (intOf i).toNat)
  case atStart => exact ⟨0, by omega, rfl, rfl, rfl, hR3, hM3, he3⟩
  case round =>
    obtain ⟨k, hk, rfl, rfl, rfl, hR, hMk, he⟩ := hrel
    have hk' : k = 0 ∨ k = 1 ∨ k = 2 ∨ k = 3 ∨ k = 4 := by omega
    have bn := expK_lt hn hn' k
    have bd := expK_lt hd hd' k
    obtain ⟨c0, c1, c2, c3, cf⟩ := mCells_walk hMk
    rcases hk' with rfl | rfl | rfl | rfl | rfl
    case inr.inr.inr.inr =>
      clear i0 i1 i2 i3 bn bd
      have e0 : wr.cell? ⟨M, 0, none⟩ = some (.int .i64 (ofI n d).a) := c0
      have e1 : wr.cell? ⟨M, 1, none⟩ = some (.int .i64 (ofI n d).b) := c1
      have e2 : wr.cell? ⟨M, 2, none⟩ = some (.int .i64 (ofI n d).c) := c2
      have e3 : wr.cell? ⟨M, 3, none⟩ = some (.int .i64 (ofI n d).d) := c3
      have hM3 := hMk.lt
      have hR4 : w.heap.size < wr.heap.size := by have := hR.lt; omega
      obtain ⟨r1, r2⟩ := hR.walk
      clear c0 c1 c2 c3 hMk cf
      rcases (by omega : (numK n 4 = 1 ∧ numK d 4 = 1) ∨ numK n 4 ≠ 1 ∨ (numK n 4 = 1 ∧ numK d 4 ≠ 1)) with ⟨h1, h2⟩ | h1 | ⟨h1, h2⟩
      · have hOK : ofOK n d = true := by unfold ofOK; rw [h1, h2]; rfl
        have hr : ofR n d = okI (ofI n d) := by unfold ofR; rw [hg, hOK]; rfl
        have hE : ofE n d = faultI (ofI n d) := by unfold ofE; rw [hg, hOK]; rfl
        rw [h1, h2]
        clear hOK
        replace hr := Lib.hid hr
        replace hE := Lib.hid hE
        cases hB : rightB (ofI n d)
        · have hF : faultI (ofI n d) = 1 := by unfold faultI; rw [hB]; rfl
          have hK : okI (ofI n d) = zeroI := by unfold okI; rw [hB]; rfl
          replace hK := Lib.hid hK
          go_wp2_with (go_at_call 26; refine (checkInterval_any (ofI n d) _).mono ?_; rintro e w1 ⟨rfl, hb1⟩; have lt10 := (Blk.ext (Blk.alloc hR _) hb1).lt; obtain ⟨s10, f10⟩ := (Blk.ext (Blk.alloc hR _) hb1).walk; have lt11 := (Blk.ext (Blk.new' (w := wr) (t := 27) (cs := #[.int .i64 (ofI n d).a, .int .i64 (ofI n d).b, .int .i64 (ofI n d).c, .int .i64 (ofI n d).d]) rfl) hb1).lt; obtain ⟨s11, f11⟩ := (Blk.ext (Blk.new' (w := wr) (t := 27) (cs := #[.int .i64 (ofI n d).a, .int .i64 (ofI n d).b, .int .i64 (ofI n d).c, .int .i64 (ofI n d).d]) rfl) hb1).walk; have hz1 := hb1.size; (try simp only [World.size_alloc, World.size_setCell, World.size_drew] at hz1))
          go_light
          refine bodyPost_ret (v := .tuple #[.agg #[.int .i64 0, .int .i64 0, .int .i64 0, .int .i64 0], .int .i64 1]) (by simp [results, Tryz.results10, go_sem, *]) rfl ⟨?_, (by (repeat (with_reducible first | assumption | exact Ext.refl _ | refine Ext.drew ?_ | refine Ext.alloc ?_ _ | refine Ext.setCell ?_ (by simp <;> omega) _ | refine Ext.trans ?_ (by assumption))))⟩
          rw [hr.out, hE.out, hK.out, hF]
          rfl
        · have hF : faultI (ofI n d) = 0 := by unfold faultI; rw [hB]; rfl
          have hK : okI (ofI n d) = ofI n d := by unfold okI; rw [hB]; rfl
          replace hK := Lib.hid hK
          go_wp2_with (go_at_call 26; refine (checkInterval_any (ofI n d) _).mono ?_; rintro e w1 ⟨rfl, hb1⟩; have lt10 := (Blk.ext (Blk.alloc hR _) hb1).lt; obtain ⟨s10, f10⟩ := (Blk.ext (Blk.alloc hR _) hb1).walk; have lt11 := (Blk.ext (Blk.new' (w := wr) (t := 27) (cs := #[.int .i64 (ofI n d).a, .int .i64 (ofI n d).b, .int .i64 (ofI n d).c, .int .i64 (ofI n d).d]) rfl) hb1).lt; obtain ⟨s11, f11⟩ := (Blk.ext (Blk.new' (w := wr) (t := 27) (cs := #[.int .i64 (ofI n d).a, .int .i64 (ofI n d).b, .int .i64 (ofI n d).c, .int .i64 (ofI n d).d]) rfl) hb1).walk; have hz1 := hb1.size; (try simp only [World.size_alloc, World.size_setCell, World.size_drew] at hz1))
          go_light
          refine bodyPost_ret (v := .tuple #[.agg #[.int .i64 (ofI n d).a, .int .i64 (ofI n d).b, .int .i64 (ofI n d).c, .int .i64 (ofI n d).d], .int .i64 0]) (by simp [results, Tryz.results10, go_sem, *]) rfl ⟨?_, (by (repeat (with_reducible first | assumption | exact Ext.refl _ | refine Ext.drew ?_ | refine Ext.alloc ?_ _ | refine Ext.setCell ?_ (by simp <;> omega) _ | refine Ext.trans ?_ (by assumption))))⟩
          rw [hr.out, hE.out, hK.out, hF]
      · have hOK : ofOK n d = false := by unfold ofOK; rw [beq_eq_false_iff_ne.2 h1]; rfl
        have hr : ofR n d = zeroI := by unfold ofR; rw [hg, hOK]; rfl
        have hE : ofE n d = 16 := by unfold ofE; rw [hg, hOK]; rfl
        have h1' : ((numK n 4 : Int) != 1) = true := by simp; omega
        clear hOK h1
        replace hr := Lib.hid hr
        replace hE := Lib.hid hE
        go_wp2
        go_light
        refine bodyPost_ret (v := .tuple #[.agg #[.int .i64 0, .int .i64 0, .int .i64 0, .int .i64 0], .int .i64 16]) (by simp [results, Tryz.results10, go_sem, *]) rfl ⟨?_, (by (repeat (with_reducible first | assumption | exact Ext.refl _ | refine Ext.drew ?_ | refine Ext.alloc ?_ _ | refine Ext.setCell ?_ (by simp <;> omega) _ | refine Ext.trans ?_ (by assumption))))⟩
        rw [hr.out, hE.out]
        rfl
      · have hOK : ofOK n d = false := by unfold ofOK; rw [beq_eq_false_iff_ne.2 h2, Bool.and_false]
        have hr : ofR n d = zeroI := by unfold ofR; rw [hg, hOK]; rfl
        have hE : ofE n d = 16 := by unfold ofE; rw [hg, hOK]; rfl
        have h2' : ((numK d 4 : Int) != 1) = true := by simp; omega
        rw [h1]
        clear hOK h2 h1
        replace hr := Lib.hid hr
        replace hE := Lib.hid hE
        go_wp2
        go_light
        refine bodyPost_ret (v := .tuple #[.agg #[.int .i64 0, .int .i64 0, .int .i64 0, .int .i64 0], .int .i64 16]) (by simp [results, Tryz.results10, go_sem, *]) rfl ⟨?_, (by (repeat (with_reducible first | assumption | exact Ext.refl _ | refine Ext.drew ?_ | refine Ext.alloc ?_ _ | refine Ext.setCell ?_ (by simp <;> omega) _ | refine Ext.trans ?_ (by assumption))))⟩
        rw [hr.out, hE.out]
        rfl
    all_goals
      go_wp2_with (go_at_call 30; refine (timesK_any _ _ _ _ (by assumption) (by assumption) (by rfl)).mono ?_; rintro e w' ⟨rfl, rfl⟩)
      go_roundw
      case rel => exact ⟨_, by omega, rfl, rfl, by first | rfl | go_num, hR.far (by simp; omega) _, (hMk.set_ _ _).cast (mCells_set n d _ (by omega)), (by (repeat (with_reducible first | assumption | exact Ext.refl _ | refine Ext.drew ?_ | refine Ext.alloc ?_ _ | refine Ext.setCell ?_ (by simp <;> omega) _ | refine Ext.trans ?_ (by assumption))))⟩
      case measure => simp [intOf]

end Go.Proofs.YtebhjmknlhmmdaaGreatDoor
