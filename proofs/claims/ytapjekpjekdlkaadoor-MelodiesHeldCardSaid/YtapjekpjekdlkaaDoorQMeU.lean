/- Steps and a melody checked, by the document: MelodyFault. Conditions: they lie in memory. -/
import Derived.Test.YtapjekpjekdlkaaDoorQMeL
import Derived.Test.YtapjekpjekdlkaaDoorQMeR
set_option linter.unusedSimpArgs false
set_option linter.unusedVariables false
namespace Go.Proofs.YtapjekpjekdlkaaDoor
open Go Go.RowKit

theorem gap_of {m : List Int} {i : Nat} {a b : Int} (ha : m[i + 1]? = some a) (hb : m[i]? = some b) : gapAt m i = a - b := by
  unfold gapAt; rw [atL_of ha, atL_of hb]
set_option maxRecDepth 100000 in
set_option maxHeartbeats 6400000 in
theorem melodyFault_any {p : Option Addr} {n c : Nat} {X : List StepV} {w : World} (h : StpM w p n c X) {np : Option Addr} {nn nc : Nat} {m : List Int} (hm : Slc 1 intC w np nn nc m) :
    Calls Tryd.prog 7 #[.slice p n c, .slice np nn nc] w fun e w' => e = .returned (.int .i64 (melF X m)) ∧ Ext w w' := by
  have hF : melF X m = if stepsF X ≠ 0 then stepsF X else if m.length = 0 then 8 else if 400 < m.length then 2 else if (∃ n ∈ m, outB n 0 127 = true) then 1 else scanF (m.length - 1) (kindF X m) := rfl
  have hchk := stepsFault_any h
  obtain ⟨hml, -⟩ := slcC hm
  subst hml
  by_cases hs : stepsF X ≠ 0
  · rw [if_pos hs] at hF
    have hs' : ¬ stepsF X = 0 := hs
    replace hF := Lib.hid hF
    replace hchk := Lib.hid hchk
    go_enter Tryd.func7, Tryd.ntmps7
    go_wp2_with (go_at_call 24; (with_reducible refine Calls.mono hchk.out ?_); rintro e w1 ⟨rfl, hb1⟩)
    go_ret
    exact ⟨ret_int hF.out.symm, hb1⟩
  have hs0 : stepsF X = 0 := by omega
  rw [if_neg hs] at hF
  rw [hs0] at hchk
  replace hchk := Lib.hid hchk
  by_cases h0 : m.length = 0
  · rw [if_pos h0] at hF
    replace hF := Lib.hid hF
    go_enter Tryd.func7, Tryd.ntmps7
    go_wp2_with (go_at_call 24; (with_reducible refine Calls.mono hchk.out ?_); rintro e w1 ⟨rfl, hb1⟩)
    go_ret
    exact ⟨ret_int hF.out.symm, hb1⟩
  rw [if_neg h0] at hF
  by_cases h4 : 400 < m.length
  · rw [if_pos h4] at hF
    replace hF := Lib.hid hF
    have h4I : (400 : Int) < m.length := by omega
    go_enter Tryd.func7, Tryd.ntmps7
    go_wp2_with (go_at_call 24; (with_reducible refine Calls.mono hchk.out ?_); rintro e w1 ⟨rfl, hb1⟩)
    go_ret
    exact ⟨ret_int hF.out.symm, hb1⟩
  rw [if_neg h4] at hF
  have h4I : ¬ (400 : Int) < m.length := by omega
  obtain ⟨-, ⟨-, e⟩ | ⟨nb, noff, rfl, hnb, hEl⟩⟩ := slcC hm
  · rw [e] at h0; exact absurd rfl h0
  have hXn := h.len
  have hcs : ∀ u, Ext w u → ∀ z, Calls Tryd.prog 26 #[.slice p n c, .int .i64 z] u (ChoP u X z) := fun u hu z => choicesOf_any (h.ext hu) z
  replace hF := Lib.hid hF
  replace hcs := Lib.hid hcs
  clear hs
  go_enter Tryd.func7, Tryd.ntmps7
  go_wp2_with (go_at_call 24; (with_reducible refine Calls.mono hchk.out ?_); rintro e w1 ⟨rfl, hb1⟩)
  generalize w1 = W1 at *
  clear hchk
  rw [show (((m.length : Nat) : Int) == 0) = false from beq_false_of_ne (by omega)]
  go_loopw [25] (fun i wr => ∃ k : Nat, k ≤ m.length ∧ i = .int .i64 k ∧ (∀ x ∈ m.take k, outB x 0 127 = false) ∧ Ext w wr) (fun i _ => m.length - (intOf i).toNat)
  case atStart => exact ⟨0, Nat.zero_le _, rfl, (fun x hx => by simp at hx), hb1⟩
  case round =>
    clear hb1
    obtain ⟨k, hk, rfl, hz, hE⟩ := hrel
    by_cases hlt : k < m.length
    · obtain ⟨x, hx⟩ := getD_some (rfl : m.length = m.length) hlt
      have c1 := (hEl.ext hE hnb) k x hx 0 _ rfl
      simp only [Nat.mul_one, Nat.add_zero] at c1
      have lq := Nat.lt_of_lt_of_le hnb hE.size
      have hkI : (k : Int) < m.length := by omega
      have hxm := List.mem_of_getElem? hx
      have htk := take_snocI hx
      have hsp := fun u => spanFault_any x 0 127 u
      have hsv : spanF x 0 127 = if outB x 0 127 then 1 else 0 := by unfold spanF; rw [outB_inB]; cases inB x 0 127 <;> rfl
      rw [hsv] at hsp
      replace hz := Lib.hid hz
      replace htk := Lib.hid htk
      clear hsv hx
      cases ho : outB x 0 127
      · simp only [ho, Bool.false_eq_true, if_false] at hsp
        replace hsp := Lib.hid hsp
        replace ho := Lib.hid ho
        go_wp2_with (go_at_call 25; (with_reducible refine Calls.mono (hsp.out _) ?_); rintro e w1 ⟨rfl, rfl⟩)
        go_roundw
        case rel =>
          refine ⟨k + 1, by omega, by go_num, fun y hy => ?_, hE⟩
          rw [htk.out, List.mem_append, List.mem_singleton] at hy
          rcases hy with hy | rfl
          · exact hz.out y hy
          · exact ho.out
        case measure => simp [intOf]; omega
      · simp only [ho, if_true] at hsp
        replace hsp := Lib.hid hsp
        have hF1 := hF.out
        rw [if_pos ⟨x, hxm, ho⟩] at hF1
        replace hF1 := Lib.hid hF1
        replace ho := Lib.hid ho
        go_wp2_with (go_at_call 25; (with_reducible refine Calls.mono (hsp.out _) ?_); rintro e w1 ⟨rfl, rfl⟩)
        go_ret
        exact ⟨ret_int hF1.out.symm, hE⟩
    · obtain rfl : k = m.length := by omega
      rw [List.take_length] at hz
      have ha : ¬ ∃ n ∈ m, outB n 0 127 = true := fun ⟨y, hy, e⟩ => by rw [hz y hy] at e; cases e
      have hF1 := hF.out
      rw [if_neg ha] at hF1
      have hr : ∀ x ∈ m, 0 ≤ x ∧ x ≤ 127 := fun x hx => by
        have h1 := hz x hx
        unfold outB at h1
        simp at h1
        omega
      replace hF1 := Lib.hid hF1
      replace hr := Lib.hid hr
      clear ha hz hF
      go_wp2
      generalize wr = W2 at *
      go_loopw [9] (fun v9 wr => ∃ i : Nat, i + 1 ≤ m.length ∧ v9 = .int .i64 ((i : Int) + 1) ∧ Zeros (kindF X m) i ∧ Ext w wr) (fun v9 _ => m.length - (intOf v9).toNat)
      case atStart => exact ⟨0, by omega, by simp, (fun j hj => by omega), hE⟩
      case round =>
        clear hE
        obtain ⟨i, hi, rfl, hz, hE⟩ := hrel
        by_cases hlt : i + 1 < m.length
        · obtain ⟨a, ha⟩ := getD_some (rfl : m.length = m.length) hlt
          obtain ⟨b, hb⟩ := getD_some (rfl : m.length = m.length) (show i < m.length by omega)
          have hga := gap_of ha hb
          have ca := (hEl.ext hE hnb) (i + 1) a ha 0 _ rfl
          have cb := (hEl.ext hE hnb) i b hb 0 _ rfl
          simp only [Nat.mul_one, Nat.add_zero] at ca cb
          have ra := hr.out a (List.mem_of_getElem? ha)
          have rb := hr.out b (List.mem_of_getElem? hb)
          have lq := Nat.lt_of_lt_of_le hnb hE.size
          have hiI : (i : Int) + 1 < m.length := by omega
          have hiI2 : (i : Int) < m.length := by omega
          replace hz := Lib.hid hz
          have hcw : ∀ u, Ext wr u → Calls Tryd.prog 26 #[.slice p n c, .int .i64 (a - b)] u (ChoP u X (a - b)) := fun u hu => hcs.out u (hE.trans hu) (a - b)
          clear ha hb
          have hnl : ∀ (u : World) (a : Option Addr) (n c : Nat), (binOp .eql 35 (.slice a n c) (.slice none 0 0)).run Tryd.prog u = .ok (.bool a.isNone) u := fun u a n c => Lib.run_eql_slice_nil (a := a) (n := n) (c := c) (n' := 0) (c' := 0) (h := Tryd.underlying35) (e := _) (w := u)
          go_upto_region 18 with fail
          cases hfd : findX X (a - b) with
          | none =>
            have hch : ∀ u, Ext wr u → Calls Tryd.prog 26 #[.slice p n c, .int .i64 (a - b)] u fun e w' => e = .returned (.slice none 0 0) ∧ Ext u w' := fun u hu => (hcw u hu).mono fun e w' ⟨h1, h2⟩ => by
              rcases h2 with ⟨-, h2⟩ | ⟨x, q, d, h2, -⟩
              · exact ⟨h2, h1⟩
              · rw [hfd] at h2; cases h2
            have hk0 := kind_none (by rw [hga]; exact hfd)
            replace hch := Lib.hid hch
            replace hk0 := Lib.hid hk0
            clear hcw hfd hga
            refine wp_region_facts [] [([], false, false), ([], false, false), ([], false, false), ([1, 2], false, false), ([1, 2, 3], false, false), ([], false, false), ([], false, false), ([6], false, false), ([5, 6, 7], false, false), ([5, 6, 7, 8], false, false), ([1, 2, 3, 4, 5, 6, 7, 8, 9], false, false), ([0, 1, 2, 3, 4, 5, 6, 7, 8, 9, 10], false, false), ([0, 1, 2, 3, 4, 5, 6, 7, 8, 9, 10, 11], false, false)] (Ext) Ext (fun _ => True) (by kernel_rfl) (by kernel_rfl) Ext.refl (fun _ _ _ => Ext.trans) (fun _ _ h => h) (fun _ _ h => h.size) (fun _ _ h _ => h) trivial ?_
            dsimp only [List.length_cons, List.length_nil, List.drop_succ_cons, List.drop_zero, List.drop_nil]
            refine fac_quiet 0 rfl rfl rfl (fun _ _ h _ => h) rfl rfl ?_
            apply Exists.intro
            refine ⟨fun sv w' hw' hfa => ?_, ?_⟩
            · refine ⟨rfl, ?_⟩
              simp only [putsL]
              change quietTo _ _ _ _ (Sem.run _ (execOp (Act.eval _) _) _)
              try simp only [Act.put, List.setIfInBounds_toArray, List.set_cons_succ, List.set_cons_zero]
              simp [go_sem, quietTo, Ext.refl]
              all_goals first
                | rfl
            refine fac_quiet 1 rfl rfl rfl (fun _ _ h _ => h) rfl rfl ?_
            apply Exists.intro
            refine ⟨fun sv w' hw' hfa => ?_, ?_⟩
            · refine ⟨rfl, ?_⟩
              simp only [putsL]
              change quietTo _ _ _ _ (Sem.run _ (execOp (Act.eval _) _) _)
              try simp only [Act.put, List.setIfInBounds_toArray, List.set_cons_succ, List.set_cons_zero]
              simp [go_sem, quietTo, Ext.refl]
              all_goals first
                | rfl
            refine fac_quiet 2 rfl rfl rfl (fun _ _ h _ => h) rfl rfl ?_
            apply Exists.intro
            refine ⟨fun sv w' hw' hfa => ?_, ?_⟩
            · refine ⟨rfl, ?_⟩
              simp only [putsL]
              change quietTo _ _ _ _ (Sem.run _ (execOp (Act.eval _) _) _)
              try simp only [Act.put, List.setIfInBounds_toArray, List.set_cons_succ, List.set_cons_zero]
              simp [go_sem, quietTo, Ext.refl]
              all_goals first
                | rfl
            refine fac_quiet 3 rfl rfl rfl (fun _ _ h _ => h) rfl rfl ?_
            apply Exists.intro
            refine ⟨fun sv w' hw' hfa => ?_, ?_⟩
            · obtain ⟨f1, f2, -⟩ := hfa
              replace f1 : sv 1 = _ := f1
              try dsimp only at f1
              replace f2 : sv 2 = _ := f2
              try dsimp only at f2
              have hk9 := (Ext.refl wr).drew.trans hw'; have z1 := (hk9.walk.1 _ _ lq).trans ca; have z2 := (hk9.walk.1 _ _ lq).trans cb
              refine ⟨rfl, ?_⟩
              simp only [putsL]
              change quietTo _ _ _ _ (Sem.run _ (execOp (Act.eval (Act.put (Act.put _ (some 43) (sv 2)) (some 42) (sv 1))) _) _)
              try simp only [Act.put, List.setIfInBounds_toArray, List.set_cons_succ, List.set_cons_zero]
              simp [go_sem, quietTo, Ext.refl, ↓IntWalk.iteOmega, f1, f2, hiI]
              all_goals try simp (disch := omega) only [IntWalk.i64_in]
              all_goals first
                | rfl
            refine fac_quiet 4 rfl rfl rfl (fun _ _ h _ => h) rfl rfl ?_
            apply Exists.intro
            refine ⟨fun sv w' hw' hfa => ?_, ?_⟩
            · obtain ⟨_, _, f3, -⟩ := hfa
              replace f3 : sv 3 = _ := f3
              try dsimp only at f3
              have hk9 := (Ext.refl wr).drew.trans hw'; have z1 := (hk9.walk.1 _ _ lq).trans ca; have z2 := (hk9.walk.1 _ _ lq).trans cb
              refine ⟨rfl, ?_⟩
              simp only [putsL]
              change quietTo _ _ _ _ (Sem.run _ (execOp (Act.eval (Act.put (Act.put (Act.put _ (some 44) (sv 3)) (some 43) (sv 2)) (some 42) (sv 1))) _) _)
              try simp only [Act.put, List.setIfInBounds_toArray, List.set_cons_succ, List.set_cons_zero]
              simp [go_sem, quietTo, Ext.refl, ↓IntWalk.iteOmega, f3, z1]
              all_goals try simp (disch := omega) only [IntWalk.i64_in]
              all_goals first
                | rfl
            refine fac_quiet 5 rfl rfl rfl (fun _ _ h _ => h) rfl rfl ?_
            apply Exists.intro
            refine ⟨fun sv w' hw' hfa => ?_, ?_⟩
            · refine ⟨rfl, ?_⟩
              simp only [putsL]
              change quietTo _ _ _ _ (Sem.run _ (execOp (Act.eval _) _) _)
              try simp only [Act.put, List.setIfInBounds_toArray, List.set_cons_succ, List.set_cons_zero]
              simp [go_sem, quietTo, Ext.refl]
              all_goals first
                | rfl
            refine fac_quiet 6 rfl rfl rfl (fun _ _ h _ => h) rfl rfl ?_
            apply Exists.intro
            refine ⟨fun sv w' hw' hfa => ?_, ?_⟩
            · refine ⟨rfl, ?_⟩
              simp only [putsL]
              change quietTo _ _ _ _ (Sem.run _ (execOp (Act.eval _) _) _)
              try simp only [Act.put, List.setIfInBounds_toArray, List.set_cons_succ, List.set_cons_zero]
              simp [go_sem, quietTo, Ext.refl]
              all_goals first
                | rfl
            refine fac_quiet 7 rfl rfl rfl (fun _ _ h _ => h) rfl rfl ?_
            apply Exists.intro
            refine ⟨fun sv w' hw' hfa => ?_, ?_⟩
            · obtain ⟨f6, -⟩ := hfa
              replace f6 : sv 6 = _ := f6
              try dsimp only at f6
              refine ⟨rfl, ?_⟩
              simp only [putsL]
              change quietTo _ _ _ _ (Sem.run _ (execOp (Act.eval (Act.put _ (some 47) (sv 6))) _) _)
              try simp only [Act.put, List.setIfInBounds_toArray, List.set_cons_succ, List.set_cons_zero]
              simp [go_sem, quietTo, Ext.refl, ↓IntWalk.iteOmega, f6]
              all_goals try simp (disch := omega) only [IntWalk.i64_in]
              all_goals first
                | rfl
            refine fac_quiet 8 rfl rfl rfl (fun _ _ h _ => h) rfl rfl ?_
            apply Exists.intro
            refine ⟨fun sv w' hw' hfa => ?_, ?_⟩
            · obtain ⟨f5, _, f7, -⟩ := hfa
              replace f5 : sv 5 = _ := f5
              try dsimp only at f5
              replace f7 : sv 7 = _ := f7
              try dsimp only at f7
              have hk9 := (Ext.refl wr).drew.trans hw'; have z1 := (hk9.walk.1 _ _ lq).trans ca; have z2 := (hk9.walk.1 _ _ lq).trans cb
              refine ⟨rfl, ?_⟩
              simp only [putsL]
              change quietTo _ _ _ _ (Sem.run _ (execOp (Act.eval (Act.put (Act.put (Act.put _ (some 48) (sv 7)) (some 47) (sv 6)) (some 46) (sv 5))) _) _)
              try simp only [Act.put, List.setIfInBounds_toArray, List.set_cons_succ, List.set_cons_zero]
              simp [go_sem, quietTo, Ext.refl, ↓IntWalk.iteOmega, f5, f7, hiI2]
              all_goals try simp (disch := omega) only [IntWalk.i64_in]
              all_goals first
                | rfl
            refine fac_quiet 9 rfl rfl rfl (fun _ _ h _ => h) rfl rfl ?_
            apply Exists.intro
            refine ⟨fun sv w' hw' hfa => ?_, ?_⟩
            · obtain ⟨_, _, _, f8, -⟩ := hfa
              replace f8 : sv 8 = _ := f8
              try dsimp only at f8
              have hk9 := (Ext.refl wr).drew.trans hw'; have z1 := (hk9.walk.1 _ _ lq).trans ca; have z2 := (hk9.walk.1 _ _ lq).trans cb
              refine ⟨rfl, ?_⟩
              simp only [putsL]
              change quietTo _ _ _ _ (Sem.run _ (execOp (Act.eval (Act.put (Act.put (Act.put (Act.put _ (some 49) (sv 8)) (some 48) (sv 7)) (some 47) (sv 6)) (some 46) (sv 5))) _) _)
              try simp only [Act.put, List.setIfInBounds_toArray, List.set_cons_succ, List.set_cons_zero]
              simp [go_sem, quietTo, Ext.refl, ↓IntWalk.iteOmega, f8, z2]
              all_goals try simp (disch := omega) only [IntWalk.i64_in]
              all_goals first
                | rfl
            refine fac_quiet 10 rfl rfl rfl (fun _ _ h _ => h) rfl rfl ?_
            apply Exists.intro
            refine ⟨fun sv w' hw' hfa => ?_, ?_⟩
            · obtain ⟨_, _, _, f4, _, _, _, _, f9, -⟩ := hfa
              replace f4 : sv 4 = _ := f4
              try dsimp only at f4
              replace f9 : sv 9 = _ := f9
              try dsimp only at f9
              refine ⟨rfl, ?_⟩
              simp only [putsL]
              change quietTo _ _ _ _ (Sem.run _ (execOp (Act.eval (Act.put (Act.put (Act.put (Act.put (Act.put (Act.put (Act.put (Act.put (Act.put _ (some 50) (sv 9)) (some 49) (sv 8)) (some 48) (sv 7)) (some 47) (sv 6)) (some 46) (sv 5)) (some 45) (sv 4)) (some 44) (sv 3)) (some 43) (sv 2)) (some 42) (sv 1))) _) _)
              try simp only [Act.put, List.setIfInBounds_toArray, List.set_cons_succ, List.set_cons_zero]
              simp [go_sem, quietTo, Ext.refl, ↓IntWalk.iteOmega, f4, f9]
              all_goals try simp (disch := omega) only [IntWalk.i64_in]
              all_goals first
                | rfl
            refine fac_quiet 11 rfl rfl rfl (fun _ _ h _ => h) rfl rfl ?_
            apply Exists.intro
            refine ⟨fun sv w' hw' hfa => ?_, ?_⟩
            · obtain ⟨f0, f1, f2, f3, f4, f5, f6, f7, f8, f9, f10, -⟩ := hfa
              replace f0 : sv 0 = _ := f0
              try dsimp only at f0
              replace f1 : sv 1 = _ := f1
              try dsimp only at f1
              replace f2 : sv 2 = _ := f2
              try dsimp only at f2
              replace f3 : sv 3 = _ := f3
              try dsimp only at f3
              replace f4 : sv 4 = _ := f4
              try dsimp only at f4
              replace f5 : sv 5 = _ := f5
              try dsimp only at f5
              replace f6 : sv 6 = _ := f6
              try dsimp only at f6
              replace f7 : sv 7 = _ := f7
              try dsimp only at f7
              replace f8 : sv 8 = _ := f8
              try dsimp only at f8
              replace f9 : sv 9 = _ := f9
              try dsimp only at f9
              replace f10 : sv 10 = _ := f10
              try dsimp only at f10
              have hk9 := (Ext.refl wr).drew.trans hw'; have z1 := (hk9.walk.1 _ _ lq).trans ca; have z2 := (hk9.walk.1 _ _ lq).trans cb
              refine ⟨rfl, ?_⟩
              simp only [putsL]
              change quietTo _ _ _ _ (Sem.run _ (execOp (Act.eval (Act.put (Act.put (Act.put (Act.put (Act.put (Act.put (Act.put (Act.put (Act.put (Act.put (Act.put _ (some 51) (sv 10)) (some 50) (sv 9)) (some 49) (sv 8)) (some 48) (sv 7)) (some 47) (sv 6)) (some 46) (sv 5)) (some 45) (sv 4)) (some 44) (sv 3)) (some 43) (sv 2)) (some 42) (sv 1)) (some 41) (sv 0))) _) _)
              try simp only [Act.put, List.setIfInBounds_toArray, List.set_cons_succ, List.set_cons_zero]
              simp [go_sem, quietTo, Ext.refl, ↓IntWalk.iteOmega, f0, f10]
              all_goals try simp (disch := omega) only [IntWalk.i64_in]
              all_goals first
                | rfl
                | (exact hch.out _ hk9)
            refine fac_quiet 12 rfl rfl rfl (fun _ _ h _ => h) rfl rfl ?_
            apply Exists.intro
            refine ⟨fun sv w' hw' hfa => ?_, ?_⟩
            · obtain ⟨_, _, _, _, _, _, _, _, _, _, _, f11, -⟩ := hfa
              replace f11 : sv 11 = _ := f11
              try dsimp only at f11
              have hk9 := (Ext.refl wr).drew.trans hw'; have z1 := (hk9.walk.1 _ _ lq).trans ca; have z2 := (hk9.walk.1 _ _ lq).trans cb
              refine ⟨rfl, ?_⟩
              simp only [putsL]
              change quietTo _ _ _ _ (Sem.run _ (execOp (Act.eval (Act.put (Act.put (Act.put (Act.put (Act.put (Act.put (Act.put (Act.put (Act.put (Act.put (Act.put (Act.put _ (some 52) (sv 11)) (some 51) (sv 10)) (some 50) (sv 9)) (some 49) (sv 8)) (some 48) (sv 7)) (some 47) (sv 6)) (some 46) (sv 5)) (some 45) (sv 4)) (some 44) (sv 3)) (some 43) (sv 2)) (some 42) (sv 1)) (some 41) (sv 0))) _) _)
              try simp only [Act.put, List.setIfInBounds_toArray, List.set_cons_succ, List.set_cons_zero]
              simp [go_sem, quietTo, Ext.refl, ↓IntWalk.iteOmega, f11, hnl]
              all_goals try simp (disch := omega) only [IntWalk.i64_in]
              all_goals first
                | rfl
            refine fac_nil fun xa wra hera hfra hcra holda hapa => ?_
            obtain ⟨f0, f1, f2, f3, f4, f5, f6, f7, f8, f9, f10, f11, f12, -⟩ := hfra
            replace f0 : xa 0 = _ := f0
            try dsimp only at f0
            replace f1 : xa 1 = _ := f1
            try dsimp only at f1
            replace f2 : xa 2 = _ := f2
            try dsimp only at f2
            replace f3 : xa 3 = _ := f3
            try dsimp only at f3
            replace f4 : xa 4 = _ := f4
            try dsimp only at f4
            replace f5 : xa 5 = _ := f5
            try dsimp only at f5
            replace f6 : xa 6 = _ := f6
            try dsimp only at f6
            replace f7 : xa 7 = _ := f7
            try dsimp only at f7
            replace f8 : xa 8 = _ := f8
            try dsimp only at f8
            replace f9 : xa 9 = _ := f9
            try dsimp only at f9
            replace f10 : xa 10 = _ := f10
            try dsimp only at f10
            replace f11 : xa 11 = _ := f11
            try dsimp only at f11
            replace f12 : xa 12 = _ := f12
            try dsimp only at f12
            change wpList _ _ _ _ (Act.put (Act.put (Act.put (Act.put (Act.put (Act.put (Act.put (Act.put (Act.put (Act.put (Act.put (Act.put (Act.put _ (some 41) (xa 0)) (some 42) (xa 1)) (some 43) (xa 2)) (some 44) (xa 3)) (some 45) (xa 4)) (some 46) (xa 5)) (some 47) (xa 6)) (some 48) (xa 7)) (some 49) (xa 8)) (some 50) (xa 9)) (some 51) (xa 10)) (some 52) (xa 11)) (some 53) (xa 12)) _
            simp only [putsL, Nat.reduceAdd, List.drop_succ_cons, List.drop_zero, List.drop_nil, Act.put, List.setIfInBounds_toArray, List.set_cons_succ, List.set_cons_zero]
            try simp only [f0, f1, f2, f3, f4, f5, f6, f7, f8, f9, f10, f11, f12]
            clear f0 f1 f2 f3 f4 f5 f6 f7 f8 f9 f10 f11 f12
            clear holda hapa
            have hEa := hE.trans ((Ext.refl wr).drew.trans hera)
            go_wp2
            go_ret
            exact ⟨ret_int ((scan_is hz.out (show i < m.length - 1 by omega) hk0.out (by decide)).trans hF1.out.symm), hEa⟩
          | some x =>
            have hxl : ∃ k : Nat, X[k]? = some x := by
              have := List.mem_of_find?_eq_some hfd
              exact List.mem_iff_getElem?.1 this
            have hx0 : x.cs.length ≠ 0 := by
              obtain ⟨k, hk⟩ := hxl
              have hkl := (List.getElem?_eq_some_iff.1 hk).1
              have h1 : stepsF X = if 25 < X.length then 2 else scanF X.length (stepF X) := rfl
              rw [hs0] at h1
              intro h0
              have h2 : stepF X k = 0 := by
                split at h1
                · cases h1
                · exact scan_all h1.symm hkl
              have h3 : choicesF x.cs = 8 := by unfold choicesF; rw [if_pos h0]
              unfold stepF at h2
              rw [choicesAt_of hk, h3] at h2
              split at h2
              · cases h2
              · split at h2 <;> cases h2
            have hch : ∀ u, Ext wr u → Calls Tryd.prog 26 #[.slice p n c, .int .i64 (a - b)] u fun e w' => ∃ b' o' n' d' : Nat, e = .returned (.slice (some ⟨b', o', none⟩) n' d') ∧ Ext u w' := fun u hu => (hcw u hu).mono fun e w' ⟨h1, h2⟩ => by
              rcases h2 with ⟨h2, -⟩ | ⟨y, q, d, h2, hS, h3⟩
              · rw [hfd] at h2; cases h2
              · rw [hfd] at h2
                cases h2
                rcases (slcC hS).2 with ⟨-, e⟩ | ⟨bq, oq, rfl, hbq, hEq⟩
                · rw [e] at hx0; exact absurd rfl hx0
                · exact ⟨bq, oq, _, d, h3, h1⟩
            have hk0 := kind_some (by rw [hga]; exact hfd)
            replace hch := Lib.hid hch
            replace hk0 := Lib.hid hk0
            clear hcw hfd hga hx0 hxl
            refine wp_region_facts [] [([], false, false), ([], false, false), ([], false, false), ([1, 2], false, false), ([1, 2, 3], false, false), ([], false, false), ([], false, false), ([6], false, false), ([5, 6, 7], false, false), ([5, 6, 7, 8], false, false), ([1, 2, 3, 4, 5, 6, 7, 8, 9], false, false), ([0, 1, 2, 3, 4, 5, 6, 7, 8, 9, 10], false, false), ([0, 1, 2, 3, 4, 5, 6, 7, 8, 9, 10, 11], false, false)] (Ext) Ext (fun _ => True) (by kernel_rfl) (by kernel_rfl) Ext.refl (fun _ _ _ => Ext.trans) (fun _ _ h => h) (fun _ _ h => h.size) (fun _ _ h _ => h) trivial ?_
            dsimp only [List.length_cons, List.length_nil, List.drop_succ_cons, List.drop_zero, List.drop_nil]
            refine fac_quiet 0 rfl rfl rfl (fun _ _ h _ => h) rfl rfl ?_
            apply Exists.intro
            refine ⟨fun sv w' hw' hfa => ?_, ?_⟩
            · refine ⟨rfl, ?_⟩
              simp only [putsL]
              change quietTo _ _ _ _ (Sem.run _ (execOp (Act.eval _) _) _)
              try simp only [Act.put, List.setIfInBounds_toArray, List.set_cons_succ, List.set_cons_zero]
              simp [go_sem, quietTo, Ext.refl]
              all_goals first
                | rfl
            refine fac_quiet 1 rfl rfl rfl (fun _ _ h _ => h) rfl rfl ?_
            apply Exists.intro
            refine ⟨fun sv w' hw' hfa => ?_, ?_⟩
            · refine ⟨rfl, ?_⟩
              simp only [putsL]
              change quietTo _ _ _ _ (Sem.run _ (execOp (Act.eval _) _) _)
              try simp only [Act.put, List.setIfInBounds_toArray, List.set_cons_succ, List.set_cons_zero]
              simp [go_sem, quietTo, Ext.refl]
              all_goals first
                | rfl
            refine fac_quiet 2 rfl rfl rfl (fun _ _ h _ => h) rfl rfl ?_
            apply Exists.intro
            refine ⟨fun sv w' hw' hfa => ?_, ?_⟩
            · refine ⟨rfl, ?_⟩
              simp only [putsL]
              change quietTo _ _ _ _ (Sem.run _ (execOp (Act.eval _) _) _)
              try simp only [Act.put, List.setIfInBounds_toArray, List.set_cons_succ, List.set_cons_zero]
              simp [go_sem, quietTo, Ext.refl]
              all_goals first
                | rfl
            refine fac_quiet 3 rfl rfl rfl (fun _ _ h _ => h) rfl rfl ?_
            apply Exists.intro
            refine ⟨fun sv w' hw' hfa => ?_, ?_⟩
            · obtain ⟨f1, f2, -⟩ := hfa
              replace f1 : sv 1 = _ := f1
              try dsimp only at f1
              replace f2 : sv 2 = _ := f2
              try dsimp only at f2
              have hk9 := (Ext.refl wr).drew.trans hw'; have z1 := (hk9.walk.1 _ _ lq).trans ca; have z2 := (hk9.walk.1 _ _ lq).trans cb
              refine ⟨rfl, ?_⟩
              simp only [putsL]
              change quietTo _ _ _ _ (Sem.run _ (execOp (Act.eval (Act.put (Act.put _ (some 43) (sv 2)) (some 42) (sv 1))) _) _)
              try simp only [Act.put, List.setIfInBounds_toArray, List.set_cons_succ, List.set_cons_zero]
              simp [go_sem, quietTo, Ext.refl, ↓IntWalk.iteOmega, f1, f2, hiI]
              all_goals try simp (disch := omega) only [IntWalk.i64_in]
              all_goals first
                | rfl
            refine fac_quiet 4 rfl rfl rfl (fun _ _ h _ => h) rfl rfl ?_
            apply Exists.intro
            refine ⟨fun sv w' hw' hfa => ?_, ?_⟩
            · obtain ⟨_, _, f3, -⟩ := hfa
              replace f3 : sv 3 = _ := f3
              try dsimp only at f3
              have hk9 := (Ext.refl wr).drew.trans hw'; have z1 := (hk9.walk.1 _ _ lq).trans ca; have z2 := (hk9.walk.1 _ _ lq).trans cb
              refine ⟨rfl, ?_⟩
              simp only [putsL]
              change quietTo _ _ _ _ (Sem.run _ (execOp (Act.eval (Act.put (Act.put (Act.put _ (some 44) (sv 3)) (some 43) (sv 2)) (some 42) (sv 1))) _) _)
              try simp only [Act.put, List.setIfInBounds_toArray, List.set_cons_succ, List.set_cons_zero]
              simp [go_sem, quietTo, Ext.refl, ↓IntWalk.iteOmega, f3, z1]
              all_goals try simp (disch := omega) only [IntWalk.i64_in]
              all_goals first
                | rfl
            refine fac_quiet 5 rfl rfl rfl (fun _ _ h _ => h) rfl rfl ?_
            apply Exists.intro
            refine ⟨fun sv w' hw' hfa => ?_, ?_⟩
            · refine ⟨rfl, ?_⟩
              simp only [putsL]
              change quietTo _ _ _ _ (Sem.run _ (execOp (Act.eval _) _) _)
              try simp only [Act.put, List.setIfInBounds_toArray, List.set_cons_succ, List.set_cons_zero]
              simp [go_sem, quietTo, Ext.refl]
              all_goals first
                | rfl
            refine fac_quiet 6 rfl rfl rfl (fun _ _ h _ => h) rfl rfl ?_
            apply Exists.intro
            refine ⟨fun sv w' hw' hfa => ?_, ?_⟩
            · refine ⟨rfl, ?_⟩
              simp only [putsL]
              change quietTo _ _ _ _ (Sem.run _ (execOp (Act.eval _) _) _)
              try simp only [Act.put, List.setIfInBounds_toArray, List.set_cons_succ, List.set_cons_zero]
              simp [go_sem, quietTo, Ext.refl]
              all_goals first
                | rfl
            refine fac_quiet 7 rfl rfl rfl (fun _ _ h _ => h) rfl rfl ?_
            apply Exists.intro
            refine ⟨fun sv w' hw' hfa => ?_, ?_⟩
            · obtain ⟨f6, -⟩ := hfa
              replace f6 : sv 6 = _ := f6
              try dsimp only at f6
              refine ⟨rfl, ?_⟩
              simp only [putsL]
              change quietTo _ _ _ _ (Sem.run _ (execOp (Act.eval (Act.put _ (some 47) (sv 6))) _) _)
              try simp only [Act.put, List.setIfInBounds_toArray, List.set_cons_succ, List.set_cons_zero]
              simp [go_sem, quietTo, Ext.refl, ↓IntWalk.iteOmega, f6]
              all_goals try simp (disch := omega) only [IntWalk.i64_in]
              all_goals first
                | rfl
            refine fac_quiet 8 rfl rfl rfl (fun _ _ h _ => h) rfl rfl ?_
            apply Exists.intro
            refine ⟨fun sv w' hw' hfa => ?_, ?_⟩
            · obtain ⟨f5, _, f7, -⟩ := hfa
              replace f5 : sv 5 = _ := f5
              try dsimp only at f5
              replace f7 : sv 7 = _ := f7
              try dsimp only at f7
              have hk9 := (Ext.refl wr).drew.trans hw'; have z1 := (hk9.walk.1 _ _ lq).trans ca; have z2 := (hk9.walk.1 _ _ lq).trans cb
              refine ⟨rfl, ?_⟩
              simp only [putsL]
              change quietTo _ _ _ _ (Sem.run _ (execOp (Act.eval (Act.put (Act.put (Act.put _ (some 48) (sv 7)) (some 47) (sv 6)) (some 46) (sv 5))) _) _)
              try simp only [Act.put, List.setIfInBounds_toArray, List.set_cons_succ, List.set_cons_zero]
              simp [go_sem, quietTo, Ext.refl, ↓IntWalk.iteOmega, f5, f7, hiI2]
              all_goals try simp (disch := omega) only [IntWalk.i64_in]
              all_goals first
                | rfl
            refine fac_quiet 9 rfl rfl rfl (fun _ _ h _ => h) rfl rfl ?_
            apply Exists.intro
            refine ⟨fun sv w' hw' hfa => ?_, ?_⟩
            · obtain ⟨_, _, _, f8, -⟩ := hfa
              replace f8 : sv 8 = _ := f8
              try dsimp only at f8
              have hk9 := (Ext.refl wr).drew.trans hw'; have z1 := (hk9.walk.1 _ _ lq).trans ca; have z2 := (hk9.walk.1 _ _ lq).trans cb
              refine ⟨rfl, ?_⟩
              simp only [putsL]
              change quietTo _ _ _ _ (Sem.run _ (execOp (Act.eval (Act.put (Act.put (Act.put (Act.put _ (some 49) (sv 8)) (some 48) (sv 7)) (some 47) (sv 6)) (some 46) (sv 5))) _) _)
              try simp only [Act.put, List.setIfInBounds_toArray, List.set_cons_succ, List.set_cons_zero]
              simp [go_sem, quietTo, Ext.refl, ↓IntWalk.iteOmega, f8, z2]
              all_goals try simp (disch := omega) only [IntWalk.i64_in]
              all_goals first
                | rfl
            refine fac_quiet 10 rfl rfl rfl (fun _ _ h _ => h) rfl rfl ?_
            apply Exists.intro
            refine ⟨fun sv w' hw' hfa => ?_, ?_⟩
            · obtain ⟨_, _, _, f4, _, _, _, _, f9, -⟩ := hfa
              replace f4 : sv 4 = _ := f4
              try dsimp only at f4
              replace f9 : sv 9 = _ := f9
              try dsimp only at f9
              refine ⟨rfl, ?_⟩
              simp only [putsL]
              change quietTo _ _ _ _ (Sem.run _ (execOp (Act.eval (Act.put (Act.put (Act.put (Act.put (Act.put (Act.put (Act.put (Act.put (Act.put _ (some 50) (sv 9)) (some 49) (sv 8)) (some 48) (sv 7)) (some 47) (sv 6)) (some 46) (sv 5)) (some 45) (sv 4)) (some 44) (sv 3)) (some 43) (sv 2)) (some 42) (sv 1))) _) _)
              try simp only [Act.put, List.setIfInBounds_toArray, List.set_cons_succ, List.set_cons_zero]
              simp [go_sem, quietTo, Ext.refl, ↓IntWalk.iteOmega, f4, f9]
              all_goals try simp (disch := omega) only [IntWalk.i64_in]
              all_goals first
                | rfl
            refine fac_any 11 rfl rfl rfl (fun _ _ h _ => h) ?_
            refine ⟨(fun y u => ∃ b' o' n' d' : Nat, y 11 = .slice (some ⟨b', o', none⟩) n' d'), fun sv w' hw' hfa => ?_, ?_, ?_⟩
            · obtain ⟨f0, f1, f2, f3, f4, f5, f6, f7, f8, f9, f10, -⟩ := hfa
              replace f0 : sv 0 = _ := f0
              try dsimp only at f0
              replace f1 : sv 1 = _ := f1
              try dsimp only at f1
              replace f2 : sv 2 = _ := f2
              try dsimp only at f2
              replace f3 : sv 3 = _ := f3
              try dsimp only at f3
              replace f4 : sv 4 = _ := f4
              try dsimp only at f4
              replace f5 : sv 5 = _ := f5
              try dsimp only at f5
              replace f6 : sv 6 = _ := f6
              try dsimp only at f6
              replace f7 : sv 7 = _ := f7
              try dsimp only at f7
              replace f8 : sv 8 = _ := f8
              try dsimp only at f8
              replace f9 : sv 9 = _ := f9
              try dsimp only at f9
              replace f10 : sv 10 = _ := f10
              try dsimp only at f10
              have hk9 := (Ext.refl wr).drew.trans hw'; have z1 := (hk9.walk.1 _ _ lq).trans ca; have z2 := (hk9.walk.1 _ _ lq).trans cb
              refine ⟨rfl, ?_⟩
              simp only [putsL]
              change outc _ _ (Sem.run _ (execOp (Act.eval (Act.put (Act.put (Act.put (Act.put (Act.put (Act.put (Act.put (Act.put (Act.put (Act.put (Act.put _ (some 51) (sv 10)) (some 50) (sv 9)) (some 49) (sv 8)) (some 48) (sv 7)) (some 47) (sv 6)) (some 46) (sv 5)) (some 45) (sv 4)) (some 44) (sv 3)) (some 43) (sv 2)) (some 42) (sv 1)) (some 41) (sv 0))) _) _)
              try simp only [Act.put, List.setIfInBounds_toArray, List.set_cons_succ, List.set_cons_zero]
              simp [go_sem, outc, f0, f10]
              refine (hch.out _ hk9).mono ?_
              rintro e w9 ⟨b1, o1, n1, d1, rfl, hb9⟩
              exact ⟨_, rfl, hb9, b1, o1, n1, d1, rfl⟩
            · exact fun x w w' ⟨b1, o1, n1, d1, h1⟩ he => ⟨b1, o1, n1, d1, h1⟩
            refine fac_quiet 12 rfl rfl rfl (fun _ _ h _ => h) rfl rfl ?_
            apply Exists.intro
            refine ⟨fun sv w' hw' hfa => ?_, ?_⟩
            · obtain ⟨_, _, _, _, _, _, _, _, _, _, _, f11, -⟩ := hfa
              obtain ⟨b1, o1, n1, d1, f11⟩ := f11
              replace f11 : sv 11 = _ := f11
              have hk9 := (Ext.refl wr).drew.trans hw'; have z1 := (hk9.walk.1 _ _ lq).trans ca; have z2 := (hk9.walk.1 _ _ lq).trans cb
              refine ⟨rfl, ?_⟩
              simp only [putsL]
              change quietTo _ _ _ _ (Sem.run _ (execOp (Act.eval (Act.put (Act.put (Act.put (Act.put (Act.put (Act.put (Act.put (Act.put (Act.put (Act.put (Act.put (Act.put _ (some 52) (sv 11)) (some 51) (sv 10)) (some 50) (sv 9)) (some 49) (sv 8)) (some 48) (sv 7)) (some 47) (sv 6)) (some 46) (sv 5)) (some 45) (sv 4)) (some 44) (sv 3)) (some 43) (sv 2)) (some 42) (sv 1)) (some 41) (sv 0))) _) _)
              try simp only [Act.put, List.setIfInBounds_toArray, List.set_cons_succ, List.set_cons_zero]
              simp [go_sem, quietTo, Ext.refl, ↓IntWalk.iteOmega, f11, hnl]
              all_goals try simp (disch := omega) only [IntWalk.i64_in]
              all_goals first
                | rfl
            refine fac_nil fun xa wra hera hfra hcra holda hapa => ?_
            obtain ⟨f0, f1, f2, f3, f4, f5, f6, f7, f8, f9, f10, f11, f12, -⟩ := hfra
            replace f0 : xa 0 = _ := f0
            try dsimp only at f0
            replace f1 : xa 1 = _ := f1
            try dsimp only at f1
            replace f2 : xa 2 = _ := f2
            try dsimp only at f2
            replace f3 : xa 3 = _ := f3
            try dsimp only at f3
            replace f4 : xa 4 = _ := f4
            try dsimp only at f4
            replace f5 : xa 5 = _ := f5
            try dsimp only at f5
            replace f6 : xa 6 = _ := f6
            try dsimp only at f6
            replace f7 : xa 7 = _ := f7
            try dsimp only at f7
            replace f8 : xa 8 = _ := f8
            try dsimp only at f8
            replace f9 : xa 9 = _ := f9
            try dsimp only at f9
            replace f10 : xa 10 = _ := f10
            try dsimp only at f10
            obtain ⟨b1, o1, n1, d1, f11⟩ := f11
            replace f11 : xa 11 = _ := f11
            replace f12 : xa 12 = _ := f12
            try dsimp only at f12
            change wpList _ _ _ _ (Act.put (Act.put (Act.put (Act.put (Act.put (Act.put (Act.put (Act.put (Act.put (Act.put (Act.put (Act.put (Act.put _ (some 41) (xa 0)) (some 42) (xa 1)) (some 43) (xa 2)) (some 44) (xa 3)) (some 45) (xa 4)) (some 46) (xa 5)) (some 47) (xa 6)) (some 48) (xa 7)) (some 49) (xa 8)) (some 50) (xa 9)) (some 51) (xa 10)) (some 52) (xa 11)) (some 53) (xa 12)) _
            simp only [putsL, Nat.reduceAdd, List.drop_succ_cons, List.drop_zero, List.drop_nil, Act.put, List.setIfInBounds_toArray, List.set_cons_succ, List.set_cons_zero]
            try simp only [f0, f1, f2, f3, f4, f5, f6, f7, f8, f9, f10, f11, f12]
            clear f0 f1 f2 f3 f4 f5 f6 f7 f8 f9 f10 f12
            clear holda hapa
            have hEa := hE.trans ((Ext.refl wr).drew.trans hera)
            go_wp2
            go_roundw
            case rel => exact ⟨i + 1, by omega, by go_num, hz.out.succ hk0.out, hEa⟩
            case measure => simp [intOf]; omega
        · obtain ⟨L, hL⟩ : ∃ L, m.length = L + 1 := ⟨m.length - 1, by omega⟩
          obtain rfl : i = L := by omega
          have hltI : ¬ (i : Int) + 1 < m.length := by omega
          have hzz : melF X m = 0 := by rw [hF1.out, show m.length - 1 = i by omega]; exact scan_zero hz
          replace hL := Lib.hid hL
          replace hzz := Lib.hid hzz
          go_wp2
          go_ret
          exact ⟨ret_int hzz.out.symm, hE⟩
end Go.Proofs.YtapjekpjekdlkaaDoor
