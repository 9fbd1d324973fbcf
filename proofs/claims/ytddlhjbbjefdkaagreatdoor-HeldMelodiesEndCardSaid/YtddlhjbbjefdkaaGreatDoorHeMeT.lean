/- How far each note drifts, by tune's text. Conditions: steps and notes lie in memory. -/
import Derived.Test.YtddlhjbbjefdkaaGreatDoorHeMeL
import Derived.Test.YtddlhjbbjefdkaaGreatDoorHeFactsB
set_option linter.unusedSimpArgs false
set_option linter.unusedVariables false
namespace Go.Proofs.YtddlhjbbjefdkaaGreatDoor
open Go Go.RowKit

theorem ivInfo5 : (Tryz.prog.info? 36).map (fun i => (i.zero, i.size, i.bytes)) = some (some (.agg #[.int .i64 0, .int .i64 0, .int .i64 0, .int .i64 0]), 4, 32) := by kernel_rfl
theorem mel_kind {X : List StepV} {m : List Int} (h : melF X m = 0) {i : Nat} (hi : i < m.length - 1) : kindF X m i = 0 := by
  have hs := mel_steps h
  unfold melF at h
  rw [if_neg (by omega)] at h
  split at h
  · cases h
  · split at h
    · cases h
    · split at h
      · cases h
      · exact scan_all h hi
theorem melC_pos {X : List StepV} {m : List Int} (h : melF X m = 0) {r : List I4} (hr : r ∈ melC X m) : 0 < r.length := by
  unfold melC at hr
  obtain ⟨i, hi, rfl⟩ := List.mem_map.1 hr
  have hk := mel_kind h (List.mem_range.1 hi)
  unfold kindF at hk
  cases hf : findX X (gapAt m i) with
  | none => rw [hf] at hk; cases hk
  | some x => exact (steps_right (mel_steps h) (List.mem_of_find?_eq_some hf)).2.2
/-- What Drift answers. -/
def DriftPost (w : World) (X : List StepV) (m : List Int) (ex : Ending) (w' : World) : Prop :=
  Ext w w' ∧ ((∃ d : Int, d ≠ 0 ∧ ex = .returned (.tuple #[.slice none 0 0, .int .i64 d])) ∨
    (melF X m = 0 ∧ ∃ (v : Value) (D : List I4), ex = .returned (.tuple #[v, .int .i64 0]) ∧ w'.ownsRow w.heap.size 36 4 v D.length (D.flatMap i4C) ∧ D.length = (melC X m).length + 1 ∧ ∀ (k : Nat) (x : I4), D[k]? = some x → Rch (melC X m) k x))
set_option maxRecDepth 100000 in
set_option maxHeartbeats 6400000 in
theorem drift_any {p : Option Addr} {n c : Nat} {X : List StepV} {w : World} (h : StpM w p n c X) {np : Option Addr} {nn nc : Nat} {m : List Int} (hm : Slc 1 intC w np nn nc m) (hm40 : m.length ≤ 40) :
    Calls Tryz.prog 16 #[.slice p n c, .slice np nn nc] w (DriftPost w X m) := by
  have hmo := melodyOf_any h hm
  replace hmo := Lib.hid hmo
  go_enter Tryz.func16, Tryz.ntmps16
  go_upto_region 2 with (go_at_call 41; (with_reducible refine Calls.mono hmo.out ?_); rintro ex w1 ⟨hb1, hcs⟩; rcases hcs with ⟨hme, rfl⟩ | ⟨hme, v, rfl, hC⟩)
  · go_wp2
    go_ret2
    exact ⟨hb1, .inl ⟨_, hme, rfl⟩⟩
  · have hs0 := mel_steps hme
    obtain ⟨hCR, hC4⟩ := melC_right (m := m) hs0
    have hpos := fun r hr => melC_pos hme (r := r) hr
    have hCl : (melC X m).length ≤ 40 := by rw [melC_len]; omega
    obtain ⟨cp, cc, rfl, hRows⟩ := hC.rows hb1 (by omega)
    clear hC hmo
    generalize hCC : melC X m = C at *
    have hE2 : Ext w1 (w1.alloc (.cells #[.int .i64 0, .int .i64 0, .int .i64 0, .int .i64 0] 36)) := (Ext.refl w1).alloc _
    have ho2 : (w1.alloc (.cells #[.int .i64 0, .int .i64 0, .int .i64 0, .int .i64 0] 36)).ownsRow w1.heap.size 36 4 (.slice (some ⟨w1.heap.size, 0, none⟩) 1 1) 1 ([zeroI].flatMap i4C) :=
      ⟨rfl, .inr ⟨w1.heap.size, 1, _, rfl, Nat.le_refl _, (Blk.new' rfl : Blk _ _ 36 #[.int .i64 0, .int .i64 0, .int .i64 0, .int .i64 0]), Nat.le_refl _, by decide, rfl, rfl⟩⟩
    replace ho2 := Lib.hid ho2
    replace hE2 := Lib.hid hE2
    have hw1 := hb1.size
    go_upto_region 6 with fail
    generalize w1.alloc (.cells #[.int .i64 0, .int .i64 0, .int .i64 0, .int .i64 0] 36) = W2 at *
    go_loopw [8, 26] (fun v8 v26 wr => ∃ (k : Nat) (D : List I4), v26 = .int .i64 k ∧ k ≤ C.length ∧ D.length = k + 1 ∧ wr.ownsRow w1.heap.size 36 4 v8 (k + 1) (D.flatMap i4C) ∧ (∀ (j : Nat) (x : I4), D[j]? = some x → Rch C j x) ∧ Ext w1 wr) (fun _ v26 _ => C.length - (intOf v26).toNat)
    case atStart => exact ⟨0, [zeroI], rfl, Nat.zero_le _, rfl, ho2.out, (fun j x hx => by
      cases j with
      | zero => cases hx; exact rfl
      | succ j => simp at hx), hE2.out⟩
    case round =>
      clear ho2
      obtain ⟨k, D, rfl, hk, hDl, hown, hD, hE⟩ := hrel
      by_cases hlt : k < C.length
      · obtain ⟨r, hr⟩ := getD_some (rfl : C.length = C.length) hlt
        have hrm := List.mem_of_getElem? hr
        have hr0 := hpos r hrm
        have hr4 := hC4 r hrm
        obtain ⟨bb, boff, q, d, hbe, hbb, cr, hSr⟩ := (hRows.ext hE).at_ hr
        subst hbe
        obtain ⟨-, ⟨_, e9⟩ | ⟨qb, qoff, rfl, hqb, hEl⟩⟩ := slcC hSr
        · rw [e9] at hr0; simp at hr0
        obtain ⟨cx, hcx⟩ := getD_some (rfl : r.length = r.length) hr0
        obtain ⟨c1, c2, c3, c4⟩ := hEl.iv hcx
        simp only [Nat.zero_mul, Nat.add_zero] at c1 c2 c3 c4
        obtain ⟨x, hx⟩ := getD_some hDl (show k < k + 1 by omega)
        obtain ⟨b, c', rfl, hwb, hnc⟩ := hown.form (by omega)
        have d1 : wr.cell? ⟨b, k * 4, none⟩ = some (.int .i64 x.a) := own_cell i4C_len hown hx 0 rfl (by omega)
        have d2 : wr.cell? ⟨b, k * 4 + 1, none⟩ = some (.int .i64 x.b) := own_cell i4C_len hown hx 1 rfl (by omega)
        have d3 : wr.cell? ⟨b, k * 4 + 2, none⟩ = some (.int .i64 x.c) := own_cell i4C_len hown hx 2 rfl (by omega)
        have d4 : wr.cell? ⟨b, k * 4 + 3, none⟩ = some (.int .i64 x.d) := own_cell i4C_len hown hx 3 rfl (by omega)
        have hbl := (hown.lt b rfl).2
        have hxR := hD k x hx
        have hccB : rightB cx = true := hCR r hrm cx (List.mem_of_getElem? hcx)
        have hkI : (k : Int) < C.length := by omega
        have hkI1 : (k : Int) < k + 1 := by omega
        have hr0I : (0 : Int) < r.length := by omega
        have hnext : rightB (addI x cx) = true → Rch C (k + 1) (addI x cx) := fun hb => ⟨hb, x, cx, hxR, by rw [List.getD_eq_getElem?_getD, hr]; exact List.mem_of_getElem? hcx, rfl⟩
        have hsum := fun u => sum_any x cx u
        generalize addI x cx = y at *
        have hchk := fun u => checked_any y u
        replace hsum := Lib.hid hsum
        replace hchk := Lib.hid hchk
        replace hD := Lib.hid hD
        replace hown := Lib.hid hown
        clear hx hcx
        go_upto_region 8 with fail
        refine wp_region_facts [13] [([], false, false), ([], false, false), ([1], false, false), ([1, 2], false, false), ([0, 1, 2, 3], false, false), ([0, 1, 2, 3, 4], false, false), ([], false, false), ([6], false, false), ([6, 7], false, false), ([0, 1, 2, 3, 4, 5, 6, 7, 8], false, false), ([0, 1, 2, 3, 4, 5, 6, 7, 8, 9], false, false), ([0, 1, 2, 3, 4, 5, 6, 7, 8, 9, 10], false, false), ([0, 1, 2, 3, 4, 5, 6, 7, 8, 9, 10, 11], false, false), ([0, 1, 2, 3, 4, 5, 6, 7, 8, 9, 10, 11], false, false), ([], false, true)] (Ext) Ext (fun _ => True) (by kernel_rfl) (by kernel_rfl) Ext.refl (fun _ _ _ => Ext.trans) (fun _ _ h => h) (fun _ _ h => h.size) (fun _ _ h _ => h) trivial ?_
        dsimp only [List.length_cons, List.length_nil, List.drop_succ_cons, List.drop_zero, List.drop_nil]
        refine fac_quiet 0 rfl rfl rfl (fun _ _ h _ => h) rfl rfl ?_
        apply Exists.intro
        refine ⟨fun sv w' hw' hfa => ?_, ?_⟩
        · refine ⟨rfl, ?_⟩
          simp only [putsL]
          change quietTo _ _ _ _ (Sem.run _ (execOp (Act.eval _) _) _)
          try simp only [Act.put, List.setIfInBounds_toArray, List.set_cons_succ, List.set_cons_zero]
          simp [go_sem, quietTo, Ext.refl]
          all_goals first
            | rfl
        refine fac_quiet 1 rfl rfl rfl (fun _ _ h _ => h) rfl rfl ?_
        apply Exists.intro
        refine ⟨fun sv w' hw' hfa => ?_, ?_⟩
        · refine ⟨rfl, ?_⟩
          simp only [putsL]
          change quietTo _ _ _ _ (Sem.run _ (execOp (Act.eval _) _) _)
          try simp only [Act.put, List.setIfInBounds_toArray, List.set_cons_succ, List.set_cons_zero]
          simp [go_sem, quietTo, Ext.refl]
          all_goals first
            | rfl
        refine fac_quiet 2 rfl rfl rfl (fun _ _ h _ => h) rfl rfl ?_
        apply Exists.intro
        refine ⟨fun sv w' hw' hfa => ?_, ?_⟩
        · obtain ⟨f1, -⟩ := hfa
          replace f1 : sv 1 = _ := f1
          try dsimp only at f1
          refine ⟨rfl, ?_⟩
          simp only [putsL]
          change quietTo _ _ _ _ (Sem.run _ (execOp (Act.eval (Act.put _ (some 32) (sv 1))) _) _)
          try simp only [Act.put, List.setIfInBounds_toArray, List.set_cons_succ, List.set_cons_zero]
          simp [go_sem, quietTo, Ext.refl, ↓IntWalk.iteOmega, f1]
          all_goals try simp (disch := omega) only [IntWalk.i64_in]
          all_goals first
            | rfl
        refine fac_quiet 3 rfl rfl rfl (fun _ _ h _ => h) rfl rfl ?_
        apply Exists.intro
        refine ⟨fun sv w' hw' hfa => ?_, ?_⟩
        · obtain ⟨_, f2, -⟩ := hfa
          replace f2 : sv 2 = _ := f2
          try dsimp only at f2
          refine ⟨rfl, ?_⟩
          simp only [putsL]
          change quietTo _ _ _ _ (Sem.run _ (execOp (Act.eval (Act.put (Act.put _ (some 33) (sv 2)) (some 32) (sv 1))) _) _)
          try simp only [Act.put, List.setIfInBounds_toArray, List.set_cons_succ, List.set_cons_zero]
          simp [go_sem, quietTo, Ext.refl, ↓IntWalk.iteOmega, f2]
          all_goals try simp (disch := omega) only [IntWalk.i64_in]
          all_goals first
            | rfl
        refine fac_quiet 4 rfl rfl rfl (fun _ _ h _ => h) rfl rfl ?_
        apply Exists.intro
        refine ⟨fun sv w' hw' hfa => ?_, ?_⟩
        · obtain ⟨f0, _, _, f3, -⟩ := hfa
          replace f0 : sv 0 = _ := f0
          try dsimp only at f0
          replace f3 : sv 3 = _ := f3
          try dsimp only at f3
          have hk9 := (Ext.refl wr).drew.trans hw'; have z1 := (hk9.walk.1 _ _ hbl).trans d1; have z2 := (hk9.walk.1 _ _ hbl).trans d2; have z3 := (hk9.walk.1 _ _ hbl).trans d3; have z4 := (hk9.walk.1 _ _ hbl).trans d4; have y1 := (hk9.walk.1 _ _ hqb).trans c1; have y2 := (hk9.walk.1 _ _ hqb).trans c2; have y3 := (hk9.walk.1 _ _ hqb).trans c3; have y4 := (hk9.walk.1 _ _ hqb).trans c4
          refine ⟨rfl, ?_⟩
          simp only [putsL]
          change quietTo _ _ _ _ (Sem.run _ (execOp (Act.eval (Act.put (Act.put (Act.put (Act.put _ (some 34) (sv 3)) (some 33) (sv 2)) (some 32) (sv 1)) (some 31) (sv 0))) _) _)
          try simp only [Act.put, List.setIfInBounds_toArray, List.set_cons_succ, List.set_cons_zero]
          simp [go_sem, quietTo, Ext.refl, ↓IntWalk.iteOmega, f0, f3, hkI1]
          all_goals try simp (disch := omega) only [IntWalk.i64_in]
          all_goals first
            | rfl
        refine fac_quiet 5 rfl rfl rfl (fun _ _ h _ => h) rfl rfl ?_
        apply Exists.intro
        refine ⟨fun sv w' hw' hfa => ?_, ?_⟩
        · obtain ⟨_, _, _, _, f4, -⟩ := hfa
          replace f4 : sv 4 = _ := f4
          try dsimp only at f4
          have hk9 := (Ext.refl wr).drew.trans hw'; have z1 := (hk9.walk.1 _ _ hbl).trans d1; have z2 := (hk9.walk.1 _ _ hbl).trans d2; have z3 := (hk9.walk.1 _ _ hbl).trans d3; have z4 := (hk9.walk.1 _ _ hbl).trans d4; have y1 := (hk9.walk.1 _ _ hqb).trans c1; have y2 := (hk9.walk.1 _ _ hqb).trans c2; have y3 := (hk9.walk.1 _ _ hqb).trans c3; have y4 := (hk9.walk.1 _ _ hqb).trans c4
          refine ⟨rfl, ?_⟩
          simp only [putsL]
          change quietTo _ _ _ _ (Sem.run _ (execOp (Act.eval (Act.put (Act.put (Act.put (Act.put (Act.put _ (some 35) (sv 4)) (some 34) (sv 3)) (some 33) (sv 2)) (some 32) (sv 1)) (some 31) (sv 0))) _) _)
          try simp only [Act.put, List.setIfInBounds_toArray, List.set_cons_succ, List.set_cons_zero]
          simp [go_sem, quietTo, Ext.refl, ↓IntWalk.iteOmega, f4, z1, z2, z3, z4]
          all_goals try simp (disch := omega) only [IntWalk.i64_in]
          all_goals first
            | rfl
        refine fac_quiet 6 rfl rfl rfl (fun _ _ h _ => h) rfl rfl ?_
        apply Exists.intro
        refine ⟨fun sv w' hw' hfa => ?_, ?_⟩
        · refine ⟨rfl, ?_⟩
          simp only [putsL]
          change quietTo _ _ _ _ (Sem.run _ (execOp (Act.eval _) _) _)
          try simp only [Act.put, List.setIfInBounds_toArray, List.set_cons_succ, List.set_cons_zero]
          simp [go_sem, quietTo, Ext.refl]
          all_goals first
            | rfl
        refine fac_quiet 7 rfl rfl rfl (fun _ _ h _ => h) rfl rfl ?_
        apply Exists.intro
        refine ⟨fun sv w' hw' hfa => ?_, ?_⟩
        · obtain ⟨f6, -⟩ := hfa
          replace f6 : sv 6 = _ := f6
          try dsimp only at f6
          have hk9 := (Ext.refl wr).drew.trans hw'; have z1 := (hk9.walk.1 _ _ hbl).trans d1; have z2 := (hk9.walk.1 _ _ hbl).trans d2; have z3 := (hk9.walk.1 _ _ hbl).trans d3; have z4 := (hk9.walk.1 _ _ hbl).trans d4; have y1 := (hk9.walk.1 _ _ hqb).trans c1; have y2 := (hk9.walk.1 _ _ hqb).trans c2; have y3 := (hk9.walk.1 _ _ hqb).trans c3; have y4 := (hk9.walk.1 _ _ hqb).trans c4
          refine ⟨rfl, ?_⟩
          simp only [putsL]
          change quietTo _ _ _ _ (Sem.run _ (execOp (Act.eval (Act.put _ (some 37) (sv 6))) _) _)
          try simp only [Act.put, List.setIfInBounds_toArray, List.set_cons_succ, List.set_cons_zero]
          simp [go_sem, quietTo, Ext.refl, ↓IntWalk.iteOmega, f6, hr0I]
          all_goals try simp (disch := omega) only [IntWalk.i64_in]
          all_goals first
            | rfl
        refine fac_quiet 8 rfl rfl rfl (fun _ _ h _ => h) rfl rfl ?_
        apply Exists.intro
        refine ⟨fun sv w' hw' hfa => ?_, ?_⟩
        · obtain ⟨_, f7, -⟩ := hfa
          replace f7 : sv 7 = _ := f7
          try dsimp only at f7
          have hk9 := (Ext.refl wr).drew.trans hw'; have z1 := (hk9.walk.1 _ _ hbl).trans d1; have z2 := (hk9.walk.1 _ _ hbl).trans d2; have z3 := (hk9.walk.1 _ _ hbl).trans d3; have z4 := (hk9.walk.1 _ _ hbl).trans d4; have y1 := (hk9.walk.1 _ _ hqb).trans c1; have y2 := (hk9.walk.1 _ _ hqb).trans c2; have y3 := (hk9.walk.1 _ _ hqb).trans c3; have y4 := (hk9.walk.1 _ _ hqb).trans c4
          refine ⟨rfl, ?_⟩
          simp only [putsL]
          change quietTo _ _ _ _ (Sem.run _ (execOp (Act.eval (Act.put (Act.put _ (some 38) (sv 7)) (some 37) (sv 6))) _) _)
          try simp only [Act.put, List.setIfInBounds_toArray, List.set_cons_succ, List.set_cons_zero]
          simp [go_sem, quietTo, Ext.refl, ↓IntWalk.iteOmega, f7, y1, y2, y3, y4]
          all_goals try simp (disch := omega) only [IntWalk.i64_in]
          all_goals first
            | rfl
        refine fac_quiet 9 rfl rfl rfl (fun _ _ h _ => h) rfl rfl ?_
        apply Exists.intro
        refine ⟨fun sv w' hw' hfa => ?_, ?_⟩
        · obtain ⟨f0, f1, f2, f3, f4, f5, f6, f7, f8, -⟩ := hfa
          replace f0 : sv 0 = _ := f0
          try dsimp only at f0
          replace f1 : sv 1 = _ := f1
          try dsimp only at f1
          replace f2 : sv 2 = _ := f2
          try dsimp only at f2
          replace f3 : sv 3 = _ := f3
          try dsimp only at f3
          replace f4 : sv 4 = _ := f4
          try dsimp only at f4
          replace f5 : sv 5 = _ := f5
          try dsimp only at f5
          replace f6 : sv 6 = _ := f6
          try dsimp only at f6
          replace f7 : sv 7 = _ := f7
          try dsimp only at f7
          replace f8 : sv 8 = _ := f8
          try dsimp only at f8
          have hk9 := (Ext.refl wr).drew.trans hw'; have z1 := (hk9.walk.1 _ _ hbl).trans d1; have z2 := (hk9.walk.1 _ _ hbl).trans d2; have z3 := (hk9.walk.1 _ _ hbl).trans d3; have z4 := (hk9.walk.1 _ _ hbl).trans d4; have y1 := (hk9.walk.1 _ _ hqb).trans c1; have y2 := (hk9.walk.1 _ _ hqb).trans c2; have y3 := (hk9.walk.1 _ _ hqb).trans c3; have y4 := (hk9.walk.1 _ _ hqb).trans c4
          refine ⟨rfl, ?_⟩
          simp only [putsL]
          change quietTo _ _ _ _ (Sem.run _ (execOp (Act.eval (Act.put (Act.put (Act.put (Act.put (Act.put (Act.put (Act.put (Act.put (Act.put _ (some 39) (sv 8)) (some 38) (sv 7)) (some 37) (sv 6)) (some 36) (sv 5)) (some 35) (sv 4)) (some 34) (sv 3)) (some 33) (sv 2)) (some 32) (sv 1)) (some 31) (sv 0))) _) _)
          try simp only [Act.put, List.setIfInBounds_toArray, List.set_cons_succ, List.set_cons_zero]
          simp [go_sem, quietTo, Ext.refl, ↓IntWalk.iteOmega, f5, f8]
          all_goals try simp (disch := omega) only [IntWalk.i64_in]
          all_goals first
            | rfl
            | (exact hsum.out _)
        refine fac_quiet 10 rfl rfl rfl (fun _ _ h _ => h) rfl rfl ?_
        apply Exists.intro
        refine ⟨fun sv w' hw' hfa => ?_, ?_⟩
        · obtain ⟨f0, f1, f2, f3, f4, f5, f6, f7, f8, f9, -⟩ := hfa
          replace f0 : sv 0 = _ := f0
          try dsimp only at f0
          replace f1 : sv 1 = _ := f1
          try dsimp only at f1
          replace f2 : sv 2 = _ := f2
          try dsimp only at f2
          replace f3 : sv 3 = _ := f3
          try dsimp only at f3
          replace f4 : sv 4 = _ := f4
          try dsimp only at f4
          replace f5 : sv 5 = _ := f5
          try dsimp only at f5
          replace f6 : sv 6 = _ := f6
          try dsimp only at f6
          replace f7 : sv 7 = _ := f7
          try dsimp only at f7
          replace f8 : sv 8 = _ := f8
          try dsimp only at f8
          replace f9 : sv 9 = _ := f9
          try dsimp only at f9
          have hk9 := (Ext.refl wr).drew.trans hw'; have z1 := (hk9.walk.1 _ _ hbl).trans d1; have z2 := (hk9.walk.1 _ _ hbl).trans d2; have z3 := (hk9.walk.1 _ _ hbl).trans d3; have z4 := (hk9.walk.1 _ _ hbl).trans d4; have y1 := (hk9.walk.1 _ _ hqb).trans c1; have y2 := (hk9.walk.1 _ _ hqb).trans c2; have y3 := (hk9.walk.1 _ _ hqb).trans c3; have y4 := (hk9.walk.1 _ _ hqb).trans c4
          refine ⟨rfl, ?_⟩
          simp only [putsL]
          change quietTo _ _ _ _ (Sem.run _ (execOp (Act.eval (Act.put (Act.put (Act.put (Act.put (Act.put (Act.put (Act.put (Act.put (Act.put (Act.put _ (some 40) (sv 9)) (some 39) (sv 8)) (some 38) (sv 7)) (some 37) (sv 6)) (some 36) (sv 5)) (some 35) (sv 4)) (some 34) (sv 3)) (some 33) (sv 2)) (some 32) (sv 1)) (some 31) (sv 0))) _) _)
          try simp only [Act.put, List.setIfInBounds_toArray, List.set_cons_succ, List.set_cons_zero]
          simp [go_sem, quietTo, Ext.refl, ↓IntWalk.iteOmega, f9]
          all_goals try simp (disch := omega) only [IntWalk.i64_in]
          all_goals first
            | rfl
            | (exact hchk.out _)
        refine fac_quiet 11 rfl rfl rfl (fun _ _ h _ => h) rfl rfl ?_
        apply Exists.intro
        refine ⟨fun sv w' hw' hfa => ?_, ?_⟩
        · obtain ⟨_, _, _, _, _, _, _, _, _, _, f10, -⟩ := hfa
          replace f10 : sv 10 = _ := f10
          try dsimp only at f10
          refine ⟨rfl, ?_⟩
          simp only [putsL]
          change quietTo _ _ _ _ (Sem.run _ (execOp (Act.eval (Act.put (Act.put (Act.put (Act.put (Act.put (Act.put (Act.put (Act.put (Act.put (Act.put (Act.put _ (some 41) (sv 10)) (some 40) (sv 9)) (some 39) (sv 8)) (some 38) (sv 7)) (some 37) (sv 6)) (some 36) (sv 5)) (some 35) (sv 4)) (some 34) (sv 3)) (some 33) (sv 2)) (some 32) (sv 1)) (some 31) (sv 0))) _) _)
          try simp only [Act.put, List.setIfInBounds_toArray, List.set_cons_succ, List.set_cons_zero]
          simp [go_sem, quietTo, Ext.refl, f10]
          all_goals first
            | rfl
        refine fac_quiet 12 rfl rfl rfl (fun _ _ h _ => h) rfl rfl ?_
        apply Exists.intro
        refine ⟨fun sv w' hw' hfa => ?_, ?_⟩
        · obtain ⟨_, _, _, _, _, _, _, _, _, _, _, f11, -⟩ := hfa
          replace f11 : sv 11 = _ := f11
          try dsimp only at f11
          refine ⟨rfl, ?_⟩
          simp only [putsL]
          change quietTo _ _ _ _ (Sem.run _ (execOp (Act.eval (Act.put (Act.put (Act.put (Act.put (Act.put (Act.put (Act.put (Act.put (Act.put (Act.put (Act.put (Act.put _ (some 30) (sv 11)) (some 41) (sv 10)) (some 40) (sv 9)) (some 39) (sv 8)) (some 38) (sv 7)) (some 37) (sv 6)) (some 36) (sv 5)) (some 35) (sv 4)) (some 34) (sv 3)) (some 33) (sv 2)) (some 32) (sv 1)) (some 31) (sv 0))) _) _)
          try simp only [Act.put, List.setIfInBounds_toArray, List.set_cons_succ, List.set_cons_zero]
          simp [go_sem, quietTo, Ext.refl, f11]
          all_goals first
            | rfl
        refine fac_late 13 rfl rfl Ext.refl (fun _ _ h _ => h) rfl rfl (fun _ _ _ _ h => h) ?_
        apply Exists.intro
        refine ⟨fun sv w' hw' hfa => ?_, ?_⟩
        · obtain ⟨_, _, _, _, _, _, _, _, _, _, _, f11, -⟩ := hfa
          replace f11 : sv 11 = _ := f11
          try dsimp only at f11
          refine ⟨rfl, fun w2 => ?_⟩
          simp only [putsL]
          change pureTo _ _ (Sem.run _ (execOp (Act.eval (Act.put (Act.put (Act.put (Act.put (Act.put (Act.put (Act.put (Act.put (Act.put (Act.put (Act.put (Act.put _ (some 30) (sv 11)) (some 41) (sv 10)) (some 40) (sv 9)) (some 39) (sv 8)) (some 38) (sv 7)) (some 37) (sv 6)) (some 36) (sv 5)) (some 35) (sv 4)) (some 34) (sv 3)) (some 33) (sv 2)) (some 32) (sv 1)) (some 31) (sv 0))) _) _)
          try simp only [Act.put, List.setIfInBounds_toArray, List.set_cons_succ, List.set_cons_zero]
          simp [go_sem, pureTo, f11]
          all_goals try simp (disch := omega) only [IntWalk.i64_in]
          all_goals first
            | rfl
        refine fac_box 14 rfl rfl rfl (fun _ _ h _ => h) (fun _ _ h => h.size) (fun _ _ _ _ _ he _ hb => hb.ext he) ?_
        apply Exists.intro
        apply Exists.intro
        refine ⟨fun sv w' hw' hfa => ?_, ?_⟩
        · refine ⟨rfl, ?_⟩
          simp only [putsL]
          change boxTo _ _ _ (Sem.run _ (execOp (Act.eval _) _) _)
          try simp only [Act.put, List.setIfInBounds_toArray, List.set_cons_succ, List.set_cons_zero]
          simp [go_sem, boxTo, Ext.refl]
          all_goals try simp (disch := omega) only [IntWalk.i64_in]
          all_goals first
            | rfl
            | exact ⟨rfl, rfl⟩
            | exact ⟨⟨rfl, rfl⟩, rfl⟩
        refine fac_nil fun xa wra hera hfra hcra holda hapa => ?_
        obtain ⟨f0, f1, f2, f3, f4, f5, f6, f7, f8, f9, f10, f11, f12, f13, f14, -⟩ := hfra
        replace f0 : xa 0 = _ := f0
        try dsimp only at f0
        replace f1 : xa 1 = _ := f1
        try dsimp only at f1
        replace f2 : xa 2 = _ := f2
        try dsimp only at f2
        replace f3 : xa 3 = _ := f3
        try dsimp only at f3
        replace f4 : xa 4 = _ := f4
        try dsimp only at f4
        replace f5 : xa 5 = _ := f5
        try dsimp only at f5
        replace f6 : xa 6 = _ := f6
        try dsimp only at f6
        replace f7 : xa 7 = _ := f7
        try dsimp only at f7
        replace f8 : xa 8 = _ := f8
        try dsimp only at f8
        replace f9 : xa 9 = _ := f9
        try dsimp only at f9
        replace f10 : xa 10 = _ := f10
        try dsimp only at f10
        replace f11 : xa 11 = _ := f11
        try dsimp only at f11
        replace f12 : xa 12 = _ := f12
        try dsimp only at f12
        replace f13 : xa 13 = _ := f13
        try dsimp only at f13
        obtain ⟨g14, f14, l14, b14⟩ := f14
        replace f14 : xa 14 = _ := f14
        obtain ⟨p14, q14⟩ := b14.walk
        change wpList _ _ _ _ (Act.put (Act.put (Act.put (Act.put (Act.put (Act.put (Act.put (Act.put (Act.put (Act.put (Act.put (Act.put (Act.put (Act.put (Act.put _ (some 31) (xa 0)) (some 32) (xa 1)) (some 33) (xa 2)) (some 34) (xa 3)) (some 35) (xa 4)) (some 36) (xa 5)) (some 37) (xa 6)) (some 38) (xa 7)) (some 39) (xa 8)) (some 40) (xa 9)) (some 41) (xa 10)) (some 30) (xa 11)) (some 42) (xa 12)) (some 43) (xa 13)) (some 11) (xa 14)) _
        simp only [putsL, Nat.reduceAdd, List.drop_succ_cons, List.drop_zero, List.drop_nil, Act.put, List.setIfInBounds_toArray, List.set_cons_succ, List.set_cons_zero]
        try simp only [f0, f1, f2, f3, f4, f5, f6, f7, f8, f9, f10, f11, f12, f13, f14]
        clear f0 f1 f2 f3 f4 f5 f6 f7 f8 f9 f10 f11 f12 f13
        clear holda hapa
        have hEa := (Ext.refl wr).drew.trans hera
        have hoa := own_ext hEa hown.out
        clear hera c1 c2 c3 c4 d1 d2 d3 d4
        have hwl : wr.heap.size ≤ g14 := l14
        have hne : g14 ≠ b := by omega
        obtain ⟨e14, f14'⟩ := b14.walk
        have l14' := b14.lt
        have hB4 := (((b14.set_ 0 (.int .i64 (okI y).a)).set_ 1 (.int .i64 (okI y).b)).set_ 2 (.int .i64 (okI y).c)).set_ 3 (.int .i64 (okI y).d)
        have ho4 : ((((wra.setCell ⟨g14, 0, none⟩ (.int .i64 (okI y).a)).setCell ⟨g14, 1, none⟩ (.int .i64 (okI y).b)).setCell ⟨g14, 2, none⟩ (.int .i64 (okI y).c)).setCell ⟨g14, 3, none⟩ (.int .i64 (okI y).d)).ownsRow w1.heap.size 36 4 (.slice (some ⟨b, 0, none⟩) (k + 1) c') (k + 1) (D.flatMap i4C) :=
          own_at hown.out fun g hg => by
            have hgb : g = b := by simpa [Value.ownBlock] using hg.symm
            subst hgb
            rw [Below.heap_setCell _ _ _ g (by simpa using Ne.symm hne), Below.heap_setCell _ _ _ g (by simpa using Ne.symm hne), Below.heap_setCell _ _ _ g (by simpa using Ne.symm hne), Below.heap_setCell _ _ _ g (by simpa using Ne.symm hne)]
            exact hEa.block g hbl
        have hE4 : Ext wr ((((wra.setCell ⟨g14, 0, none⟩ (.int .i64 (okI y).a)).setCell ⟨g14, 1, none⟩ (.int .i64 (okI y).b)).setCell ⟨g14, 2, none⟩ (.int .i64 (okI y).c)).setCell ⟨g14, 3, none⟩ (.int .i64 (okI y).d)) :=
          (((hEa.setCell (p := ⟨g14, 0, none⟩) hwl _).setCell (p := ⟨g14, 1, none⟩) hwl _).setCell (p := ⟨g14, 2, none⟩) hwl _).setCell (p := ⟨g14, 3, none⟩) hwl _
        cases hyr : rightB y
        · have hFI : faultI y = 1 := by unfold faultI; rw [hyr]; rfl
          go_wp2
          go_ret2
          exact ⟨(hb1.trans hE).trans hE4, .inl ⟨1, by decide, by rw [hFI]; rfl⟩⟩
        · have hFI : faultI y = 0 := by unfold faultI; rw [hyr]; rfl
          have hOK : okI y = y := by unfold okI; rw [hyr]; rfl
          rw [hOK] at hB4 ho4 hE4 ⊢
          have hnx := hnext hyr
          replace hB4 := Lib.hid hB4
          replace ho4 := Lib.hid ho4
          replace hE4 := Lib.hid hE4
          clear hoa hEa hown
          go_upto_region 11 with fail
          have hB5 : Blk ((((wra.setCell ⟨g14, 0, none⟩ (.int .i64 y.a)).setCell ⟨g14, 1, none⟩ (.int .i64 y.b)).setCell ⟨g14, 2, none⟩ (.int .i64 y.c)).setCell ⟨g14, 3, none⟩ (.int .i64 y.d)) g14 36 #[.int .i64 y.a, .int .i64 y.b, .int .i64 y.c, .int .i64 y.d] := hB4.out.cast (by simp)
          have ho5 := ho4.out
          have hE5 := hE4.out
          clear hB4 ho4 hE4 e14 f14' b14
          generalize (((wra.setCell ⟨g14, 0, none⟩ (.int .i64 y.a)).setCell ⟨g14, 1, none⟩ (.int .i64 y.b)).setCell ⟨g14, 2, none⟩ (.int .i64 y.c)).setCell ⟨g14, 3, none⟩ (.int .i64 y.d) = W5 at *
          obtain ⟨z5, -⟩ := hB5.walk
          have z5l := hB5.lt
          have hEb : Ext W5 (W5.alloc (.cells #[.int .i64 y.a, .int .i64 y.b, .int .i64 y.c, .int .i64 y.d] 36)) := (Ext.refl _).alloc _
          have ho6 := own_ext hEb ho5
          have hE6 := (hE.trans hE5).trans hEb
          have hz6 : w1.heap.size ≤ (W5.alloc (.cells #[.int .i64 y.a, .int .i64 y.b, .int .i64 y.c, .int .i64 y.d] 36)).heap.size := by have := (ho6.lt b rfl).1; have := (ho6.lt b rfl).2; omega
          go_wp2_with (at_builtin; go_loud (refine wp_app1 _ (.tmp 47) (.tmp 49) 32 36 4 32 _ rfl rfl Tryz.underlying32 ivInfo5 rfl (by decide) (by decide) w1.heap.size _ (k + 1) _ rfl ho6 W5.heap.size (i4C y) rfl rfl (Blk.new' rfl) (i4C_one y) (by omega) hz6 ?_; intro v9 w9 hown9 hgrow9 _))
          go_roundw
          case rel => exact ⟨k + 1, D ++ [y], by go_num, by omega, by rw [List.length_append, hDl]; rfl, by rw [List.flatMap_append]; exact hown9, (fun j x hx => by
            rcases Nat.lt_or_ge j D.length with h1 | h1
            · rw [List.getElem?_append_left h1] at hx; exact hD.out j x hx
            · rw [List.getElem?_append_right h1] at hx
              have h0 : j - D.length = 0 := by have := (List.getElem?_eq_some_iff.1 hx).1; simp at this; omega
              rw [h0] at hx
              cases hx
              have : j = k + 1 := by omega
              rw [this]; exact hnx), hE6.grown hgrow9 fun j e => (ho6.lt j e).1⟩
          case measure => simp [intOf]; omega
      · obtain rfl : k = C.length := by omega
        go_wp2
        go_ret2
        exact ⟨hb1.trans hE, .inr ⟨hme, _, D, rfl, by rw [hDl]; exact own_low hown hw1, by rw [hDl, hCC], by rw [hCC]; exact hD⟩⟩
end Go.Proofs.YtddlhjbbjefdkaaGreatDoor
