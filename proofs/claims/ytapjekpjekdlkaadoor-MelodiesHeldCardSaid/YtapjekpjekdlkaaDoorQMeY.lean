/- All ends by the document's text: EndsOf walked. Conditions: steps and notes are right and lie in memory; not too many ends. -/
import Derived.Test.YtapjekpjekdlkaaDoorQJ42
import Derived.Test.YtapjekpjekdlkaaDoorQMfC
set_option linter.unusedSimpArgs false
set_option linter.unusedVariables false
namespace Go.Proofs.YtapjekpjekdlkaaDoor
open Go Go.RowKit

def EndsP (w : World) (X : List StepV) (m : List Int) (e : Ending) (w' : World) : Prop :=
  Ext w w' ∧ ∃ (v : Value) (T : List I4), e = .returned v ∧ w'.ownsRow w.heap.size 30 4 v T.length (T.flatMap i4C) ∧ RiseI T ∧ (∀ x, x ∈ T ↔ Rch (melC X m) (melC X m).length x) ∧ T.length ≤ 20000
set_option maxRecDepth 100000 in
set_option maxHeartbeats 12800000 in
theorem endsOf_any {p : Option Addr} {n c : Nat} {X : List StepV} {w : World} (h : StpM w p n c X) {np : Option Addr} {nn nc : Nat} {m : List Int} (hm : Slc 1 intC w np nn nc m) (h0 : melF X m = 0) (hm10 : m.length ≤ 10) (hnc : ¬ Crowd (melC X m)) :
    Calls Tryd.prog 9 #[.slice p n c, .slice np nn nc] w (EndsP w X m) := by
  obtain ⟨hm0, -, hmr, hfd⟩ := mel_rest h0
  have hs0 := mel_steps h0
  have hCR := (melC_right (m := m) hs0).1
  obtain ⟨hml, -⟩ := slcC hm
  subst hml
  obtain ⟨K, hK⟩ : ∃ K, m.length = K + 1 := ⟨m.length - 1, by omega⟩
  have hCl : (melC X m).length = K := by rw [melC_len]; omega
  have hCk : ∀ k, k < K → ∃ y, findX X (gapAt m k) = some y ∧ (melC X m)[k]? = some y.cs := fun k hk => by
    obtain ⟨y, hy1, hy2⟩ := hfd k (by omega)
    exact ⟨y, hy1, melC_at (by omega) hy1⟩
  obtain ⟨-, ⟨-, e9⟩ | ⟨nb, noff, rfl, hnb, hEl⟩⟩ := slcC hm
  · rw [e9] at hm0; simp at hm0
  obtain ⟨C, hC⟩ : ∃ C, melC X m = C := ⟨_, rfl⟩
  unfold EndsP
  rw [hC] at hnc hCR hCl hCk ⊢
  have ho0 : (w.alloc (.cells #[.int .i64 0, .int .i64 0, .int .i64 0, .int .i64 0] 30)).ownsRow w.heap.size 30 4 (.slice (some ⟨w.heap.size, 0, none⟩) 1 1) 1 ([zeroI].flatMap i4C) :=
    ⟨rfl, .inr ⟨w.heap.size, 1, _, rfl, Nat.le_refl _, (Blk.new' rfl : Blk _ _ 30 #[.int .i64 0, .int .i64 0, .int .i64 0, .int .i64 0]), Nat.le_refl _, by decide, rfl, rfl⟩⟩
  have hE0 : Ext w (w.alloc (.cells #[.int .i64 0, .int .i64 0, .int .i64 0, .int .i64 0] 30)) := (Ext.refl w).alloc _
  replace ho0 := Lib.hid ho0
  replace hE0 := Lib.hid hE0
  replace hnc := Lib.hid hnc
  replace hCl := Lib.hid hCl
  replace hCk := Lib.hid hCk
  replace hK := Lib.hid hK
  replace hmr := Lib.hid hmr
  clear hC hfd hs0 h0
  go_enter Tryd.func9, Tryd.ntmps9
  go_upto_region 2 with fail
  generalize w.alloc (.cells #[.int .i64 0, .int .i64 0, .int .i64 0, .int .i64 0] 30) = W1 at *
  go_wp2
  go_loopw [5, 6] (fun v5 v6 wr => ∃ (i : Nat) (R : List I4), v6 = .int .i64 ((i : Int) + 1) ∧ i ≤ K ∧ wr.ownsRow w.heap.size 30 4 v5 R.length (R.flatMap i4C) ∧ R.Nodup ∧ (∀ x, x ∈ R ↔ Rch C i x) ∧ Ext w wr) (fun _ v6 _ => m.length - (intOf v6).toNat)
  case atStart => exact ⟨0, [zeroI], by simp, Nat.zero_le _, ho0.out, by simp, (fun x => by rw [List.mem_singleton]; exact Iff.rfl), hE0.out⟩
  case round =>
    clear ho0 hE0
    obtain ⟨i, R, rfl, hi, hown, hnd, hR, hE⟩ := hrel
    by_cases hlt : i < K
    · have hltI : (i : Int) + 1 < m.length := by have := hK.out; omega
      have hltI2 : (i : Int) < m.length := by omega
      have hrt : ∀ x ∈ R, rightB x = true := fun x hx => rch_right ((hR x).1 hx)
      have hfew : R.length ≤ 20000 := Nat.le_of_not_lt fun hl => hnc.out ⟨i, R, by have := hCl.out; omega, hnd, fun x hx => (hR x).1 hx, hl⟩
      obtain ⟨y, hfx, hck⟩ := hCk.out i hlt
      obtain ⟨rp, rc, rfl, hRS⟩ := slc_of_own i4C_len hown (by decide) (by omega)
      obtain ⟨a, ha⟩ := getD_some (rfl : m.length = m.length) (show i + 1 < m.length by omega)
      obtain ⟨b, hb⟩ := getD_some (rfl : m.length = m.length) (show i < m.length by omega)
      have hga := gap_of ha hb
      have ca := (hEl.ext hE hnb) (i + 1) a ha 0 _ rfl
      have cb := (hEl.ext hE hnb) i b hb 0 _ rfl
      simp only [Nat.mul_one, Nat.add_zero] at ca cb
      have ra := hmr.out a (List.mem_of_getElem? ha)
      have rb := hmr.out b (List.mem_of_getElem? hb)
      have lq := Nat.lt_of_lt_of_le hnb hE.size
      have hcho : ∀ u, Ext wr u → Calls Tryd.prog 26 #[.slice p n c, .int .i64 (a - b)] u fun e w' => ∃ q d, e = .returned (.slice q y.cs.length d) ∧ Slc 4 i4C w q y.cs.length d y.cs ∧ Ext u w' := fun u hu => (choicesOf_from h (hE.trans hu) (a - b)).mono fun e w' ⟨h1, h2⟩ => by
        rw [← hga] at h2
        rcases h2 with ⟨h2, -⟩ | ⟨x, q, d, h2, hS, h3⟩
        · rw [hfx] at h2; cases h2
        · rw [hfx] at h2; cases h2; exact ⟨q, d, h3, hS, h1⟩
      replace hcho := Lib.hid hcho
      replace hck := Lib.hid hck
      replace hR := Lib.hid hR
      replace hrt := Lib.hid hrt
      clear ha hb hga hfx hown
      generalize y.cs = cs at *
      go_wp2
      generalize wr = W2 at *
      go_loopw [7, 23] (fun v7 v23 wr => ∃ (k : Nat) (S : List I4), v23 = .int .i64 k ∧ k ≤ R.length ∧ wr.ownsRow W2.heap.size 30 4 v7 S.length (S.flatMap i4C) ∧ S.Nodup ∧ GatP R cs k S ∧ Ext W2 wr) (fun _ v23 _ => R.length - (intOf v23).toNat)
      case atStart => exact ⟨0, [], rfl, Nat.zero_le _, World.ownsRow_nil _ _ _ _, List.nodup_nil, GatP.start, Ext.refl _⟩
      case round =>
        obtain ⟨k, S, rfl, hk, hown, hSn, hG, hE2⟩ := hrel
        by_cases hlk : k < R.length
        · obtain ⟨x, hx⟩ := getD_some (rfl : R.length = R.length) hlk
          obtain ⟨-, ⟨-, e9⟩ | ⟨rb9, ro9, rfl, hrb, hRe⟩⟩ := slcC hRS
          · rw [e9] at hx; cases hx
          obtain ⟨c1, c2, c3, c4⟩ := (hRe.ext hE2 hrb).iv hx
          have lr := Nat.lt_of_lt_of_le hrb hE2.size
          have hxr := hrt.out x (List.mem_of_getElem? hx)
          have hkI : (k : Int) < R.length := by omega
          have hXa : Blk (wr.alloc (.cells #[.int .i64 x.a, .int .i64 x.b, .int .i64 x.c, .int .i64 x.d] 30)) wr.heap.size 30 #[.int .i64 x.a, .int .i64 x.b, .int .i64 x.c, .int .i64 x.d] := Blk.new' rfl
          have hEa : Ext wr (wr.alloc (.cells #[.int .i64 x.a, .int .i64 x.b, .int .i64 x.c, .int .i64 x.d] 30)) := (Ext.refl _).alloc _
          have hE3 := hE2.trans hEa
          have ho3 := own_ext hEa hown
          have hne9 : u7.ownBlock ≠ some wr.heap.size := fun e => by have := (hown.lt _ e).2; omega
          replace hx := Lib.hid hx
          replace ho3 := Lib.hid ho3
          replace hG := Lib.hid hG
          replace hSn := Lib.hid hSn
          clear hown hRe
          go_upto_region 9 with fail
          generalize wr.alloc (.cells #[.int .i64 x.a, .int .i64 x.b, .int .i64 x.c, .int .i64 x.d] 30) = W3 at *
          generalize wr.heap.size = gX at *
          clear c1 c2 c3 c4 hEa hE2 lr
          refine wp_region_facts [13] [([], false, false), ([], false, false), ([], false, false), ([1, 2], false, false), ([1, 2, 3], false, false), ([], false, false), ([], false, false), ([6], false, false), ([5, 6, 7], false, false), ([5, 6, 7, 8], false, false), ([1, 2, 3, 4, 5, 6, 7, 8, 9], false, false), ([0, 1, 2, 3, 4, 5, 6, 7, 8, 9, 10], false, false), ([0, 1, 2, 3, 4, 5, 6, 7, 8, 9, 10, 11], false, false), ([], false, false)] (Ext) Ext (fun _ => True) (by kernel_rfl) (by kernel_rfl) Ext.refl (fun _ _ _ => Ext.trans) (fun _ _ h => h) (fun _ _ h => h.size) (fun _ _ h _ => h) trivial ?_
          dsimp only [List.length_cons, List.length_nil, List.drop_succ_cons, List.drop_zero, List.drop_nil]
          refine fac_quiet 0 rfl rfl rfl (fun _ _ h _ => h) rfl rfl ?_
          apply Exists.intro
          refine ⟨fun sv w' hw' hfa => ?_, ?_⟩
          · refine ⟨rfl, ?_⟩
            simp only [putsL]
            change quietTo _ _ _ _ (Sem.run _ (execOp (Act.eval _) _) _)
            try simp only [Act.put, List.setIfInBounds_toArray, List.set_cons_succ, List.set_cons_zero]
            simp [go_sem, quietTo, Ext.refl]
            all_goals first
              | rfl
          refine fac_quiet 1 rfl rfl rfl (fun _ _ h _ => h) rfl rfl ?_
          apply Exists.intro
          refine ⟨fun sv w' hw' hfa => ?_, ?_⟩
          · refine ⟨rfl, ?_⟩
            simp only [putsL]
            change quietTo _ _ _ _ (Sem.run _ (execOp (Act.eval _) _) _)
            try simp only [Act.put, List.setIfInBounds_toArray, List.set_cons_succ, List.set_cons_zero]
            simp [go_sem, quietTo, Ext.refl]
            all_goals first
              | rfl
          refine fac_quiet 2 rfl rfl rfl (fun _ _ h _ => h) rfl rfl ?_
          apply Exists.intro
          refine ⟨fun sv w' hw' hfa => ?_, ?_⟩
          · refine ⟨rfl, ?_⟩
            simp only [putsL]
            change quietTo _ _ _ _ (Sem.run _ (execOp (Act.eval _) _) _)
            try simp only [Act.put, List.setIfInBounds_toArray, List.set_cons_succ, List.set_cons_zero]
            simp [go_sem, quietTo, Ext.refl]
            all_goals first
              | rfl
          refine fac_quiet 3 rfl rfl rfl (fun _ _ h _ => h) rfl rfl ?_
          apply Exists.intro
          refine ⟨fun sv w' hw' hfa => ?_, ?_⟩
          · obtain ⟨f1, f2, -⟩ := hfa
            replace f1 : sv 1 = _ := f1
            try dsimp only at f1
            replace f2 : sv 2 = _ := f2
            try dsimp only at f2
            have hk9 := (Ext.refl W3).drew.trans hw'; have z1 := ((hE3.trans hk9).walk.1 _ _ lq).trans ca; have z2 := ((hE3.trans hk9).walk.1 _ _ lq).trans cb
            refine ⟨rfl, ?_⟩
            simp only [putsL]
            change quietTo _ _ _ _ (Sem.run _ (execOp (Act.eval (Act.put (Act.put _ (some 29) (sv 2)) (some 28) (sv 1))) _) _)
            try simp only [Act.put, List.setIfInBounds_toArray, List.set_cons_succ, List.set_cons_zero]
            simp [go_sem, quietTo, Ext.refl, ↓IntWalk.iteOmega, f1, f2, hltI]
            all_goals try simp (disch := omega) only [IntWalk.i64_in]
            all_goals first
              | rfl
          refine fac_quiet 4 rfl rfl rfl (fun _ _ h _ => h) rfl rfl ?_
          apply Exists.intro
          refine ⟨fun sv w' hw' hfa => ?_, ?_⟩
          · obtain ⟨_, _, f3, -⟩ := hfa
            replace f3 : sv 3 = _ := f3
            try dsimp only at f3
            have hk9 := (Ext.refl W3).drew.trans hw'; have z1 := ((hE3.trans hk9).walk.1 _ _ lq).trans ca; have z2 := ((hE3.trans hk9).walk.1 _ _ lq).trans cb
            refine ⟨rfl, ?_⟩
            simp only [putsL]
            change quietTo _ _ _ _ (Sem.run _ (execOp (Act.eval (Act.put (Act.put (Act.put _ (some 30) (sv 3)) (some 29) (sv 2)) (some 28) (sv 1))) _) _)
            try simp only [Act.put, List.setIfInBounds_toArray, List.set_cons_succ, List.set_cons_zero]
            simp [go_sem, quietTo, Ext.refl, ↓IntWalk.iteOmega, f3, z1]
            all_goals try simp (disch := omega) only [IntWalk.i64_in]
            all_goals first
              | rfl
          refine fac_quiet 5 rfl rfl rfl (fun _ _ h _ => h) rfl rfl ?_
          apply Exists.intro
          refine ⟨fun sv w' hw' hfa => ?_, ?_⟩
          · refine ⟨rfl, ?_⟩
            simp only [putsL]
            change quietTo _ _ _ _ (Sem.run _ (execOp (Act.eval _) _) _)
            try simp only [Act.put, List.setIfInBounds_toArray, List.set_cons_succ, List.set_cons_zero]
            simp [go_sem, quietTo, Ext.refl]
            all_goals first
              | rfl
          refine fac_quiet 6 rfl rfl rfl (fun _ _ h _ => h) rfl rfl ?_
          apply Exists.intro
          refine ⟨fun sv w' hw' hfa => ?_, ?_⟩
          · refine ⟨rfl, ?_⟩
            simp only [putsL]
            change quietTo _ _ _ _ (Sem.run _ (execOp (Act.eval _) _) _)
            try simp only [Act.put, List.setIfInBounds_toArray, List.set_cons_succ, List.set_cons_zero]
            simp [go_sem, quietTo, Ext.refl]
            all_goals first
              | rfl
          refine fac_quiet 7 rfl rfl rfl (fun _ _ h _ => h) rfl rfl ?_
          apply Exists.intro
          refine ⟨fun sv w' hw' hfa => ?_, ?_⟩
          · obtain ⟨f6, -⟩ := hfa
            replace f6 : sv 6 = _ := f6
            try dsimp only at f6
            refine ⟨rfl, ?_⟩
            simp only [putsL]
            change quietTo _ _ _ _ (Sem.run _ (execOp (Act.eval (Act.put _ (some 33) (sv 6))) _) _)
            try simp only [Act.put, List.setIfInBounds_toArray, List.set_cons_succ, List.set_cons_zero]
            simp [go_sem, quietTo, Ext.refl, ↓IntWalk.iteOmega, f6]
            all_goals try simp (disch := omega) only [IntWalk.i64_in]
            all_goals first
              | rfl
          refine fac_quiet 8 rfl rfl rfl (fun _ _ h _ => h) rfl rfl ?_
          apply Exists.intro
          refine ⟨fun sv w' hw' hfa => ?_, ?_⟩
          · obtain ⟨f5, _, f7, -⟩ := hfa
            replace f5 : sv 5 = _ := f5
            try dsimp only at f5
            replace f7 : sv 7 = _ := f7
            try dsimp only at f7
            have hk9 := (Ext.refl W3).drew.trans hw'; have z1 := ((hE3.trans hk9).walk.1 _ _ lq).trans ca; have z2 := ((hE3.trans hk9).walk.1 _ _ lq).trans cb
            refine ⟨rfl, ?_⟩
            simp only [putsL]
            change quietTo _ _ _ _ (Sem.run _ (execOp (Act.eval (Act.put (Act.put (Act.put _ (some 34) (sv 7)) (some 33) (sv 6)) (some 32) (sv 5))) _) _)
            try simp only [Act.put, List.setIfInBounds_toArray, List.set_cons_succ, List.set_cons_zero]
            simp [go_sem, quietTo, Ext.refl, ↓IntWalk.iteOmega, f5, f7, hltI2]
            all_goals try simp (disch := omega) only [IntWalk.i64_in]
            all_goals first
              | rfl
          refine fac_quiet 9 rfl rfl rfl (fun _ _ h _ => h) rfl rfl ?_
          apply Exists.intro
          refine ⟨fun sv w' hw' hfa => ?_, ?_⟩
          · obtain ⟨_, _, _, f8, -⟩ := hfa
            replace f8 : sv 8 = _ := f8
            try dsimp only at f8
            have hk9 := (Ext.refl W3).drew.trans hw'; have z1 := ((hE3.trans hk9).walk.1 _ _ lq).trans ca; have z2 := ((hE3.trans hk9).walk.1 _ _ lq).trans cb
            refine ⟨rfl, ?_⟩
            simp only [putsL]
            change quietTo _ _ _ _ (Sem.run _ (execOp (Act.eval (Act.put (Act.put (Act.put (Act.put _ (some 35) (sv 8)) (some 34) (sv 7)) (some 33) (sv 6)) (some 32) (sv 5))) _) _)
            try simp only [Act.put, List.setIfInBounds_toArray, List.set_cons_succ, List.set_cons_zero]
            simp [go_sem, quietTo, Ext.refl, ↓IntWalk.iteOmega, f8, z2]
            all_goals try simp (disch := omega) only [IntWalk.i64_in]
            all_goals first
              | rfl
          refine fac_quiet 10 rfl rfl rfl (fun _ _ h _ => h) rfl rfl ?_
          apply Exists.intro
          refine ⟨fun sv w' hw' hfa => ?_, ?_⟩
          · obtain ⟨_, _, _, f4, _, _, _, _, f9, -⟩ := hfa
            replace f4 : sv 4 = _ := f4
            try dsimp only at f4
            replace f9 : sv 9 = _ := f9
            try dsimp only at f9
            refine ⟨rfl, ?_⟩
            simp only [putsL]
            change quietTo _ _ _ _ (Sem.run _ (execOp (Act.eval (Act.put (Act.put (Act.put (Act.put (Act.put (Act.put (Act.put (Act.put (Act.put _ (some 36) (sv 9)) (some 35) (sv 8)) (some 34) (sv 7)) (some 33) (sv 6)) (some 32) (sv 5)) (some 31) (sv 4)) (some 30) (sv 3)) (some 29) (sv 2)) (some 28) (sv 1))) _) _)
            try simp only [Act.put, List.setIfInBounds_toArray, List.set_cons_succ, List.set_cons_zero]
            simp [go_sem, quietTo, Ext.refl, ↓IntWalk.iteOmega, f4, f9]
            all_goals try simp (disch := omega) only [IntWalk.i64_in]
            all_goals first
              | rfl
          refine fac_any 11 rfl rfl rfl (fun _ _ h _ => h) ?_
          refine ⟨(fun y u => ∃ q d, y 11 = .slice q cs.length d ∧ Slc 4 i4C w q cs.length d cs), fun sv w' hw' hfa => ?_, ?_, ?_⟩
          · obtain ⟨f0, f1, f2, f3, f4, f5, f6, f7, f8, f9, f10, -⟩ := hfa
            replace f0 : sv 0 = _ := f0
            try dsimp only at f0
            replace f1 : sv 1 = _ := f1
            try dsimp only at f1
            replace f2 : sv 2 = _ := f2
            try dsimp only at f2
            replace f3 : sv 3 = _ := f3
            try dsimp only at f3
            replace f4 : sv 4 = _ := f4
            try dsimp only at f4
            replace f5 : sv 5 = _ := f5
            try dsimp only at f5
            replace f6 : sv 6 = _ := f6
            try dsimp only at f6
            replace f7 : sv 7 = _ := f7
            try dsimp only at f7
            replace f8 : sv 8 = _ := f8
            try dsimp only at f8
            replace f9 : sv 9 = _ := f9
            try dsimp only at f9
            replace f10 : sv 10 = _ := f10
            try dsimp only at f10
            have hk9 := (Ext.refl W3).drew.trans hw'; have z1 := ((hE3.trans hk9).walk.1 _ _ lq).trans ca; have z2 := ((hE3.trans hk9).walk.1 _ _ lq).trans cb
            refine ⟨rfl, ?_⟩
            simp only [putsL]
            change outc _ _ (Sem.run _ (execOp (Act.eval (Act.put (Act.put (Act.put (Act.put (Act.put (Act.put (Act.put (Act.put (Act.put (Act.put (Act.put _ (some 37) (sv 10)) (some 36) (sv 9)) (some 35) (sv 8)) (some 34) (sv 7)) (some 33) (sv 6)) (some 32) (sv 5)) (some 31) (sv 4)) (some 30) (sv 3)) (some 29) (sv 2)) (some 28) (sv 1)) (some 27) (sv 0))) _) _)
            try simp only [Act.put, List.setIfInBounds_toArray, List.set_cons_succ, List.set_cons_zero]
            simp [go_sem, outc, f0, f10]
            refine (hcho.out _ (hE3.trans hk9)).mono ?_
            rintro e w9 ⟨q, d, rfl, hS, hb9⟩
            exact ⟨_, rfl, hb9, q, d, rfl, hS⟩
          · exact fun x w w' ⟨q, d, h1, h2⟩ he => ⟨q, d, h1, h2⟩
          refine fac_quiet 12 rfl rfl rfl (fun _ _ h _ => h) rfl rfl ?_
          apply Exists.intro
          refine ⟨fun sv w' hw' hfa => ?_, ?_⟩
          · obtain ⟨_, _, _, _, _, _, _, _, _, _, _, f11, -⟩ := hfa
            obtain ⟨qc, dc, f11, hSc⟩ := f11
            replace f11 : sv 11 = _ := f11
            refine ⟨rfl, ?_⟩
            simp only [putsL]
            change quietTo _ _ _ _ (Sem.run _ (execOp (Act.eval (Act.put (Act.put (Act.put (Act.put (Act.put (Act.put (Act.put (Act.put (Act.put (Act.put (Act.put (Act.put _ (some 38) (sv 11)) (some 37) (sv 10)) (some 36) (sv 9)) (some 35) (sv 8)) (some 34) (sv 7)) (some 33) (sv 6)) (some 32) (sv 5)) (some 31) (sv 4)) (some 30) (sv 3)) (some 29) (sv 2)) (some 28) (sv 1)) (some 27) (sv 0))) _) _)
            try simp only [Act.put, List.setIfInBounds_toArray, List.set_cons_succ, List.set_cons_zero]
            simp [go_sem, quietTo, Ext.refl, ↓IntWalk.iteOmega, f11]
            all_goals try simp (disch := omega) only [IntWalk.i64_in]
            all_goals first
              | rfl
          refine fac_late 13 rfl rfl Ext.refl (fun _ _ h _ => h) rfl rfl (fun _ _ _ _ h => h) ?_
          apply Exists.intro
          refine ⟨fun sv w' hw' hfa => ?_, ?_⟩
          · refine ⟨rfl, fun w2 => ?_⟩
            simp only [putsL]
            change pureTo _ _ (Sem.run _ (execOp (Act.eval _) _) _)
            try simp only [Act.put, List.setIfInBounds_toArray, List.set_cons_succ, List.set_cons_zero]
            simp [go_sem, pureTo]
            all_goals try simp (disch := omega) only [IntWalk.i64_in]
            all_goals first
              | rfl
          refine fac_nil fun xq wrq herq hfrq hcrq holdq hapq => ?_
          obtain ⟨f0, f1, f2, f3, f4, f5, f6, f7, f8, f9, f10, f11, f12, f13, -⟩ := hfrq
          replace f0 : xq 0 = _ := f0
          try dsimp only at f0
          replace f1 : xq 1 = _ := f1
          try dsimp only at f1
          replace f2 : xq 2 = _ := f2
          try dsimp only at f2
          replace f3 : xq 3 = _ := f3
          try dsimp only at f3
          replace f4 : xq 4 = _ := f4
          try dsimp only at f4
          replace f5 : xq 5 = _ := f5
          try dsimp only at f5
          replace f6 : xq 6 = _ := f6
          try dsimp only at f6
          replace f7 : xq 7 = _ := f7
          try dsimp only at f7
          replace f8 : xq 8 = _ := f8
          try dsimp only at f8
          replace f9 : xq 9 = _ := f9
          try dsimp only at f9
          replace f10 : xq 10 = _ := f10
          try dsimp only at f10
          obtain ⟨qc, dc, f11, hSc⟩ := f11
          replace f11 : xq 11 = _ := f11
          replace f12 : xq 12 = _ := f12
          try dsimp only at f12
          replace f13 : xq 13 = _ := f13
          try dsimp only at f13
          change wpList _ _ _ _ (Act.put (Act.put (Act.put (Act.put (Act.put (Act.put (Act.put (Act.put (Act.put (Act.put (Act.put (Act.put (Act.put (Act.put _ (some 27) (xq 0)) (some 28) (xq 1)) (some 29) (xq 2)) (some 30) (xq 3)) (some 31) (xq 4)) (some 32) (xq 5)) (some 33) (xq 6)) (some 34) (xq 7)) (some 35) (xq 8)) (some 36) (xq 9)) (some 37) (xq 10)) (some 38) (xq 11)) (some 39) (xq 12)) (some 40) (xq 13)) _
          simp only [putsL, Nat.reduceAdd, List.drop_succ_cons, List.drop_zero, List.drop_nil, Act.put, List.setIfInBounds_toArray, List.set_cons_succ, List.set_cons_zero]
          try simp only [f0, f1, f2, f3, f4, f5, f6, f7, f8, f9, f10, f11, f12, f13]
          clear f0 f1 f2 f3 f4 f5 f6 f7 f8 f9 f10 f12 f13
          clear holdq hapq
          have hkq := (Ext.refl W3).drew.trans herq
          have hXq := hXa.ext hkq
          have hEq := hE3.trans hkq
          have hoq := own_ext hkq ho3.out
          have hGq := hG.out.q (y := x)
          replace hoq := Lib.hid hoq
          have hcs9 : cs.length ≤ 1000000000 := hSc.1.2.1
          replace hGq := Lib.hid hGq
          replace hSc := Lib.hid hSc
          clear herq hkq hXa hE3 ho3 hG
          go_wp2
          generalize wrq = W4 at *
          go_loopw [7, 40] (fun v7 v40 wr => ∃ (j : Nat) (S : List I4), v40 = .int .i64 j ∧ j ≤ cs.length ∧ wr.ownsRow W2.heap.size 30 4 v7 S.length (S.flatMap i4C) ∧ v7.ownBlock ≠ some gX ∧ S.Nodup ∧ GatQ R cs k j x S ∧ Blk wr gX 30 #[.int .i64 x.a, .int .i64 x.b, .int .i64 x.c, .int .i64 x.d] ∧ Ext W2 wr) (fun _ v40 _ => cs.length - (intOf v40).toNat)
          case atStart => exact ⟨0, S, rfl, Nat.zero_le _, hoq.out, hne9, hSn.out, hGq.out, hXq, hEq⟩
          case round =>
            clear hXq hEq hoq hGq
            obtain ⟨j, S, rfl, hj, hown, hne, hSn, hG, hX, hE4⟩ := hrel
            by_cases hlj : j < cs.length
            · obtain ⟨cc, hcc⟩ := getD_some (rfl : cs.length = cs.length) hlj
              obtain ⟨-, ⟨-, e9⟩ | ⟨cb9, co9, rfl, hcb, hCe⟩⟩ := slcC hSc.out
              · rw [e9] at hcc; cases hcc
              have hEw := hE.trans hE4
              obtain ⟨c1, c2, c3, c4⟩ := (hCe.ext hEw hcb).iv hcc
              have lc := Nat.lt_of_lt_of_le hcb hEw.size
              have hccr := hCR _ (List.mem_of_getElem? hck.out) cc (List.mem_of_getElem? hcc)
              have hjI : (j : Int) < cs.length := by omega
              obtain ⟨y1, -⟩ := hX.walk
              have y2 := hX.lt
              have hpl : ∀ u, Calls Tryd.prog 27 #[.agg #[.int .i64 x.a, .int .i64 x.b, .int .i64 x.c, .int .i64 x.d], .agg #[.int .i64 cc.a, .int .i64 cc.b, .int .i64 cc.c, .int .i64 cc.d], .int .i64 1] u fun e w' => e = .returned (.agg #[.int .i64 (addI x cc).a, .int .i64 (addI x cc).b, .int .i64 (addI x cc).c, .int .i64 (addI x cc).d]) ∧ Ext u w' := fun u => by
                have h9 := plus_any x cc 1 u
                rw [plus1_is hxr hccr] at h9
                exact h9
              obtain ⟨z, hzd⟩ : ∃ z, addI x cc = z := ⟨_, rfl⟩
              rw [hzd] at hpl
              have hif := fun u => intervalFault_any z u
              have hSb := part_few hnc.out (show i < C.length by have := hCl.out; omega) hck.out hR.out hSn (hG.in_ hx.out)
              have hCr : Blk (wr.alloc (.cells #[.int .i64 cc.a, .int .i64 cc.b, .int .i64 cc.c, .int .i64 cc.d] 30)) wr.heap.size 30 #[.int .i64 cc.a, .int .i64 cc.b, .int .i64 cc.c, .int .i64 cc.d] := Blk.new' rfl
              obtain ⟨sp, sc, rfl, hSS⟩ := slc_of_own i4C_len hown (by decide) (by omega)
              replace hpl := Lib.hid hpl
              replace hif := Lib.hid hif
              replace hG := Lib.hid hG
              replace hSn := Lib.hid hSn
              replace hcc := Lib.hid hcc
              replace hzd := Lib.hid hzd
              clear hCe hccr hCr
              go_upto_region 13 with (go_at_call 27; go_loud ((with_reducible refine Calls.mono (hpl.out _) ?_); rintro e w5 ⟨rfl, hb5⟩))
              have hE6 : Ext wr (w5.alloc (.cells #[.int .i64 z.a, .int .i64 z.b, .int .i64 z.c, .int .i64 z.d] 30)) := (((Ext.refl _).alloc _).trans hb5).alloc _
              have hzB : Blk (w5.alloc (.cells #[.int .i64 z.a, .int .i64 z.b, .int .i64 z.c, .int .i64 z.d] 30)) w5.heap.size 30 #[.int .i64 z.a, .int .i64 z.b, .int .i64 z.c, .int .i64 z.d] := Blk.new' rfl
              clear hb5 y1 y2 c1 c2 c3 c4 lc
              generalize w5.alloc (.cells #[.int .i64 z.a, .int .i64 z.b, .int .i64 z.c, .int .i64 z.d] 30) = W6 at *
              generalize w5.heap.size = gz at *
              obtain ⟨y1, -⟩ := hzB.walk
              have y2 := hzB.lt
              by_cases hr : rightB z = true
              · have hf0 : faultI z = 0 := by unfold faultI; rw [hr]; rfl
                have hif2 := hif.out
                simp only [hf0] at hif2
                replace hif2 := Lib.hid hif2
                have hco : ∀ u, Ext W6 u → Calls Tryd.prog 28 #[.slice sp S.length sc, .agg #[.int .i64 z.a, .int .i64 z.b, .int .i64 z.c, .int .i64 z.d]] u fun e w' => e = .returned (.bool (decide (z ∈ S))) ∧ Ext u w' := fun u hu => contains4_any sp S.length sc S z u (hSS.ext (hE6.trans hu)) (by omega)
                have hin2 : decide (z ∈ S) = true ∨ decide (z ∈ S) = false := by cases decide (z ∈ S) <;> simp
                rcases hin2 with hin | hin
                · rw [hin] at hco
                  have hmz : z ∈ S := of_decide_eq_true hin
                  replace hco := Lib.hid hco
                  clear hin
                  go_wp2_with (first
                    | (go_at_call 14; go_loud ((with_reducible refine Calls.mono (hif2.out _) ?_); rintro e w7 ⟨rfl, hb7⟩; have hz7 := hzB.ext hb7; obtain ⟨y3, -⟩ := hz7.walk; have y4 := hz7.lt))
                    | (go_at_call 28; go_loud ((with_reducible refine Calls.mono (hco.out _ hb7) ?_); rintro e w8 ⟨rfl, hb8⟩)))
                  have hE8 := hE6.trans (hb7.trans hb8)
                  go_roundw
                  case rel => exact ⟨j + 1, S, by go_num, by omega, own_ext hE8 hown, hne, hSn.out, hG.out.skip hcc.out (.inr (hzd.out ▸ hmz)), hX.ext hE8, hE4.trans hE8⟩
                  case measure => simp [intOf]; omega
                · rw [hin] at hco
                  have hmz : z ∉ S := of_decide_eq_false hin
                  replace hco := Lib.hid hco
                  clear hin
                  go_wp2_with (first
                    | (go_at_call 14; go_loud ((with_reducible refine Calls.mono (hif2.out _) ?_); rintro e w7 ⟨rfl, hb7⟩; have hz7 := hzB.ext hb7; obtain ⟨y3, -⟩ := hz7.walk; have y4 := hz7.lt))
                    | (go_at_call 28; go_loud ((with_reducible refine Calls.mono (hco.out _ hb7) ?_); rintro e w8 ⟨rfl, hb8⟩; have hz8 := hz7.ext hb8; obtain ⟨y5, -⟩ := hz8.walk; have y6 := hz8.lt; have hE8 := (hE6.trans (hb7.trans hb8)).alloc (.cells #[.int .i64 z.a, .int .i64 z.b, .int .i64 z.c, .int .i64 z.d] 30); have ho8 := own_ext hE8 hown; have hb9 : W2.heap.size ≤ (w8.alloc (.cells #[.int .i64 z.a, .int .i64 z.b, .int .i64 z.c, .int .i64 z.d] 30)).heap.size := (hE4.trans hE8).size))
                    | (at_builtin; go_loud (refine wp_appL _ (.tmp 56) (.tmp 58) 35 30 4 32 _ rfl rfl Tryd.underlying35 ivInfo rfl (by decide) (by decide) W2.heap.size sp S.length sc _ rfl ho8 w8.heap.size (i4C z) rfl rfl (Blk.new' rfl) (i4C_one z) (by omega) hb9 ?_; intro b9 c9 w9 hown9 hgrow9 hpl9)))
                  have hsn : (S ++ [z]).flatMap i4C = S.flatMap i4C ++ i4C z := by rw [List.flatMap_append]; rfl
                  have hnd2 : (S ++ [z]).Nodup := List.nodup_append.2 ⟨hSn.out, by simp, fun a ha b hb e => by rw [List.mem_singleton] at hb; subst hb; subst e; exact hmz ha⟩
                  have hX8 := hX.ext hE8
                  have hX9 : Blk w9 gX 30 #[.int .i64 x.a, .int .i64 x.b, .int .i64 x.c, .int .i64 x.d] := (hgrow9.block gX hX8.lt fun e => hne e.symm).trans hX8
                  have hE9 : Ext W2 w9 := (hE4.trans hE8).grown hgrow9 fun q e => (ho8.lt _ e).1
                  have hGp := hG.out.put hcc.out (show rightB (addI x cc) = true by rw [hzd.out]; exact hr)
                  rw [hzd.out] at hGp
                  have hlen : (S ++ [z]).length = S.length + 1 := by simp
                  have hown10 : w9.ownsRow W2.heap.size 30 4 (.slice (some ⟨b9, 0, none⟩) (S.length + 1) c9) (S ++ [z]).length ((S ++ [z]).flatMap i4C) := by rw [hlen, hsn]; exact hown9
                  have hne10 : (Value.slice (some ⟨b9, 0, none⟩) (S.length + 1) c9).ownBlock ≠ some gX := fun e => by
                    have e1 : b9 = gX := by simpa [Value.ownBlock] using e
                    rcases hpl9 with h1 | rfl
                    · have := hX8.lt; simp only [World.size_alloc] at this h1; have := hX.lt; have := (hE6.trans (hb7.trans hb8)).size; omega
                    · exact hne (by rw [e1]; rfl)
                  go_roundw
                  case rel => exact ⟨j + 1, S ++ [z], by go_num, by omega, hown10, hne10, hnd2, hGp, hX9, hE9⟩
                  case measure => simp [intOf]; omega
              · have hrf : rightB z = false := by simpa using hr
                have hf0 : faultI z = 1 := by unfold faultI; rw [hrf]; rfl
                have hif2 := hif.out
                simp only [hf0] at hif2
                replace hif2 := Lib.hid hif2
                go_wp2_with (go_at_call 14; go_loud ((with_reducible refine Calls.mono (hif2.out _) ?_); rintro e w7 ⟨rfl, hb7⟩))
                have hE8 := hE6.trans hb7
                go_roundw
                case rel => exact ⟨j + 1, S, by go_num, by omega, own_ext hE8 hown, hne, hSn.out, hG.out.skip hcc.out (.inl (by rw [hzd.out]; exact hrf)), hX.ext hE8, hE4.trans hE8⟩
                case measure => simp [intOf]; omega
            · obtain rfl : j = cs.length := by omega
              have hGp := hG.p hx.out
              replace hGp := Lib.hid hGp
              replace hown := Lib.hid hown
              replace hSn := Lib.hid hSn
              clear hG
              go_wp2
              go_roundw
              case rel => exact ⟨k + 1, S, by go_num, by omega, hown.out, hSn.out, hGp.out, hE4⟩
              case measure => simp [intOf]; omega
        · obtain rfl : k = R.length := by omega
          have hnx := rch_next hck.out hR.out (by have hG9 := hG; unfold GatP at hG9; rw [List.take_length] at hG9; exact hG9)
          have ho9 := own_low hown hE.size
          replace hnx := Lib.hid hnx
          go_wp2
          go_roundw
          case rel => exact ⟨i + 1, S, by go_num, by omega, ho9, hSn, hnx.out, hE.trans hE2⟩
          case measure => simp [intOf]; omega
    · have hltI : ¬ (i : Int) + 1 < m.length := by have := hK.out; omega
      obtain rfl : i = K := by omega
      have hrt : ∀ x ∈ R, rightB x = true := fun x hx => rch_right ((hR x).1 hx)
      have hfew : R.length ≤ 20000 := Nat.le_of_not_lt fun hl => hnc.out ⟨i, R, by have := hCl.out; omega, hnd, fun x hx => (hR x).1 hx, hl⟩
      have hR' : ∀ x, x ∈ R ↔ Rch C C.length x := by rw [hCl.out]; exact hR
      replace hR' := Lib.hid hR'
      clear hR
      by_cases hz : R.length = 0
      · obtain rfl : R = [] := List.eq_nil_of_length_eq_zero hz
        have hv : u5 = .slice none 0 0 ∨ ∃ g cap, u5 = .slice (some ⟨g, 0, none⟩) 0 cap := by
          rcases hown.2 with ⟨hv, _⟩ | ⟨g, cap, cur, hv, _⟩
          · exact .inl hv
          · exact .inr ⟨g, cap, hv⟩
        have hso : ∀ u fv, Calls Tryd.prog 29 #[u5, fv] u fun e w' => e = .returned (.tuple #[]) ∧ u = w' := fun u fv => by
          rcases hv with rfl | ⟨g, cap, rfl⟩
          · exact sortNone_any _ _ _ _
          · exact sortNone_any _ _ _ _
        replace hso := Lib.hid hso
        go_wp2_with (go_at_call 29; (with_reducible refine Calls.mono (hso.out _ _) ?_); rintro ex w9 ⟨rfl, rfl⟩)
        go_ret
        exact ⟨hE, _, [], rfl, hown, List.Pairwise.nil, hR'.out, by simp⟩
      · obtain ⟨g, cap, rfl, hgb, -⟩ := hown.form (by omega)
        have hso := sortH_any hown rfl (by omega) hrt hnd
        replace hso := Lib.hid hso
        go_wp2_with (go_at_call 29; (with_reducible refine Calls.mono hso.out ?_); rintro ex w9 ⟨rfl, M, hp, hri, ho9, hx9⟩)
        go_ret
        have hMl : M.length = R.length := hp.length_eq
        exact ⟨hx9 w hE hgb, _, M, rfl, by rw [hMl]; exact ho9, hri, fun x => by rw [hp.mem_iff]; exact hR'.out x, by omega⟩
end Go.Proofs.YtapjekpjekdlkaaDoor
