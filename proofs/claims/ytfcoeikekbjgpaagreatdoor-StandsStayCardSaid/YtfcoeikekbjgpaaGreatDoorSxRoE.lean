/- People on a stage by their height, by both texts: the walks. Conditions: people and the stage are right. -/
import Derived.Test.YtfcoeikekbjgpaaGreatDoorSxRoD
set_option linter.unusedSimpArgs false
set_option linter.unusedVariables false
namespace Go.Proofs.YtfcoeikekbjgpaaGreatDoor
open Go Go.RowKit

theorem manyL_take {wide : List Int} {n r : Nat} (h : r < wide.length) : (manyL wide n wide.length)[r]? = some (takeN wide n r : Int) := manyL_at h
/-- What is left of people, cut behind those of a row. -/
theorem rest_cut {w : World} {wide : List Int} {M : List PersonV} {r : Nat} {q : Option Addr} {c : Nat} (h : Slc 3 perC w q (leftN wide M.length r) c (restP wide M r)) : ∃ (q' : Option Addr), Slc 3 perC w q' (leftN wide M.length (r + 1)) (c - takeN wide M.length r) (restP wide M (r + 1)) ∧
    ((q = none ∧ q' = none) ∨ ∃ b off, q = some ⟨b, off, none⟩ ∧ (takeN wide M.length r = c ∧ q' = q ∨ takeN wide M.length r < c ∧ q' = some ⟨b, off + takeN wide M.length r * 3, none⟩)) := by
  have h1 := takeN_le wide M.length r
  have h2 : leftN wide M.length (r + 1) = leftN wide M.length r - takeN wide M.length r := leftN_succ _ _ _
  have h3 := h.2.1
  rw [h2, restP_succ]
  cases q with
  | none =>
    have h0 := h.2.2.1 rfl
    have hx : restP wide M r = [] := List.eq_nil_of_length_eq_zero (by rw [restP_len]; exact h0)
    rw [hx, h0]
    refine ⟨none, ?_, .inl ⟨rfl, rfl⟩⟩
    rw [List.drop_nil, Nat.zero_sub]
    exact ⟨(h.empty (d := 0)).1, Nat.zero_le _, fun _ => rfl, fun a ha => by cases ha⟩
  | some a =>
    obtain ⟨b, off, rfl, hb⟩ := h.2.2.2 a rfl
    by_cases hc : takeN wide M.length r = c
    · have e : leftN wide M.length r - takeN wide M.length r = 0 := by omega
      have e2 : (restP wide M r).drop (takeN wide M.length r) = [] := List.drop_eq_nil_of_le (by rw [restP_len]; omega)
      rw [e, e2]
      exact ⟨_, h.empty (d := c - takeN wide M.length r) |> fun k => ⟨k.1, Nat.zero_le _, k.2.2⟩, .inr ⟨b, off, rfl, .inl ⟨hc, rfl⟩⟩⟩
    · exact ⟨_, h.dropS h1, .inr ⟨b, off, rfl, .inr ⟨by omega, rfl⟩⟩⟩
theorem head_cut {w : World} {wide : List Int} {M : List PersonV} {r : Nat} {q : Option Addr} {c : Nat} (h : Slc 3 perC w q (leftN wide M.length r) c (restP wide M r)) : Slc 3 perC w q (headP wide M r).length c (headP wide M r) := by
  rw [headP_len]
  exact h.takeZ (takeN_le _ _ _)

theorem bhL_bound (wide : List Int) (M : List PersonV) (r : Nat) : (bhL wide M r).length ≤ M.length := by rw [bhL_len]; omega

section
variable {w : World} {pp : Option Addr} {pc : Nat} {P : List PersonV} {wp : Option Addr} {wcap : Nat} {wide : List Int} {hp : Option Addr} {hc : Nat} {high : List Int}
set_option maxRecDepth 100000 in
set_option maxHeartbeats 6400000 in
theorem byHeightS_own (h : PsM w pp pc P wp wcap wide hp hc high none 0 []) (ho : ostF P wide high = 0) (hf : fullF P wide = 0) (hP : P.length ≤ 19) :
    Calls Tryz.prog 14 #[.slice pp P.length pc, .agg #[.slice wp wide.length wcap, .slice hp high.length hc]] w fun e w' => ∃ (v : Value) (M : List PersonV), e = .returned (.tuple #[v, .int .i64 0]) ∧ ByH P M ∧ w'.ownsRow w.heap.size 48 3 v (bhL wide M wide.length).length ((bhL wide M wide.length).flatMap staC) ∧ (bhL wide M wide.length).length ≤ 1000 ∧ Ext w w' := by
  have hE0 : Ext w (w.alloc (.cells #[.slice wp wide.length wcap, .slice hp high.length hc] 29)) := (Ext.refl _).alloc _
  have hB0 : Blk (w.alloc (.cells #[.slice wp wide.length wcap, .slice hp high.length hc] 29)) w.heap.size 29 #[.slice wp wide.length wcap, .slice hp high.length hc] := Blk.new' rfl
  obtain ⟨hpo, hwo⟩ : PeopleOk P ∧ WideOk wide := by
    have e := ho
    unfold ostF at e
    by_cases hp0 : peopleF P = 0
    · rw [if_pos hp0] at e; exact ⟨peopleF_ok hp0, (stageF_ok e).1⟩
    · rw [if_neg hp0] at e; exact absurd e hp0
  have hfu := fun u (hu : Ext w u) => full_any pp pc P wp wcap wide hp hc high u (h.more hu) (fun _ => hwo)
  simp only [if_pos ho, hf] at hfu
  have hby := fun u (hu : Ext w u) => byHeight_any pp pc P u (h.per.ext hu) hP hpo
  have hma := fun u (hu : Ext w u) => many_any wp wcap wide hp high.length hc P.length (by omega) u (h.wid.ext hu) hwo
  have hw10 := hwo.1
  replace hfu := Lib.hid hfu
  replace hby := Lib.hid hby
  replace hma := Lib.hid hma
  have hwid := h.wid
  replace hwo := Lib.hid hwo
  clear ho hf h hpo
  go_enter Tryz.func14, Tryz.ntmps14
  go_wp2_with (first
    | (go_at_call 35; (with_reducible refine Calls.mono (hfu.out _ hE0) ?_); rintro e w1 ⟨rfl, hb1⟩; have E1 := hE0.trans hb1)
    | (go_at_call 36; (with_reducible refine Calls.mono (hby.out _ E1) ?_); rintro e w2 ⟨q, d, M, rfl, hM, hSM, -, hb2⟩; have E2 := E1.trans hb2; obtain ⟨y2, -⟩ := (hB0.ext (hb1.trans hb2)).walk; have ly2 := (hB0.ext (hb1.trans hb2)).lt; replace hM := Lib.hid hM)
    | (go_at_call 37; (with_reducible refine Calls.mono (hma.out _ E2) ?_); rintro e w3 ⟨mq, mc, rfl, hSm, -, hb3⟩))
  have hE3 := E2.trans hb3
  have hB3 := (hB0.ext (hb1.trans hb2)).ext hb3
  have hSM3 := hSM.ext hb3
  have hML : M.length = P.length := hM.out.1.length_eq
  rw [← hML] at hSM3 hSm
  have hW3 := hwid.ext hE3
  rw [← hML]
  have hM19 : M.length ≤ 19 := by omega
  clear hfu hby hma hE0 hB0 hb1 E1 hb2 E2 y2 ly2 hb3 hSM hwid hML hP
  obtain ⟨z0, -⟩ := hB3.walk
  have zl := hB3.lt
  replace hM := Lib.hid hM
  replace hSm := Lib.hid hSm
  rename_i w3
  go_loopw [8, 7, 24] (fun v8 v7 v24 wr => ∃ (r : Nat) (q7 : Option Addr) (c7 : Nat), v24 = .int .i64 r ∧ r ≤ wide.length ∧ v7 = .slice q7 (leftN wide M.length r) c7 ∧ Slc 3 perC w3 q7 (leftN wide M.length r) c7 (restP wide M r) ∧ wr.ownsRow w3.heap.size 48 3 v8 (bhL wide M r).length ((bhL wide M r).flatMap staC) ∧ Ext w3 wr) (fun _ _ v24 _ => wide.length - (intOf v24).toNat)
  case atStart => exact ⟨0, q, d, rfl, Nat.zero_le _, rfl, by rw [restP_zero]; exact hSM3, World.ownsRow_nil _ _ _ _, Ext.refl _⟩
  case round =>
    obtain ⟨r, q7, c7, rfl, hr, rfl, hS7, hown, hE⟩ := hrel
    by_cases hlt : r < wide.length
    · have hrI : (r : Int) < wide.length := by omega
      rcases (slcC hSm.out).2 with ⟨-, e⟩ | ⟨mb, mo, rfl, hmb, hml⟩
      · have := manyL_len wide M.length wide.length
        rw [e] at this
        simp at this
        omega
      have c22 := (hml.ext hE hmb).int (manyL_take hlt)
      have lm := Nat.lt_of_lt_of_le hmb hE.size
      clear hml
      have hin := fun u (hu : Ext w3 u) => inRow_any (r := r) (hl := high.length) (hp := hp) (hc := hc) (hW3.ext hu) hlt hwo.out ((head_cut hS7).ext hu) (by rw [headP_len]; exact takeN_wide _ _ _)
      simp only [headP_len] at hin
      have hbs := bhL_succ wide M r
      have hRl : (rowP wide r (headP wide M r)).length = takeN wide M.length r := by rw [rowP_len, headP_len]
      obtain ⟨q8, hS8, hq8⟩ := rest_cut hS7
      have htl := takeN_le wide M.length r
      have hll := leftN_le wide M.length r
      have hls := leftN_succ wide M.length r
      have hcc := hS7.2.1
      have hb9 := bhL_bound wide M r
      generalize rowP wide r (headP wide M r) = RP at *
      generalize takeN wide M.length r = tk at *
      have hnone : q7 = none → leftN wide M.length r = 0 := hS7.2.2.1
      generalize leftN wide M.length r = l7 at *
      have htI : (tk : Int) ≤ l7 := by omega
      have hcI : (tk : Int) ≤ c7 := by omega
      replace hin := Lib.hid hin
      replace hbs := Lib.hid hbs
      replace hRl := Lib.hid hRl
      replace hown := Lib.hid hown
      replace hS8 := Lib.hid hS8
      replace hls := Lib.hid hls
      clear hS7
      have hBr := hB3.ext hE
      rcases hq8 with ⟨rfl, rfl⟩ | ⟨b, off, rfl, ⟨rfl, rfl⟩ | ⟨hc9, rfl⟩⟩
      all_goals
        clear hnone
        go_upto_region 9 with fail
        refine wp_region_facts [] [([], false, false), ([], false, false), ([], false, false), ([], false, false), ([], false, false), ([3, 4], false, false), ([1, 2, 3, 4, 5], false, false)] (Ext) Ext (fun _ => True) (by kernel_rfl) (by kernel_rfl) Ext.refl (fun _ _ _ => Ext.trans) (fun _ _ h => h) (fun _ _ h => h.size) (fun _ _ h _ => h) trivial ?_
        dsimp only [List.length_cons, List.length_nil, List.drop_succ_cons, List.drop_zero, List.drop_nil]
        refine fac_quiet 0 rfl rfl rfl (fun _ _ h _ => h) rfl rfl ?_
        apply Exists.intro
        refine ⟨fun sv w' hw' hfa => ?_, ?_⟩
        · refine ⟨rfl, ?_⟩
          simp only [putsL]
          change quietTo _ _ _ _ (Sem.run _ (execOp (Act.eval _) _) _)
          try simp only [Act.put, List.setIfInBounds_toArray, List.set_cons_succ, List.set_cons_zero]
          simp [go_sem, quietTo, Ext.refl]
          all_goals first
            | rfl
        refine fac_quiet 1 rfl rfl rfl (fun _ _ h _ => h) rfl rfl ?_
        apply Exists.intro
        refine ⟨fun sv w' hw' hfa => ?_, ?_⟩
        · have hk9 := (Ext.refl wr).drew.trans hw'; obtain ⟨y1, -⟩ := (hBr.ext hk9).walk
          refine ⟨rfl, ?_⟩
          simp only [putsL]
          change quietTo _ _ _ _ (Sem.run _ (execOp (Act.eval _) _) _)
          try simp only [Act.put, List.setIfInBounds_toArray, List.set_cons_succ, List.set_cons_zero]
          simp [go_sem, quietTo, Ext.refl, ↓IntWalk.iteOmega, y1]
          all_goals try simp (disch := omega) only [IntWalk.i64_in]
          all_goals first
            | rfl
        refine fac_quiet 2 rfl rfl rfl (fun _ _ h _ => h) rfl rfl ?_
        apply Exists.intro
        refine ⟨fun sv w' hw' hfa => ?_, ?_⟩
        · refine ⟨rfl, ?_⟩
          simp only [putsL]
          change quietTo _ _ _ _ (Sem.run _ (execOp (Act.eval _) _) _)
          try simp only [Act.put, List.setIfInBounds_toArray, List.set_cons_succ, List.set_cons_zero]
          simp [go_sem, quietTo, Ext.refl]
          all_goals first
            | rfl
        refine fac_quiet 3 rfl rfl rfl (fun _ _ h _ => h) rfl rfl ?_
        apply Exists.intro
        refine ⟨fun sv w' hw' hfa => ?_, ?_⟩
        · refine ⟨rfl, ?_⟩
          simp only [putsL]
          change quietTo _ _ _ _ (Sem.run _ (execOp (Act.eval _) _) _)
          try simp only [Act.put, List.setIfInBounds_toArray, List.set_cons_succ, List.set_cons_zero]
          simp [go_sem, quietTo, Ext.refl]
          all_goals first
            | rfl
        refine fac_quiet 4 rfl rfl rfl (fun _ _ h _ => h) rfl rfl ?_
        apply Exists.intro
        refine ⟨fun sv w' hw' hfa => ?_, ?_⟩
        · refine ⟨rfl, ?_⟩
          simp only [putsL]
          change quietTo _ _ _ _ (Sem.run _ (execOp (Act.eval _) _) _)
          try simp only [Act.put, List.setIfInBounds_toArray, List.set_cons_succ, List.set_cons_zero]
          simp [go_sem, quietTo, Ext.refl]
          all_goals first
            | rfl
        refine fac_quiet 5 rfl rfl rfl (fun _ _ h _ => h) rfl rfl ?_
        apply Exists.intro
        refine ⟨fun sv w' hw' hfa => ?_, ?_⟩
        · obtain ⟨f3, f4, -⟩ := hfa
          replace f3 : sv 3 = _ := f3
          try dsimp only at f3
          replace f4 : sv 4 = _ := f4
          try dsimp only at f4
          have hk9 := (Ext.refl wr).drew.trans hw'; obtain ⟨y1, -⟩ := (hBr.ext hk9).walk
          refine ⟨rfl, ?_⟩
          simp only [putsL]
          change quietTo _ _ _ _ (Sem.run _ (execOp (Act.eval (Act.put (Act.put _ (some 33) (sv 4)) (some 32) (sv 3))) _) _)
          try simp only [Act.put, List.setIfInBounds_toArray, List.set_cons_succ, List.set_cons_zero]
          simp [go_sem, quietTo, Ext.refl, ↓IntWalk.iteOmega, f3, f4, htI, hcI]
          all_goals try simp (disch := omega) only [IntWalk.i64_in]
          all_goals first
            | rfl
        refine fac_any 6 rfl rfl rfl (fun _ _ h _ => h) ?_
        refine ⟨(fun y u => ∃ (p9 : Option Addr) (c9 : Nat), y 6 = .slice p9 tk c9 ∧ Slc 3 staC u p9 tk c9 RP), fun sv w' hw' hfa => ?_, ?_, ?_⟩
        · obtain ⟨f1, f2, f3, f4, f5, -⟩ := hfa
          replace f1 : sv 1 = _ := f1
          try dsimp only at f1
          replace f2 : sv 2 = _ := f2
          try dsimp only at f2
          replace f3 : sv 3 = _ := f3
          try dsimp only at f3
          replace f4 : sv 4 = _ := f4
          try dsimp only at f4
          replace f5 : sv 5 = _ := f5
          try dsimp only at f5
          have hk9 := (Ext.refl wr).drew.trans hw'; obtain ⟨y1, -⟩ := (hBr.ext hk9).walk
          refine ⟨rfl, ?_⟩
          simp only [putsL]
          change outc _ _ (Sem.run _ (execOp (Act.eval (Act.put (Act.put (Act.put (Act.put (Act.put _ (some 34) (sv 5)) (some 33) (sv 4)) (some 32) (sv 3)) (some 31) (sv 2)) (some 30) (sv 1))) _) _)
          try simp only [Act.put, List.setIfInBounds_toArray, List.set_cons_succ, List.set_cons_zero]
          simp [go_sem, outc, f1, f2, f5]
          with_reducible refine Calls.mono (hin.out _ (hE.trans hk9)) ?_
          rintro e w9 ⟨p9, c9, rfl, hS9, hb9⟩
          exact ⟨_, rfl, hb9, p9, c9, by simp [upd], hS9⟩
        · exact fun x u u' ⟨a1, a2, h1, h2⟩ he => ⟨a1, a2, h1, h2.ext he⟩
        refine fac_nil fun xq wrq herq hfrq hcrq holdq hapq => ?_
        obtain ⟨f0, f1, f2, f3, f4, f5, f6, -⟩ := hfrq
        replace f0 : xq 0 = _ := f0
        try dsimp only at f0
        replace f1 : xq 1 = _ := f1
        try dsimp only at f1
        replace f2 : xq 2 = _ := f2
        try dsimp only at f2
        replace f3 : xq 3 = _ := f3
        try dsimp only at f3
        replace f4 : xq 4 = _ := f4
        try dsimp only at f4
        replace f5 : xq 5 = _ := f5
        try dsimp only at f5
        obtain ⟨p6, c6, f6, hS6⟩ := f6
        replace f6 : xq 6 = _ := f6
        change wpList _ _ _ _ (Act.put (Act.put (Act.put (Act.put (Act.put (Act.put (Act.put _ (some 29) (xq 0)) (some 30) (xq 1)) (some 31) (xq 2)) (some 32) (xq 3)) (some 33) (xq 4)) (some 34) (xq 5)) (some 35) (xq 6)) _
        simp only [putsL, Nat.reduceAdd, List.drop_succ_cons, List.drop_zero, List.drop_nil, Act.put, List.setIfInBounds_toArray, List.set_cons_succ, List.set_cons_zero]
        try simp only [f0, f1, f2, f3, f4, f5, f6]
        clear f0 f1 f2 f3 f4 f5
        clear holdq hapq
        have hkq := (Ext.refl wr).drew.trans herq
        have hoq := own_ext hkq hown.out
        have hEq := hE.trans hkq
        have hszq := hEq.size
        go_wp2_with (at_builtin; go_loud (refine wp_appS _ (.tmp 29) (.tmp 35) 40 48 3 32 _ rfl rfl Tryz.underlying40 staInfo rfl (by decide) (by decide) staC staC_len sta_one w3.heap.size _ _ _ rfl hoq p6 tk c6 RP rfl hS6 (by omega) (by omega) ?_; intro v' w6 hown6 hgrow6))
        go_roundw
        case rel => exact ⟨r + 1, _, _, by go_num, by omega, by first | (rw [hls.out]; done) | (rw [hls.out]; congr 1 <;> omega), hS8.out, by rw [hbs.out, List.flatMap_append, List.length_append, hRl.out]; exact hown6, hEq.grown hgrow6 fun j e => (hoq.lt j e).1⟩
        case measure => simp [intOf]; omega
    · obtain rfl : r = wide.length := by omega
      have hb9 := bhL_bound wide M wide.length
      obtain ⟨p, c, rfl, -⟩ := slc_of_own staC_len hown (by decide) (by omega)
      have hres : wr.ownsRow w.heap.size 48 3 (.slice p (bhL wide M wide.length).length c) (bhL wide M wide.length).length ((bhL wide M wide.length).flatMap staC) := ⟨hown.1, hown.2.imp id fun ⟨g, cap, cur, hv, hg, r⟩ => ⟨g, cap, cur, hv, Nat.le_trans hE3.size hg, r⟩⟩
      have hlen9 : (bhL wide M wide.length).length ≤ 1000 := by omega
      replace hres := Lib.hid hres
      clear hS7 hown
      go_wp2
      go_ret2
      exact ⟨_, M, rfl, hM.out.out, hres.out, hlen9, hE3.trans hE⟩
end
end Go.Proofs.YtfcoeikekbjgpaaGreatDoor
