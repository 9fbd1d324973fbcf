/- The law of rows by height and by sections: it answers true. Conditions: the argument is a list of ints that lies in memory. -/
import Derived.Test.YtfcoeikekbjgpaaGreatDoorRxRoP
import Derived.Test.YtfcoeikekbjgpaaGreatDoorRxRoQ
import Derived.Test.YtfcoeikekbjgpaaGreatDoorRxStX
import Derived.Test.YtfcoeikekbjgpaaGreatDoorRxJ40
import Derived.Test.YtfcoeikekbjgpaaGreatDoorRxJ22
import Derived.Test.YtfcoeikekbjgpaaGreatDoorRxStL
import Derived.Deep.DeepCutAuto
set_option linter.unusedSimpArgs false
set_option linter.unusedVariables false
namespace Go.Proofs.YtfcoeikekbjgpaaGreatDoor
open Go Go.RowKit

def bass3 : List ByteArray := [⟨#[98, 97, 115, 115]⟩, ⟨#[116, 101, 110, 111, 114]⟩, ⟨#[97, 108, 116, 111]⟩]
theorem ordF2_bad {P : List PersonV} {O : List ByteArray} (h : orderF O ≠ 0) : ordF2 P O = orderF O := by unfold ordF2; rw [if_neg h]
theorem ordF2_cov {P : List PersonV} {O : List ByteArray} (h : orderF O = 0) (hc : ∀ x ∈ P, x.sect ∈ O) : ordF2 P O = 0 := by
  unfold ordF2
  rw [if_pos h, if_neg]
  rw [List.any_eq_true]
  rintro ⟨x, hx, e⟩
  have := inN_iff.2 (hc x hx)
  rw [this] at e
  cases e
theorem ordF2_unc {P : List PersonV} {O : List ByteArray} (h : orderF O = 0) (hc : ∃ x ∈ P, x.sect ∉ O) : ordF2 P O = 8 := by
  unfold ordF2
  rw [if_pos h, if_pos]
  obtain ⟨x, hx, hn⟩ := hc
  rw [List.any_eq_true]
  refine ⟨x, hx, ?_⟩
  cases hi : inN O x.sect
  · rfl
  · exact absurd (inN_iff.1 hi) hn
theorem own_of_blk1 {w : World} {g base : Nat} {t : TypeId} {v : Value} (h : Blk w g t #[v]) (hb : base ≤ g) : w.ownsRow base t 1 (.slice (some ⟨g, 0, none⟩) 1 1) 1 [v] :=
  ⟨rfl, .inr ⟨g, 1, #[v], rfl, hb, h, Nat.le_refl _, by decide, rfl, rfl⟩⟩

section
variable {w : World} {pp : Option Addr} {pc : Nat} {P : List PersonV} {wp : Option Addr} {wcap : Nat} {wide : List Int} {hp : Option Addr} {hc : Nat} {high : List Int} {op : Option Addr} {oc : Nat} {O : List ByteArray} {M : List PersonV}
theorem byHeightS_fix (hM : ByH P M) (h : PsM w pp pc P wp wcap wide hp hc high none 0 []) (ho : ostF P wide high = 0) (hf : fullF P wide = 0) (hP : P.length ≤ 19) :
    Calls Tryz.prog 14 #[.slice pp P.length pc, .agg #[.slice wp wide.length wcap, .slice hp high.length hc]] w fun e w' => ∃ (q : Option Addr) (c : Nat), e = .returned (.tuple #[.slice q (bhL wide M wide.length).length c, .int .i64 0]) ∧ Slc 3 staC w' q (bhL wide M wide.length).length c (bhL wide M wide.length) ∧ Ext w w' :=
  (byHeightS_any h ho hf hP).mono fun e w' ⟨q, c, M', he, hBy, hS, hE⟩ => by
    have heq := byH_uniq hM hBy
    subst heq
    exact ⟨q, c, he, hS, hE⟩
theorem byHeightOf_fix (hM : ByH P M) (h : PsM w pp pc P wp wcap wide hp hc high none 0 []) (ho : ostF P wide high = 0) (hP : P.length ≤ 19) :
    Calls Tryz.prog 19 #[.slice pp P.length pc, .agg #[.slice wp wide.length wcap, .slice hp high.length hc]] w fun e w' => ∃ (q : Option Addr) (c : Nat), e = .returned (.slice q (bhL wide M wide.length).length c) ∧ Slc 3 staC w' q (bhL wide M wide.length).length c (bhL wide M wide.length) ∧ Ext w w' :=
  (byHeightOf_any h ho hP).mono fun e w' ⟨q, c, M', he, hBy, hS, hE⟩ => by
    have heq := byH_uniq hM hBy
    subst heq
    exact ⟨q, c, he, hS, hE⟩
theorem bySectionS_fix (hM : ByH P M) (h : PsM w pp pc P wp wcap wide hp hc high none 0 []) (hO : Slc 1 strC w op O.length oc O) (hOs : ∀ x ∈ O, x.size ≤ 1000) (ho : ostF P wide high = 0) (hf : fullF P wide = 0) (hof : orderF O = 0) (hP : P.length ≤ 19) (hO19 : O.length ≤ 19) (hcov : ∀ x ∈ P, x.sect ∈ O) :
    Calls Tryz.prog 15 #[.slice pp P.length pc, .agg #[.slice wp wide.length wcap, .slice hp high.length hc], .slice op O.length oc] w fun e w' => ∃ (q : Option Addr) (c : Nat), e = .returned (.tuple #[.slice q (bsL wide M.length (lensL (grpsL O M)) (grpsL O M) wide.length).length c, .int .i64 0]) ∧ Slc 3 staC w' q (bsL wide M.length (lensL (grpsL O M)) (grpsL O M) wide.length).length c (bsL wide M.length (lensL (grpsL O M)) (grpsL O M) wide.length) ∧ Ext w w' :=
  (bySectionS_any h hO hOs ho hf hof hP hO19 hcov).mono fun e w' ⟨q, c, M', he, hBy, hS, hE⟩ => by
    have heq := byH_uniq hM hBy
    subst heq
    exact ⟨q, c, he, hS, hE⟩
theorem bySectionOf_fix (hM : ByH P M) (h : PsM w pp pc P wp wcap wide hp hc high none 0 []) (hO : Slc 1 strC w op O.length oc O) (ho : ostF P wide high = 0) (hof : orderF O = 0) (hP : P.length ≤ 19) (hO19 : O.length ≤ 19) (hcov : ∀ x ∈ P, x.sect ∈ O) :
    Calls Tryz.prog 20 #[.slice pp P.length pc, .agg #[.slice wp wide.length wcap, .slice hp high.length hc], .slice op O.length oc] w fun e w' => ∃ (q : Option Addr) (c : Nat), e = .returned (.slice q (bsL wide M.length (lensL (grpsL O M)) (grpsL O M) wide.length).length c) ∧ Slc 3 staC w' q (bsL wide M.length (lensL (grpsL O M)) (grpsL O M) wide.length).length c (bsL wide M.length (lensL (grpsL O M)) (grpsL O M) wide.length) ∧ Ext w w' :=
  (bySectionOf_any h hO ho hof hP hO19 hcov).mono fun e w' ⟨q, c, M', he, hBy, hS, hE⟩ => by
    have heq := byH_uniq hM hBy
    subst heq
    exact ⟨q, c, he, hS, hE⟩
theorem bsL_small (hM : ByH P M) (hP : P.length ≤ 19) (hwo : WideOk wide) (hof : orderF O = 0) (hcov : ∀ x ∈ P, x.sect ∈ O) : (bsL wide M.length (lensL (grpsL O M)) (grpsL O M) wide.length).length ≤ 19 := by
  have hML := hM.1.length_eq
  have hs := grps_sum (orderF_ok hof).2 (M := M) (fun x hx => hcov x (hM.1.subset hx)) M.length (Nat.le_refl _)
  rw [List.take_length] at hs
  have h1 := bsL_bound (n := M.length) (A := lensL (grpsL O M)) (G0 := grpsL O M) hwo (fun h0 => ⟨lensL_nonneg _, by omega, by rw [lensL_len]⟩) wide.length
  omega
end

set_option maxRecDepth 100000 in
set_option maxHeartbeats 25600000 in
theorem lawRM_any (w : World) (p : Option Addr) (n c : Nat) (h : Lst w w.heap.size p n) :
    Calls Tryz.prog 3 #[.slice p n c] w fun e w' => e = .returned (.bool true) ∧ Ext w w' := by
  have hS0 : Str (w.alloc (.cells #[.slice p n c, .int .i64 0] 25)) w.heap.size 0 := ⟨p, n, c, 0, Nat.le_refl _, Blk.new' rfl, h.low fun j hj => Below.heap_alloc w _ j hj⟩
  have hE0 : Ext w (w.alloc (.cells #[.slice p n c, .int .i64 0] 25)) := (Ext.refl w).alloc _
  have hbk : ∀ u, ExtS w.heap.size (w.alloc (.cells #[.slice p n c, .int .i64 0] 25)) u → Ext w u := fun u hu => ExtS.back hE0 (Nat.le_refl _) hu
  replace hbk := Lib.hid hbk
  have hpe := people_any w.heap.size 0 8 _ (by omega) (by omega) hS0
  replace hpe := Lib.hid hpe
  clear h
  go_enter Tryz.func3, Tryz.ntmps3
  go_upto_region 3 with (first
    | (go_at_call 5; (with_reducible refine Calls.mono hpe.out ?_); rintro e w1 ⟨pp, n, pc, P, rfl, hn9, hP, hpf, hPs, hS1, hE1⟩; obtain rfl : n = P.length := (slcC hP).1)
    | (go_at_call 6; (with_reducible refine Calls.mono (stageOf_any w.heap.size (0 + 40) _ (by omega) (by exact hS1)) ?_); rintro e w2 ⟨wp, wcap, hp, hc, wide, high, rfl, hw4, hh4, hws, hhs, hW, hH, hwf, hhf, hS2, hE2⟩))
  have hpf2 : ∀ a, pp = some a → a.block ≠ w.heap.size := fun a ha e => by have := hpf a ha; simp at this; omega
  have hwf2 : ∀ a, wp = some a → a.block ≠ w.heap.size := fun a ha e => by have := hwf a ha; have := hE1.2.2.2.1; simp at this; omega
  have hhf2 : ∀ a, hp = some a → a.block ≠ w.heap.size := fun a ha e => by have := hhf a ha; have := hE1.2.2.2.1; simp at this; omega
  have hEa : Ext w2 (w2.alloc (.cells #[.slice wp wide.length wcap, .slice hp high.length hc] 29)) := (Ext.refl _).alloc _
  have hB : Blk (w2.alloc (.cells #[.slice wp wide.length wcap, .slice hp high.length hc] 29)) w2.heap.size 29 #[.slice wp wide.length wcap, .slice hp high.length hc] := Blk.new' rfl
  have hM : PsM (w2.alloc (.cells #[.slice wp wide.length wcap, .slice hp high.length hc] 29)) pp pc P wp wcap wide hp hc high none 0 [] := ⟨(hP.extS hE2 hpf2).ext hEa, hW.ext hEa, hH.ext hEa, Slc.nil _ _ _, hPs, hws, hhs, (fun x hx => by cases hx), by omega, by simp⟩
  have hSW := hS2.ext hEa
  have hEW := (hE1.trans hE2).ext hEa
  have hgb : w.heap.size < w2.heap.size := by have := hE1.2.2.2.1; have := hE2.2.2.2.1; simp at *; omega
  clear hpe hS0 hE0 hS1 hE1 hP hE2 hS2 hW hH hwf hhf hpf hEa hPs hws hhs
  generalize w2.alloc (.cells #[.slice wp wide.length wcap, .slice hp high.length hc] 29) = W at *
  generalize w2.heap.size = gB at *
  have hgbW := hB.lt
  have hO0 : Blk (W.alloc (.cells #[.string ⟨#[98, 97, 115, 115]⟩, .string ⟨#[116, 101, 110, 111, 114]⟩, .string ⟨#[97, 108, 116, 111]⟩] 9)) W.heap.size 9 #[.string ⟨#[98, 97, 115, 115]⟩, .string ⟨#[116, 101, 110, 111, 114]⟩, .string ⟨#[97, 108, 116, 111]⟩] := Blk.new' rfl
  have hEo : Ext W (W.alloc (.cells #[.string ⟨#[98, 97, 115, 115]⟩, .string ⟨#[116, 101, 110, 111, 114]⟩, .string ⟨#[97, 108, 116, 111]⟩] 9)) := (Ext.refl _).alloc _
  have hfl := flip_any w.heap.size (0 + 40 + 40) 3 _ (by omega) (by omega) (by omega) (hSW.ext hEo)
  replace hfl := Lib.hid hfl
  have hX0 := (ExtS.refl w.heap.size W).ext hEo
  clear hSW
  go_upto_if 22 with (go_at_call 7; (with_reducible refine Calls.mono hfl.out ?_); rintro e w11 ⟨bb, rfl, hS11, hE11⟩)
  have hO11 := hO0.extS (show W.heap.size ≠ w.heap.size by omega) hE11
  have hX11 := hX0.trans hE11
  have hol := hO11.lt
  clear hfl hO0 hEo hX0 hE11
  go_cut [6] (fun v6 w' => ∃ (O : List ByteArray) (op : Option Addr) (oc : Nat), v6 = .slice op O.length oc ∧ O.length ≤ 4 ∧ (∀ x ∈ O, x.size ≤ 1000) ∧ Slc 1 strC w' op O.length oc O ∧ ExtS w.heap.size W w')
  case first =>
    replace hM := Lib.hid hM
    replace hB := Lib.hid hB
    replace hEW := Lib.hid hEW
    have hSl11 : Slc 1 strC w11 (some ⟨W.heap.size, 0, none⟩) 3 3 bass3 := slc_of_blk (xs := bass3) (enc := strC) (fun _ => rfl) hO11 (by decide)
    have hbz : ∀ x ∈ bass3, x.size ≤ 1000 := by intro x hx; simp [bass3] at hx; rcases hx with rfl | rfl | rfl <;> decide
    replace hbz := Lib.hid hbz
    replace hSl11 := Lib.hid hSl11
    cases bb
    · go_wp2
      go_meet
      exact ⟨bass3, some ⟨W.heap.size, 0, none⟩, 3, rfl, by decide, hbz.out, hSl11.out, hX11⟩
    · have l1 := hS11.lt
      have hWs : ∀ a, (some ⟨W.heap.size, 0, none⟩ : Option Addr) = some a → a.block ≠ w.heap.size := fun a ha => by cases ha; simp only; omega
      go_wp2_with (first
        | (go_at_call 8; refine (somes_any w.heap.size (0 + 40 + 40 + 1) _ _ 4 [⟨#[97, 108, 116, 111]⟩, ⟨#[122, 122]⟩, ⟨#[]⟩, ⟨#[98, 97, 115, 115]⟩] _ (by omega) (by simp) (by simp) (by exact hS11.ext (Ext.alloc (Ext.refl _) _)) (by exact Nat.ne_of_gt l1) (by exact Blk.new' rfl)).mono ?_; rintro e w12 ⟨sc, hsc, rfl, hS12, hE12⟩; replace hsc := Lib.hid hsc; have hX12 := (hX11.alloc _).trans hE12; have l2 := hS12.lt; have hSl12 := Lib.hid (((hSl11.out).ext ((Ext.refl _).alloc _)).extS hE12 hWs); have hY : Blk (w12.alloc (.cells #[.string sc] 9)) w12.heap.size 9 #[.string sc] := Blk.new' rfl; have z12 := hX12.2.2.2.1)
        | (go_at_call 9; refine (range_any w.heap.size (0 + 40 + 40 + 1 + 1) 0 2 _ (by omega) (by omega) (by omega) (by omega) (by omega) (by exact hS12.ext (Ext.alloc (Ext.refl _) _))).mono ?_; rintro e w13 ⟨v, rfl, hv0, hv1, hS13, hE13⟩; obtain ⟨m, rfl⟩ : ∃ m : Nat, v = m := ⟨v.toNat, by omega⟩; have hX13 := (hX12.alloc _).trans hE13; have ho13 := own_of_blk1 (base := W.heap.size) (hY.extS (show w12.heap.size ≠ w.heap.size by omega) hE13) (by omega); have hSl13 := ((hSl12.out.ext ((Ext.refl _).alloc _)).extS hE13 hWs).takeZ (show m ≤ 3 by omega); have z13 := hX13.2.2.2.1)
        | (at_builtin; go_loud (refine wp_appS _ (.tmp 26) (.tmp 30) 31 9 1 16 _ rfl rfl Tryz.underlying31 strInfo rfl (by decide) (by decide) strC (fun _ => rfl) (fun x u hu => by simp [strC] at hu; subst hu; rfl) W.heap.size _ 1 _ rfl ho13 (some ⟨W.heap.size, 0, none⟩) m 3 (bass3.take m) rfl hSl13 (by omega) (by omega) ?_; intro v' wf hownf hgrowf)))
      have hl9 : (sc :: bass3.take m).length = 1 + m := by rw [List.length_cons, List.length_take, show bass3.length = 3 from rfl]; omega
      have hown9 : wf.ownsRow W.heap.size 9 1 v' (sc :: bass3.take m).length ((sc :: bass3.take m).flatMap strC) := by rw [hl9]; exact hownf
      obtain ⟨q9, c9, rfl, hS9⟩ := slc_of_own (enc := strC) (fun _ => rfl) hown9 (by decide) (by omega)
      have hsz9 : ∀ x ∈ sc :: bass3.take m, x.size ≤ 1000 := fun x hx => by
        rcases List.mem_cons.1 hx with rfl | hx
        · have h3 := hsc.out
          simp only [List.mem_cons, List.not_mem_nil, or_false] at h3
          rcases h3 with rfl | rfl | rfl | rfl <;> decide
        · exact hbz.out x (List.mem_of_mem_take hx)
      go_meet
      exact ⟨sc :: bass3.take m, q9, c9, rfl, by omega, hsz9, hS9, hX13.grownX hgrowf (fun q e => (ho13.lt q e).1)⟩
  case rest =>
    clear hS11 hX11 hO11 hol
    obtain ⟨O, op, oc, rfl, hO4, hOs, hO, hX⟩ := hcut
    have hM5 : PsM wc pp pc P wp wcap wide hp hc high none 0 [] := ⟨hM.per.extS hX hpf2, hM.wid.extS hX hwf2, hM.hig.extS hX hhf2, Slc.nil _ _ _, hM.sP, hM.sw, hM.sh, (fun x hx => by cases hx), hM.nP, by simp⟩
    have hB5 := hB.extS (show gB ≠ w.heap.size by omega) hX
    have hE5 := hbk.out _ (hEW.trans hX)
    clear hM hB hEW hX
    generalize wc = W5 at *
    have hos : orF [peopleF P, stageF wide high] = ostF P wide high := by unfold ostF orF orF orF; split <;> simp_all
    have hf1 := fun u (hu : Ext W5 u) => faultPeople_any pp P.length pc P u (hM5.per.ext hu).1 hM5.sP hM5.nP
    have hf2 := fun u (hu : Ext W5 u) => faultStage_any wp wcap hp hc wide high u (hM5.wid.ext hu) (hM5.hig.ext hu) hM5.sw hM5.sh
    have hor := fun u (hu : Ext W5 u) => rOrder_any (hM5.per.ext hu) (by omega) (hO.ext hu) (by omega) hOs
    replace hf1 := Lib.hid hf1
    replace hf2 := Lib.hid hf2
    replace hos := Lib.hid hos
    replace hM5 := Lib.hid hM5
    replace hO := Lib.hid hO
    replace hOs := Lib.hid hOs
    obtain ⟨b0, -⟩ := hB5.walk
    have bl0 := hB5.lt
    go_upto_region 6 with fail
    refine wp_region_facts [] [([], false, false), ([0], false, false), ([], false, false), ([2], false, false), ([0, 1, 2, 3], false, true), ([0, 1, 2, 3, 4], false, false)] (Ext) Ext (fun _ => True) (by kernel_rfl) (by kernel_rfl) Ext.refl (fun _ _ _ => Ext.trans) (fun _ _ h => h) (fun _ _ h => h.size) (fun _ _ h _ => h) trivial ?_
    dsimp only [List.length_cons, List.length_nil, List.drop_succ_cons, List.drop_zero, List.drop_nil]
    refine fac_quiet 0 rfl rfl rfl (fun _ _ h _ => h) rfl rfl ?_
    apply Exists.intro
    refine ⟨fun sv w' hw' hfa => ?_, ?_⟩
    · refine ⟨rfl, ?_⟩
      simp only [putsL]
      change quietTo _ _ _ _ (Sem.run _ (execOp (Act.eval _) _) _)
      try simp only [Act.put, List.setIfInBounds_toArray, List.set_cons_succ, List.set_cons_zero]
      simp [go_sem, quietTo, Ext.refl]
      all_goals first
        | rfl
    refine fac_quiet 1 rfl rfl rfl (fun _ _ h _ => h) rfl rfl ?_
    apply Exists.intro
    refine ⟨fun sv w' hw' hfa => ?_, ?_⟩
    · obtain ⟨f0, -⟩ := hfa
      replace f0 : sv 0 = _ := f0
      try dsimp only at f0
      have hk9 := (Ext.refl W5).drew.trans hw'; obtain ⟨z1, -⟩ := (hB5.ext hk9).walk
      refine ⟨rfl, ?_⟩
      simp only [putsL]
      change quietTo _ _ _ _ (Sem.run _ (execOp (Act.eval (Act.put _ (some 32) (sv 0))) _) _)
      try simp only [Act.put, List.setIfInBounds_toArray, List.set_cons_succ, List.set_cons_zero]
      simp [go_sem, quietTo, Ext.refl, ↓IntWalk.iteOmega, f0]
      all_goals try simp (disch := omega) only [IntWalk.i64_in]
      all_goals first
        | rfl
        | (exact hf1.out _ hk9)
    refine fac_quiet 2 rfl rfl rfl (fun _ _ h _ => h) rfl rfl ?_
    apply Exists.intro
    refine ⟨fun sv w' hw' hfa => ?_, ?_⟩
    · have hk9 := (Ext.refl W5).drew.trans hw'; obtain ⟨z1, -⟩ := (hB5.ext hk9).walk
      refine ⟨rfl, ?_⟩
      simp only [putsL]
      change quietTo _ _ _ _ (Sem.run _ (execOp (Act.eval _) _) _)
      try simp only [Act.put, List.setIfInBounds_toArray, List.set_cons_succ, List.set_cons_zero]
      simp [go_sem, quietTo, Ext.refl, ↓IntWalk.iteOmega, z1]
      all_goals try simp (disch := omega) only [IntWalk.i64_in]
      all_goals first
        | rfl
    refine fac_quiet 3 rfl rfl rfl (fun _ _ h _ => h) rfl rfl ?_
    apply Exists.intro
    refine ⟨fun sv w' hw' hfa => ?_, ?_⟩
    · obtain ⟨f2, -⟩ := hfa
      replace f2 : sv 2 = _ := f2
      try dsimp only at f2
      have hk9 := (Ext.refl W5).drew.trans hw'; obtain ⟨z1, -⟩ := (hB5.ext hk9).walk
      refine ⟨rfl, ?_⟩
      simp only [putsL]
      change quietTo _ _ _ _ (Sem.run _ (execOp (Act.eval (Act.put _ (some 34) (sv 2))) _) _)
      try simp only [Act.put, List.setIfInBounds_toArray, List.set_cons_succ, List.set_cons_zero]
      simp [go_sem, quietTo, Ext.refl, ↓IntWalk.iteOmega, f2]
      all_goals try simp (disch := omega) only [IntWalk.i64_in]
      all_goals first
        | rfl
        | (exact hf2.out _ hk9)
    refine fac_row 4 rfl rfl rfl (fun _ _ h _ => h) (fun _ _ h => h.size) (fun _ _ _ _ _ he _ hb => hb.ext he) ?_
    apply Exists.intro
    apply Exists.intro
    apply Exists.intro
    apply Exists.intro
    refine ⟨fun sv w' hw' hfa => ?_, ?_⟩
    · obtain ⟨_, f1, _, f3, -⟩ := hfa
      replace f1 : sv 1 = _ := f1
      try dsimp only at f1
      replace f3 : sv 3 = _ := f3
      try dsimp only at f3
      refine ⟨rfl, ?_⟩
      simp only [putsL]
      change rowTo _ _ _ _ _ (Sem.run _ (execOp (Act.eval (Act.put (Act.put (Act.put (Act.put _ (some 35) (sv 3)) (some 34) (sv 2)) (some 33) (sv 1)) (some 32) (sv 0))) _) _)
      try simp only [Act.put, List.setIfInBounds_toArray, List.set_cons_succ, List.set_cons_zero]
      simp [go_sem, rowTo, Ext.refl, f1, f3]
      all_goals try simp (disch := omega) only [IntWalk.i64_in]
      all_goals first
        | rfl
        | exact ⟨rfl, rfl⟩
        | exact ⟨⟨rfl, rfl⟩, rfl⟩
    refine fac_quiet 5 rfl rfl rfl (fun _ _ h _ => h) rfl rfl ?_
    apply Exists.intro
    refine ⟨fun sv w' hw' hfa => ?_, ?_⟩
    · obtain ⟨f0, f1, f2, f3, f4, -⟩ := hfa
      replace f0 : sv 0 = _ := f0
      try dsimp only at f0
      replace f1 : sv 1 = _ := f1
      try dsimp only at f1
      replace f2 : sv 2 = _ := f2
      try dsimp only at f2
      replace f3 : sv 3 = _ := f3
      try dsimp only at f3
      obtain ⟨g4, f4, l4, b4⟩ := f4
      replace f4 : sv 4 = _ := f4
      obtain ⟨p4, q4⟩ := b4.walk
      have hk9 := (Ext.refl W5).drew.trans hw'; obtain ⟨z1, -⟩ := (hB5.ext hk9).walk
      refine ⟨rfl, ?_⟩
      simp only [putsL]
      change quietTo _ _ _ _ (Sem.run _ (execOp (Act.eval (Act.put (Act.put (Act.put (Act.put (Act.put _ (some 36) (sv 4)) (some 35) (sv 3)) (some 34) (sv 2)) (some 33) (sv 1)) (some 32) (sv 0))) _) _)
      try simp only [Act.put, List.setIfInBounds_toArray, List.set_cons_succ, List.set_cons_zero]
      simp [go_sem, quietTo, Ext.refl, ↓IntWalk.iteOmega, f4, p4, q4]
      all_goals try simp (disch := omega) only [IntWalk.i64_in]
      all_goals first
        | rfl
        | (exact (orErr_blk _ _ 2 [peopleF P, stageF wide high] _ (by simp) b4).mono fun _ _ h => ⟨h.1, h.2 ▸ Ext.refl _⟩)
    refine fac_nil fun xq wrq herq hfrq hcrq holdq hapq => ?_
    obtain ⟨f0, f1, f2, f3, f4, f5, -⟩ := hfrq
    replace f0 : xq 0 = _ := f0
    try dsimp only at f0
    replace f1 : xq 1 = _ := f1
    try dsimp only at f1
    replace f2 : xq 2 = _ := f2
    try dsimp only at f2
    replace f3 : xq 3 = _ := f3
    try dsimp only at f3
    obtain ⟨g4, f4, l4, b4⟩ := f4
    replace f4 : xq 4 = _ := f4
    obtain ⟨p4, q4⟩ := b4.walk
    replace f5 : xq 5 = _ := f5
    try dsimp only at f5
    change wpList _ _ _ _ (Act.put (Act.put (Act.put (Act.put (Act.put (Act.put _ (some 32) (xq 0)) (some 33) (xq 1)) (some 34) (xq 2)) (some 35) (xq 3)) (some 36) (xq 4)) (some 37) (xq 5)) _
    simp only [putsL, Nat.reduceAdd, List.drop_succ_cons, List.drop_zero, List.drop_nil, Act.put, List.setIfInBounds_toArray, List.set_cons_succ, List.set_cons_zero]
    try simp only [f0, f1, f2, f3, f4, f5]
    clear f0 f1 f2 f3 f5
    clear holdq hapq
    have E1 := (Ext.refl W5).drew.trans herq
    rw [hos.out]
    clear hf1 hf2 hos herq b0 bl0
    obtain ⟨b1, -⟩ := (hB5.ext E1).walk
    have bl1 := (hB5.ext E1).lt
    by_cases hf0 : ofF P wide high = 0
    rotate_left
    · have hbh := fun u (hu : Ext W5 u) => byHeightB_any (hM5.out.more hu) hf0
      have hbs := fun u (hu : Ext W5 u) => bySectionB_any (hM5.out.more hu) (hO.out.ext hu) hOs.out (by omega) (ofF P wide high) hf0 (by rw [if_neg hf0])
      have hor2 : orF [ofF P wide high, ordF2 P O] = ofF P wide high := by simp only [orF]; rw [if_neg hf0]
      generalize ordF2 P O = o2 at *
      by_cases ho : ostF P wide high = 0
      · have hof : ofF P wide high = fullF P wide := by unfold ofF; rw [if_pos ho]
        have hrl := fun u (hu : Ext W5 u) => rfull_any pp pc P wp wcap wide hp high.length hc u (hM5.out.wid.ext hu) (wo_of ho)
        rw [hof] at hf0 hbh hbs hor2
        generalize fullF P wide = ff at *
        replace hbh := Lib.hid hbh
        replace hbs := Lib.hid hbs
        replace hor := Lib.hid hor
        replace hor2 := Lib.hid hor2
        replace hrl := Lib.hid hrl
        clear hof
        go_wp2_with (first
          | (go_at_call 13; (with_reducible refine Calls.mono (hrl.out _ E1) ?_); rintro e y0 ⟨rfl, hy0⟩; replace E1 := E1.trans hy0; clear b1 bl1; obtain ⟨b1, -⟩ := (hB5.ext E1).walk; have bl1 := (hB5.ext E1).lt)
          | (go_at_call 14; (with_reducible refine Calls.mono (hbh.out _ E1) ?_); rintro e y1 ⟨rfl, hy1⟩; have E2 := E1.trans hy1; clear b1 bl1; obtain ⟨b2, -⟩ := (hB5.ext E2).walk; have bl2 := (hB5.ext E2).lt)
          | (go_at_call 15; (with_reducible refine Calls.mono (hbs.out _ E2) ?_); rintro e y2 ⟨rfl, hy2⟩; have E3 := E2.trans hy2; clear b2 bl2)
          | (go_at_call 16; (with_reducible refine Calls.mono (hor.out _ E3) ?_); rintro e y3 ⟨rfl, hy3⟩; have E4 := (E3.trans hy3).alloc (.cells #[.int .i64 ff, .int .i64 o2] 35))
          | (go_at_call 10; refine (orErr_blk _ _ _ [ff, o2] _ (by simp) (by exact Blk.new' rfl)).mono ?_; rintro e y4 ⟨rfl, rfl⟩; rw [hor2.out])
          | (go_at_call 17; (with_reducible refine Calls.mono (stood_any _) ?_); rintro e y5 ⟨rfl, hy5⟩))
        go_ret
        exact ⟨rfl, hE5.trans (E4.trans hy5)⟩
      · have hof : ofF P wide high = ostF P wide high := by unfold ofF; rw [if_neg ho]
        rw [hof] at hf0 hbh hbs hor2
        generalize ostF P wide high = ff at *
        replace hbh := Lib.hid hbh
        replace hbs := Lib.hid hbs
        replace hor := Lib.hid hor
        replace hor2 := Lib.hid hor2
        clear hof
        go_wp2_with (first
          | (go_at_call 14; (with_reducible refine Calls.mono (hbh.out _ E1) ?_); rintro e y1 ⟨rfl, hy1⟩; have E2 := E1.trans hy1; clear b1 bl1; obtain ⟨b2, -⟩ := (hB5.ext E2).walk; have bl2 := (hB5.ext E2).lt)
          | (go_at_call 15; (with_reducible refine Calls.mono (hbs.out _ E2) ?_); rintro e y2 ⟨rfl, hy2⟩; have E3 := E2.trans hy2; clear b2 bl2)
          | (go_at_call 16; (with_reducible refine Calls.mono (hor.out _ E3) ?_); rintro e y3 ⟨rfl, hy3⟩; have E4 := (E3.trans hy3).alloc (.cells #[.int .i64 ff, .int .i64 o2] 35))
          | (go_at_call 10; refine (orErr_blk _ _ _ [ff, o2] _ (by simp) (by exact Blk.new' rfl)).mono ?_; rintro e y4 ⟨rfl, rfl⟩; rw [hor2.out])
          | (go_at_call 17; (with_reducible refine Calls.mono (stood_any _) ?_); rintro e y5 ⟨rfl, hy5⟩))
        go_ret
        exact ⟨rfl, hE5.trans (E4.trans hy5)⟩
    have ho : ostF P wide high = 0 := by
      unfold ofF at hf0
      by_cases ho : ostF P wide high = 0
      · exact ho
      · rw [if_neg ho] at hf0; exact hf0
    have hff : fullF P wide = 0 := by unfold ofF at hf0; rw [if_pos ho] at hf0; exact hf0
    have hwo := wo_of ho
    have hpo : PeopleOk P := by
      have e := ho
      unfold ostF at e
      by_cases hp0 : peopleF P = 0
      · exact peopleF_ok hp0
      · rw [if_neg hp0] at e; exact absurd e hp0
    obtain ⟨M, hBy⟩ : ∃ M, ByH P M := ⟨_, stable_of hpo⟩
    have hrl := fun u (hu : Ext W5 u) => rfull_any pp pc P wp wcap wide hp high.length hc u (hM5.out.wid.ext hu) hwo
    have hbh := fun u (hu : Ext W5 u) => byHeightS_fix hBy (hM5.out.more hu) ho hff (by omega)
    have hbo := fun u (hu : Ext W5 u) => byHeightOf_fix hBy (hM5.out.more hu) ho (by omega)
    have hA9 : (bhL wide M wide.length).length ≤ 19 := by have h1 := bhL_bound wide M wide.length; have h2 := hBy.1.length_eq; omega
    generalize bhL wide M wide.length = A1 at *
    rw [hff] at hrl
    by_cases hgood : orderF O = 0 ∧ ∀ x ∈ P, x.sect ∈ O
    · obtain ⟨hof, hcv⟩ := hgood
      have hbs := fun u (hu : Ext W5 u) => bySectionS_fix hBy (hM5.out.more hu) (hO.out.ext hu) hOs.out ho hff hof (by omega) (by omega) hcv
      have hbf := fun u (hu : Ext W5 u) => bySectionOf_fix hBy (hM5.out.more hu) (hO.out.ext hu) ho hof (by omega) (by omega) hcv
      have hB9 := bsL_small hBy (by omega) hwo hof hcv
      rw [ordF2_cov hof hcv] at hor
      have hor2 : orF [0, 0] = 0 := by decide
      generalize bsL wide M.length (lensL (grpsL O M)) (grpsL O M) wide.length = B1 at *
      replace hbh := Lib.hid hbh
      replace hbo := Lib.hid hbo
      replace hbs := Lib.hid hbs
      replace hbf := Lib.hid hbf
      replace hor := Lib.hid hor
      replace hor2 := Lib.hid hor2
      replace hrl := Lib.hid hrl
      replace ho := Lib.hid ho
      clear hff hwo hpo hBy hof hcv hf0 hM5 hO hOs
      rw [ho.out]
      go_wp2_with (first
        | (go_at_call 13; (with_reducible refine Calls.mono (hrl.out _ E1) ?_); rintro e y0 ⟨rfl, hy0⟩; replace E1 := E1.trans hy0; clear b1 bl1; obtain ⟨b1, -⟩ := (hB5.ext E1).walk; have bl1 := (hB5.ext E1).lt)
        | (go_at_call 14; (with_reducible refine Calls.mono (hbh.out _ E1) ?_); rintro e y1 ⟨q1, c1, rfl, hS1, hy1⟩; have E2 := E1.trans hy1; replace hS1 := Lib.hid hS1; clear b1 bl1; obtain ⟨b2, -⟩ := (hB5.ext E2).walk; have bl2 := (hB5.ext E2).lt)
        | (go_at_call 15; (with_reducible refine Calls.mono (hbs.out _ E2) ?_); rintro e y2 ⟨q2, c2, rfl, hS2, hy2⟩; have E3 := E2.trans hy2; replace hS1 := Lib.hid (hS1.out.ext hy2); replace hS2 := Lib.hid hS2; clear b2 bl2; obtain ⟨b3, -⟩ := (hB5.ext E3).walk; have bl3 := (hB5.ext E3).lt)
        | (go_at_call 16; (with_reducible refine Calls.mono (hor.out _ E3) ?_); rintro e y3 ⟨rfl, hy3⟩; have E4 := (E3.trans hy3).alloc (.cells #[.int .i64 0, .int .i64 0] 35); have X4 := hy3.alloc (.cells #[.int .i64 0, .int .i64 0] 35); replace hS1 := Lib.hid (hS1.out.ext X4); replace hS2 := Lib.hid (hS2.out.ext X4); clear b3 bl3; obtain ⟨b4, -⟩ := (hB5.ext E4).walk; have bl4 := (hB5.ext E4).lt)
        | (go_at_call 10; refine (orErr_blk _ _ _ [0, 0] _ (by simp) (by exact Blk.new' rfl)).mono ?_; rintro e y4 ⟨rfl, rfl⟩; rw [hor2.out])
        | (go_at_call 19; (with_reducible refine Calls.mono (hbo.out _ E4) ?_); rintro e y5 ⟨q3, c3, rfl, hS3, hy5⟩; have E5 := E4.trans hy5; replace hS1 := Lib.hid (hS1.out.ext hy5); replace hS2 := Lib.hid (hS2.out.ext hy5); replace hS3 := Lib.hid hS3; clear b4 bl4; obtain ⟨b5, -⟩ := (hB5.ext E5).walk; have bl5 := (hB5.ext E5).lt)
        | (go_at_call 18; (with_reducible refine Calls.mono (eqSta_any q1 q3 _ c1 c3 A1 _ hS1.out hS3.out (by omega)) ?_); rintro e y6 ⟨rfl, hy6⟩; have E6 := E5.trans hy6; replace hS2 := Lib.hid (hS2.out.ext hy6); clear b5 bl5; obtain ⟨b6, -⟩ := (hB5.ext E6).walk; have bl6 := (hB5.ext E6).lt)
        | (go_at_call 20; (with_reducible refine Calls.mono (hbf.out _ E6) ?_); rintro e y7 ⟨q4, c4, rfl, hS4, hy7⟩; have E7 := E6.trans hy7; replace hS2 := Lib.hid (hS2.out.ext hy7); replace hS4 := Lib.hid hS4; clear b6 bl6)
        | (go_at_call 18; (with_reducible refine Calls.mono (eqSta_any q2 q4 _ c2 c4 B1 _ hS2.out hS4.out (by omega)) ?_); rintro e y8 ⟨rfl, hy8⟩; have E8 := E7.trans hy8)
        | (go_at_call 17; (with_reducible refine Calls.mono (stood_any _) ?_); rintro e y9 ⟨rfl, hy9⟩))
      go_ret
      exact ⟨rfl, hE5.trans (E8.trans hy9)⟩
    · have hbs : ∀ u, Ext W5 u → Calls Tryz.prog 15 #[.slice pp P.length pc, .agg #[.slice wp wide.length wcap, .slice hp high.length hc], .slice op O.length oc] u fun e w' => e = .returned (.tuple #[.slice none 0 0, .int .i64 (ordF2 P O)]) ∧ Ext u w' := fun u hu => by
        by_cases hof : orderF O = 0
        · have hun : ∃ x ∈ P, x.sect ∉ O := by
            by_cases hu2 : ∃ x ∈ P, x.sect ∉ O
            · exact hu2
            · exact absurd ⟨hof, fun x hx => by
                by_cases hin : x.sect ∈ O
                · exact hin
                · exact absurd ⟨x, hx, hin⟩ hu2⟩ hgood
          rw [ordF2_unc hof hun]
          exact bySectionN_any (hM5.out.more hu) (hO.out.ext hu) hOs.out ho hff hof (by omega) (by omega) hun
        · rw [ordF2_bad hof]
          exact bySectionB_any (hM5.out.more hu) (hO.out.ext hu) hOs.out (by omega) (orderF O) hof (by rw [if_pos hf0])
      have ho2 : ordF2 P O ≠ 0 := by
        by_cases hof : orderF O = 0
        · have hun : ∃ x ∈ P, x.sect ∉ O := by
            by_cases hu2 : ∃ x ∈ P, x.sect ∉ O
            · exact hu2
            · exact absurd ⟨hof, fun x hx => by
                by_cases hin : x.sect ∈ O
                · exact hin
                · exact absurd ⟨x, hx, hin⟩ hu2⟩ hgood
          rw [ordF2_unc hof hun]
          decide
        · rw [ordF2_bad hof]
          exact hof
      have hor2 : orF [0, ordF2 P O] = ordF2 P O := by simp only [orF, if_true]; rw [if_neg ho2]
      generalize ordF2 P O = o2 at *
      replace hbh := Lib.hid hbh
      replace hbo := Lib.hid hbo
      replace hbs := Lib.hid hbs
      replace hor := Lib.hid hor
      replace hor2 := Lib.hid hor2
      replace hrl := Lib.hid hrl
      replace ho := Lib.hid ho
      clear hff hwo hpo hBy hgood hf0 hM5 hO hOs
      rw [ho.out]
      go_wp2_with (first
        | (go_at_call 13; (with_reducible refine Calls.mono (hrl.out _ E1) ?_); rintro e y0 ⟨rfl, hy0⟩; replace E1 := E1.trans hy0; clear b1 bl1; obtain ⟨b1, -⟩ := (hB5.ext E1).walk; have bl1 := (hB5.ext E1).lt)
        | (go_at_call 14; (with_reducible refine Calls.mono (hbh.out _ E1) ?_); rintro e y1 ⟨q1, c1, rfl, hS1, hy1⟩; have E2 := E1.trans hy1; replace hS1 := Lib.hid hS1; clear b1 bl1; obtain ⟨b2, -⟩ := (hB5.ext E2).walk; have bl2 := (hB5.ext E2).lt)
        | (go_at_call 15; (with_reducible refine Calls.mono (hbs.out _ E2) ?_); rintro e y2 ⟨rfl, hy2⟩; have E3 := E2.trans hy2; replace hS1 := Lib.hid (hS1.out.ext hy2); clear b2 bl2; obtain ⟨b3, -⟩ := (hB5.ext E3).walk; have bl3 := (hB5.ext E3).lt)
        | (go_at_call 16; (with_reducible refine Calls.mono (hor.out _ E3) ?_); rintro e y3 ⟨rfl, hy3⟩; have E4 := (E3.trans hy3).alloc (.cells #[.int .i64 0, .int .i64 o2] 35); have X4 := hy3.alloc (.cells #[.int .i64 0, .int .i64 o2] 35); replace hS1 := Lib.hid (hS1.out.ext X4); clear b3 bl3; obtain ⟨b4, -⟩ := (hB5.ext E4).walk; have bl4 := (hB5.ext E4).lt)
        | (go_at_call 10; refine (orErr_blk _ _ _ [0, o2] _ (by simp) (by exact Blk.new' rfl)).mono ?_; rintro e y4 ⟨rfl, rfl⟩; rw [hor2.out])
        | (go_at_call 19; (with_reducible refine Calls.mono (hbo.out _ E4) ?_); rintro e y5 ⟨q3, c3, rfl, hS3, hy5⟩; have E5 := E4.trans hy5; replace hS1 := Lib.hid (hS1.out.ext hy5); replace hS3 := Lib.hid hS3; clear b4 bl4)
        | (go_at_call 18; (with_reducible refine Calls.mono (eqSta_any q1 q3 _ c1 c3 A1 _ hS1.out hS3.out (by omega)) ?_); rintro e y6 ⟨rfl, hy6⟩; have E6 := E5.trans hy6)
        | (go_at_call 17; (with_reducible refine Calls.mono (stood_any _) ?_); rintro e y9 ⟨rfl, hy9⟩))
      go_ret
      exact ⟨rfl, hE5.trans (E6.trans hy9)⟩
end Go.Proofs.YtfcoeikekbjgpaaGreatDoor
