/- Steps and melodies checked, by tune's text. Conditions: they lie in memory. -/
import Derived.Test.YtapjekpjekdlkaaGreatDoorRJ21
import Derived.Test.YtapjekpjekdlkaaGreatDoorRFactsB
set_option linter.unusedSimpArgs false
set_option linter.unusedVariables false
namespace Go.Proofs.YtapjekpjekdlkaaGreatDoor
open Go Go.RowKit

theorem take_snocI {α : Type} {l : List α} {k : Nat} {x : α} (h : l[k]? = some x) : l.take (k + 1) = l.take k ++ [x] := by
  obtain ⟨hk, e⟩ := List.getElem?_eq_some_iff.1 h
  rw [List.take_succ_eq_append_getElem hk, e]

theorem if_eq4 {α : Type} (v x : I4) (p q : α) : (if v.a = x.a then (if v.b = x.b then (if v.c = x.c then (if v.d = x.d then p else q) else q) else q) else q) = if v = x then p else q := by
  by_cases h : v = x
  · subst h; simp
  · rw [if_neg h]
    split
    · split
      · split
        · split
          · rename_i h1 h2 h3 h4; exact absurd (I4.eq h1 h2 h3 h4) h
          · rfl
        · rfl
      · rfl
    · rfl
theorem res_if (p : Prop) [Decidable p] (w : World) : (if p then (Result.ok (Next.value (Value.bool true)) w : Result Next) else Result.ok (Next.value (Value.bool false)) w) = Result.ok (Next.value (Value.bool (decide p))) w := by
  by_cases h : p <;> simp [h]

set_option maxRecDepth 100000 in
set_option maxHeartbeats 1600000 in
theorem index4_any (p : Option Addr) (n c : Nat) (G : List I4) (v : I4) (w : World) (h : Slc 4 i4C w p n c G) (hn : n ≤ 1000000) :
    Calls Tryz.prog 27 #[.slice p n c, .agg #[.int .i64 v.a, .int .i64 v.b, .int .i64 v.c, .int .i64 v.d]] w fun e w' => ∃ i : Int, e = .returned (.int .i64 i) ∧ (0 ≤ i ↔ v ∈ G) ∧ Ext w w' := by
  obtain ⟨hl, hp⟩ := slcC h
  subst hl
  have hE0 : Ext w (w.alloc (.cells #[.int .i64 v.a, .int .i64 v.b, .int .i64 v.c, .int .i64 v.d] 27)) := (Ext.refl _).alloc _
  have hB0 : Blk (w.alloc (.cells #[.int .i64 v.a, .int .i64 v.b, .int .i64 v.c, .int .i64 v.d] 27)) w.heap.size 27 #[.int .i64 v.a, .int .i64 v.b, .int .i64 v.c, .int .i64 v.d] := Blk.new' rfl
  replace hp := Lib.hid hp
  clear h
  go_enter Tryz.func27, Tryz.ntmps27
  go_wp2
  generalize w.alloc (.cells #[.int .i64 v.a, .int .i64 v.b, .int .i64 v.c, .int .i64 v.d] 27) = W0 at *
  go_loopw [8] (fun i wr => ∃ k : Nat, k ≤ G.length ∧ i = .int .i64 k ∧ v ∉ G.take k ∧ Blk wr w.heap.size 27 #[.int .i64 v.a, .int .i64 v.b, .int .i64 v.c, .int .i64 v.d] ∧ Ext w wr) (fun i _ => G.length - (intOf i).toNat)
  case atStart => exact ⟨0, Nat.zero_le _, rfl, by simp, hB0, hE0⟩
  case round =>
    clear hB0 hE0
    obtain ⟨k, hk, rfl, hno, hB, hE⟩ := hrel
    by_cases hlt : k < G.length
    · obtain ⟨x, hx⟩ := getD_some (rfl : G.length = G.length) hlt
      rcases hp.out with ⟨-, e⟩ | ⟨b1, o1, rfl, hb1, hE1⟩
      · rw [e] at hx; cases hx
      obtain ⟨c1, c2, c3, c4⟩ := (hE1.ext hE hb1).iv hx
      have l1 := Nat.lt_of_lt_of_le hb1 hE.size
      have hkI : (k : Int) < G.length := by omega
      have htk := take_snocI hx
      have hxm := List.mem_of_getElem? hx
      replace hno := Lib.hid hno
      replace htk := Lib.hid htk
      clear hx hE1
      go_upto_region 4 with fail
      refine wp_region_facts [] [([], false, false), ([], false, false), ([], false, false), ([1, 2], false, false), ([1, 2, 3], false, false), ([0, 1, 2, 3, 4], false, false)] (Ext) Ext (fun _ => True) (by kernel_rfl) (by kernel_rfl) Ext.refl (fun _ _ _ => Ext.trans) (fun _ _ h => h) (fun _ _ h => h.size) (fun _ _ h _ => h) trivial ?_
      dsimp only [List.length_cons, List.length_nil, List.drop_succ_cons, List.drop_zero, List.drop_nil]
      refine fac_quiet 0 rfl rfl rfl (fun _ _ h _ => h) rfl rfl ?_
      apply Exists.intro
      refine ⟨fun sv w' hw' hfa => ?_, ?_⟩
      · have hk9 := (Ext.refl wr).drew.trans hw'; obtain ⟨y1, -⟩ := (hB.ext hk9).walk; have z1 := (hk9.walk.1 _ _ l1).trans c1; have z2 := (hk9.walk.1 _ _ l1).trans c2; have z3 := (hk9.walk.1 _ _ l1).trans c3; have z4 := (hk9.walk.1 _ _ l1).trans c4
        refine ⟨rfl, ?_⟩
        simp only [putsL]
        change quietTo _ _ _ _ (Sem.run _ (execOp (Act.eval _) _) _)
        try simp only [Act.put, List.setIfInBounds_toArray, List.set_cons_succ, List.set_cons_zero]
        simp [go_sem, quietTo, Ext.refl, ↓IntWalk.iteOmega, y1]
        all_goals try simp (disch := omega) only [IntWalk.i64_in]
        all_goals first
          | rfl
      refine fac_quiet 1 rfl rfl rfl (fun _ _ h _ => h) rfl rfl ?_
      apply Exists.intro
      refine ⟨fun sv w' hw' hfa => ?_, ?_⟩
      · refine ⟨rfl, ?_⟩
        simp only [putsL]
        change quietTo _ _ _ _ (Sem.run _ (execOp (Act.eval _) _) _)
        try simp only [Act.put, List.setIfInBounds_toArray, List.set_cons_succ, List.set_cons_zero]
        simp [go_sem, quietTo, Ext.refl]
        all_goals first
          | rfl
      refine fac_quiet 2 rfl rfl rfl (fun _ _ h _ => h) rfl rfl ?_
      apply Exists.intro
      refine ⟨fun sv w' hw' hfa => ?_, ?_⟩
      · refine ⟨rfl, ?_⟩
        simp only [putsL]
        change quietTo _ _ _ _ (Sem.run _ (execOp (Act.eval _) _) _)
        try simp only [Act.put, List.setIfInBounds_toArray, List.set_cons_succ, List.set_cons_zero]
        simp [go_sem, quietTo, Ext.refl]
        all_goals first
          | rfl
      refine fac_quiet 3 rfl rfl rfl (fun _ _ h _ => h) rfl rfl ?_
      apply Exists.intro
      refine ⟨fun sv w' hw' hfa => ?_, ?_⟩
      · obtain ⟨f1, f2, -⟩ := hfa
        replace f1 : sv 1 = _ := f1
        try dsimp only at f1
        replace f2 : sv 2 = _ := f2
        try dsimp only at f2
        have hk9 := (Ext.refl wr).drew.trans hw'; obtain ⟨y1, -⟩ := (hB.ext hk9).walk; have z1 := (hk9.walk.1 _ _ l1).trans c1; have z2 := (hk9.walk.1 _ _ l1).trans c2; have z3 := (hk9.walk.1 _ _ l1).trans c3; have z4 := (hk9.walk.1 _ _ l1).trans c4
        refine ⟨rfl, ?_⟩
        simp only [putsL]
        change quietTo _ _ _ _ (Sem.run _ (execOp (Act.eval (Act.put (Act.put _ (some 13) (sv 2)) (some 12) (sv 1))) _) _)
        try simp only [Act.put, List.setIfInBounds_toArray, List.set_cons_succ, List.set_cons_zero]
        simp [go_sem, quietTo, Ext.refl, ↓IntWalk.iteOmega, f1, f2, hkI]
        all_goals try simp (disch := omega) only [IntWalk.i64_in]
        all_goals first
          | rfl
      refine fac_quiet 4 rfl rfl rfl (fun _ _ h _ => h) rfl rfl ?_
      apply Exists.intro
      refine ⟨fun sv w' hw' hfa => ?_, ?_⟩
      · obtain ⟨_, _, f3, -⟩ := hfa
        replace f3 : sv 3 = _ := f3
        try dsimp only at f3
        have hk9 := (Ext.refl wr).drew.trans hw'; obtain ⟨y1, -⟩ := (hB.ext hk9).walk; have z1 := (hk9.walk.1 _ _ l1).trans c1; have z2 := (hk9.walk.1 _ _ l1).trans c2; have z3 := (hk9.walk.1 _ _ l1).trans c3; have z4 := (hk9.walk.1 _ _ l1).trans c4
        refine ⟨rfl, ?_⟩
        simp only [putsL]
        change quietTo _ _ _ _ (Sem.run _ (execOp (Act.eval (Act.put (Act.put (Act.put _ (some 14) (sv 3)) (some 13) (sv 2)) (some 12) (sv 1))) _) _)
        try simp only [Act.put, List.setIfInBounds_toArray, List.set_cons_succ, List.set_cons_zero]
        simp [go_sem, quietTo, Ext.refl, ↓IntWalk.iteOmega, f3, z1, z2, z3, z4]
        all_goals try simp (disch := omega) only [IntWalk.i64_in]
        all_goals first
          | rfl
      refine fac_quiet 5 rfl rfl rfl (fun _ _ h _ => h) rfl rfl ?_
      apply Exists.intro
      refine ⟨fun sv w' hw' hfa => ?_, ?_⟩
      · obtain ⟨f0, _, _, _, f4, -⟩ := hfa
        replace f0 : sv 0 = _ := f0
        try dsimp only at f0
        replace f4 : sv 4 = _ := f4
        try dsimp only at f4
        have hk9 := (Ext.refl wr).drew.trans hw'; obtain ⟨y1, -⟩ := (hB.ext hk9).walk; have z1 := (hk9.walk.1 _ _ l1).trans c1; have z2 := (hk9.walk.1 _ _ l1).trans c2; have z3 := (hk9.walk.1 _ _ l1).trans c3; have z4 := (hk9.walk.1 _ _ l1).trans c4
        refine ⟨rfl, ?_⟩
        simp only [putsL]
        change quietTo _ _ _ _ (Sem.run _ (execOp (Act.eval (Act.put (Act.put (Act.put (Act.put (Act.put _ (some 15) (sv 4)) (some 14) (sv 3)) (some 13) (sv 2)) (some 12) (sv 1)) (some 11) (sv 0))) _) _)
        try simp only [Act.put, List.setIfInBounds_toArray, List.set_cons_succ, List.set_cons_zero]
        simp [go_sem, quietTo, Ext.refl, ↓IntWalk.iteOmega, f0, f4, if_eq4, res_if]
        all_goals try simp (disch := omega) only [IntWalk.i64_in]
        all_goals first
          | rfl
      refine fac_nil fun xa wra hera hfra hcra holda hapa => ?_
      obtain ⟨f0, f1, f2, f3, f4, f5, -⟩ := hfra
      replace f0 : xa 0 = _ := f0
      try dsimp only at f0
      replace f1 : xa 1 = _ := f1
      try dsimp only at f1
      replace f2 : xa 2 = _ := f2
      try dsimp only at f2
      replace f3 : xa 3 = _ := f3
      try dsimp only at f3
      replace f4 : xa 4 = _ := f4
      try dsimp only at f4
      replace f5 : xa 5 = _ := f5
      try dsimp only at f5
      change wpList _ _ _ _ (Act.put (Act.put (Act.put (Act.put (Act.put (Act.put _ (some 11) (xa 0)) (some 12) (xa 1)) (some 13) (xa 2)) (some 14) (xa 3)) (some 15) (xa 4)) (some 16) (xa 5)) _
      simp only [putsL, Nat.reduceAdd, List.drop_succ_cons, List.drop_zero, List.drop_nil, Act.put, List.setIfInBounds_toArray, List.set_cons_succ, List.set_cons_zero]
      try simp only [f0, f1, f2, f3, f4, f5]
      clear f0 f1 f2 f3 f4 f5
      clear holda hapa
      have hEa := hE.trans ((Ext.refl wr).drew.trans hera)
      have hBa := hB.ext ((Ext.refl wr).drew.trans hera)
      clear hera hB hE c1 c2 c3 c4
      by_cases hq : v = x
      · rw [decide_eq_true hq]
        go_wp2
        go_ret
        exact ⟨k, rfl, ⟨fun _ => by rw [hq]; exact hxm, fun _ => by omega⟩, hEa⟩
      · rw [decide_eq_false hq]
        go_wp2
        go_roundw
        case rel => exact ⟨k + 1, by omega, by go_num, by rw [htk.out]; simp only [List.mem_append, List.mem_singleton, not_or]; exact ⟨hno.out, hq⟩, hBa, hEa⟩
        case measure => simp [intOf]; omega
    · obtain rfl : k = G.length := by omega
      rw [List.take_length] at hno
      replace hno := Lib.hid hno
      go_wp2
      go_ret
      exact ⟨-1, rfl, ⟨fun h => by omega, fun h => absurd h hno.out⟩, hE⟩
set_option maxRecDepth 100000 in
theorem contains4_any (p : Option Addr) (n c : Nat) (G : List I4) (v : I4) (w : World) (h : Slc 4 i4C w p n c G) (hn : n ≤ 1000000) :
    Calls Tryz.prog 12 #[.slice p n c, .agg #[.int .i64 v.a, .int .i64 v.b, .int .i64 v.c, .int .i64 v.d]] w fun e w' => e = .returned (.bool (decide (v ∈ G))) ∧ Ext w w' := by
  have hE0 : Ext w (w.alloc (.cells #[.int .i64 v.a, .int .i64 v.b, .int .i64 v.c, .int .i64 v.d] 27)) := (Ext.refl _).alloc _
  have hi := index4_any p n c G v _ (h.ext hE0) hn
  replace hi := Lib.hid hi
  clear h
  go_enter Tryz.func12, Tryz.ntmps12
  go_wp2_with (go_at_call 27; (with_reducible refine Calls.mono hi.out ?_); rintro e w1 ⟨i, rfl, hi2, hb1⟩)
  go_ret
  exact ⟨by rw [show decide (v ∈ G) = decide (0 ≤ i) from decide_eq_decide.2 hi2.symm]; rfl, hE0.trans hb1⟩

theorem choiceF_at {cs : List I4} {i : Nat} {x : I4} (h : cs[i]? = some x) : choiceF cs i = if rightB x then (if x ∈ cs.take i then 6 else 0) else 1 := by
  unfold choiceF; rw [atL_of h]
theorem Slc.takeI {w : World} {b off n c i : Nat} {cs : List I4} (h : Slc 4 i4C w (some ⟨b, off, none⟩) n c cs) (hi : i ≤ n) : Slc 4 i4C w (some ⟨b, off, none⟩) i c (cs.take i) := by
  obtain ⟨hl, -⟩ := slcC h
  obtain ⟨-, ⟨e, _⟩ | ⟨b', o', e, hb, hE⟩⟩ := slcC h
  · cases e
  cases e
  refine ⟨⟨by rw [List.length_take]; omega, Nat.le_trans hi h.1.2.1, fun _ => ⟨b, off, rfl, hb, fun j x hx k v hv => ?_⟩⟩, Nat.le_trans hi h.2.1, (fun e => by cases e), fun a ha => by cases ha; exact ⟨b, off, rfl, hb⟩⟩
  rw [List.getElem?_take] at hx
  split at hx
  · exact hE j x hx k v hv
  · cases hx
set_option maxRecDepth 100000 in
set_option maxHeartbeats 1600000 in
theorem choicesFault_any {p : Option Addr} {n c : Nat} {cs : List I4} {w : World} (h : Slc 4 i4C w p n c cs) :
    Calls Tryz.prog 68 #[.slice p n c] w fun e w' => e = .returned (.int .i64 (choicesF cs)) ∧ Ext w w' := by
  have hF : choicesF cs = if cs.length = 0 then 8 else if 4 < cs.length then 2 else scanF cs.length (choiceF cs) := rfl
  obtain ⟨hl, hp⟩ := slcC h
  have hn := h.1.2.1
  have hnc := h.2.1
  subst hl
  by_cases h0 : cs.length = 0
  · rw [if_pos h0] at hF
    replace hF := Lib.hid hF
    go_enter Tryz.func68, Tryz.ntmps68
    go_wp2
    go_ret
    exact ⟨ret_int hF.out.symm, Ext.refl _⟩
  rw [if_neg h0] at hF
  by_cases h4 : 4 < cs.length
  · rw [if_pos h4] at hF
    replace hF := Lib.hid hF
    have h4I : (4 : Int) < cs.length := by omega
    go_enter Tryz.func68, Tryz.ntmps68
    go_wp2
    go_ret
    exact ⟨ret_int hF.out.symm, Ext.refl _⟩
  rw [if_neg h4] at hF
  replace hF := Lib.hid hF
  rcases hp with ⟨-, e⟩ | ⟨b, off, rfl, hb, hE1⟩
  · rw [e] at h0; exact absurd rfl h0
  have h4I : ¬ (4 : Int) < cs.length := by omega
  go_enter Tryz.func68, Tryz.ntmps68
  go_wp2
  go_loopw [14] (fun i wr => ∃ k : Nat, k ≤ cs.length ∧ i = .int .i64 k ∧ Zeros (choiceF cs) k ∧ Ext w wr) (fun i _ => cs.length - (intOf i).toNat)
  case atStart => exact ⟨0, Nat.zero_le _, rfl, (fun j hj => by omega), Ext.refl _⟩
  case round =>
    obtain ⟨k, hk, rfl, hz, hE⟩ := hrel
    by_cases hlt : k < cs.length
    · obtain ⟨x, hx⟩ := getD_some (rfl : cs.length = cs.length) hlt
      obtain ⟨c1, c2, c3, c4⟩ := (hE1.ext hE hb).iv hx
      have l1 := Nat.lt_of_lt_of_le hb hE.size
      have hkI : (k : Int) < cs.length := by omega
      have hcf := choiceF_at hx
      have hcon := fun u hu => contains4_any _ k c _ x u ((h.ext (hE.trans hu)).takeI (i := k) (by omega)) (by omega)
      cases hr : rightB x
      · rw [hr] at hcf
        simp only [Bool.false_eq_true, if_false] at hcf
        have hFI : faultI x = 1 := by unfold faultI; rw [hr]; rfl
        replace hcf := Lib.hid hcf
        replace hcon := Lib.hid hcon
        go_wp2_with (go_at_call 29; (with_reducible refine Calls.mono (checkInterval_any x _) ?_); rintro e w1 ⟨rfl, hb1⟩)
        go_ret
        exact ⟨ret_int ((scan_is hz hlt hcf.out (by decide)).trans hF.out.symm), hE.trans (((Ext.refl _).alloc _).trans hb1)⟩
      · rw [hr] at hcf
        simp only [if_true] at hcf
        have hFI : faultI x = 0 := by unfold faultI; rw [hr]; rfl
        have hEa : Ext wr (wr.alloc (.cells #[.int .i64 x.a, .int .i64 x.b, .int .i64 x.c, .int .i64 x.d] 27)) := (Ext.refl _).alloc _
        have hXa : Blk (wr.alloc (.cells #[.int .i64 x.a, .int .i64 x.b, .int .i64 x.c, .int .i64 x.d] 27)) wr.heap.size 27 #[.int .i64 x.a, .int .i64 x.b, .int .i64 x.c, .int .i64 x.d] := Blk.new' rfl
        replace hcf := Lib.hid hcf
        replace hcon := Lib.hid hcon
        go_upto_region 11 with (go_at_call 29; (with_reducible refine Calls.mono (checkInterval_any x _) ?_); rintro e w1 ⟨rfl, hb1⟩)
        have hX1 := hXa.ext hb1
        have hE1' := hEa.trans hb1
        have hcon1 := fun u (hu : Ext w1 u) => hcon.out u (hE1'.trans hu)
        replace hcon1 := Lib.hid hcon1
        have hkc : k ≤ c := by omega
        clear hXa hEa hb1 c1 c2 c3 c4
        refine wp_region_facts [] [([], false, false), ([], false, false), ([0, 1], false, false), ([], false, false), ([0, 1, 2, 3], false, false)] (Ext) Ext (fun _ => True) (by kernel_rfl) (by kernel_rfl) Ext.refl (fun _ _ _ => Ext.trans) (fun _ _ h => h) (fun _ _ h => h.size) (fun _ _ h _ => h) trivial ?_
        dsimp only [List.length_cons, List.length_nil, List.drop_succ_cons, List.drop_zero, List.drop_nil]
        refine fac_quiet 0 rfl rfl rfl (fun _ _ h _ => h) rfl rfl ?_
        apply Exists.intro
        refine ⟨fun sv w' hw' hfa => ?_, ?_⟩
        · refine ⟨rfl, ?_⟩
          simp only [putsL]
          change quietTo _ _ _ _ (Sem.run _ (execOp (Act.eval _) _) _)
          try simp only [Act.put, List.setIfInBounds_toArray, List.set_cons_succ, List.set_cons_zero]
          simp [go_sem, quietTo, Ext.refl]
          all_goals first
            | rfl
        refine fac_quiet 1 rfl rfl rfl (fun _ _ h _ => h) rfl rfl ?_
        apply Exists.intro
        refine ⟨fun sv w' hw' hfa => ?_, ?_⟩
        · refine ⟨rfl, ?_⟩
          simp only [putsL]
          change quietTo _ _ _ _ (Sem.run _ (execOp (Act.eval _) _) _)
          try simp only [Act.put, List.setIfInBounds_toArray, List.set_cons_succ, List.set_cons_zero]
          simp [go_sem, quietTo, Ext.refl]
          all_goals first
            | rfl
        refine fac_quiet 2 rfl rfl rfl (fun _ _ h _ => h) rfl rfl ?_
        apply Exists.intro
        refine ⟨fun sv w' hw' hfa => ?_, ?_⟩
        · obtain ⟨f0, f1, -⟩ := hfa
          replace f0 : sv 0 = _ := f0
          try dsimp only at f0
          replace f1 : sv 1 = _ := f1
          try dsimp only at f1
          have hk9 := (Ext.refl w1).drew.trans hw'; obtain ⟨y1, -⟩ := (hX1.ext hk9).walk
          refine ⟨rfl, ?_⟩
          simp only [putsL]
          change quietTo _ _ _ _ (Sem.run _ (execOp (Act.eval (Act.put (Act.put _ (some 25) (sv 1)) (some 24) (sv 0))) _) _)
          try simp only [Act.put, List.setIfInBounds_toArray, List.set_cons_succ, List.set_cons_zero]
          simp [go_sem, quietTo, Ext.refl, ↓IntWalk.iteOmega, f0, f1, hkc]
          all_goals try simp (disch := omega) only [IntWalk.i64_in]
          all_goals first
            | rfl
        refine fac_quiet 3 rfl rfl rfl (fun _ _ h _ => h) rfl rfl ?_
        apply Exists.intro
        refine ⟨fun sv w' hw' hfa => ?_, ?_⟩
        · have hk9 := (Ext.refl w1).drew.trans hw'; obtain ⟨y1, -⟩ := (hX1.ext hk9).walk
          refine ⟨rfl, ?_⟩
          simp only [putsL]
          change quietTo _ _ _ _ (Sem.run _ (execOp (Act.eval _) _) _)
          try simp only [Act.put, List.setIfInBounds_toArray, List.set_cons_succ, List.set_cons_zero]
          simp [go_sem, quietTo, Ext.refl, ↓IntWalk.iteOmega, y1]
          all_goals try simp (disch := omega) only [IntWalk.i64_in]
          all_goals first
            | rfl
        refine fac_quiet 4 rfl rfl rfl (fun _ _ h _ => h) rfl rfl ?_
        apply Exists.intro
        refine ⟨fun sv w' hw' hfa => ?_, ?_⟩
        · obtain ⟨f0, f1, f2, f3, -⟩ := hfa
          replace f0 : sv 0 = _ := f0
          try dsimp only at f0
          replace f1 : sv 1 = _ := f1
          try dsimp only at f1
          replace f2 : sv 2 = _ := f2
          try dsimp only at f2
          replace f3 : sv 3 = _ := f3
          try dsimp only at f3
          have hk9 := (Ext.refl w1).drew.trans hw'; obtain ⟨y1, -⟩ := (hX1.ext hk9).walk
          refine ⟨rfl, ?_⟩
          simp only [putsL]
          change quietTo _ _ _ _ (Sem.run _ (execOp (Act.eval (Act.put (Act.put (Act.put (Act.put _ (some 27) (sv 3)) (some 26) (sv 2)) (some 25) (sv 1)) (some 24) (sv 0))) _) _)
          try simp only [Act.put, List.setIfInBounds_toArray, List.set_cons_succ, List.set_cons_zero]
          simp [go_sem, quietTo, Ext.refl, ↓IntWalk.iteOmega, f2, f3]
          all_goals try simp (disch := omega) only [IntWalk.i64_in]
          all_goals first
            | rfl
            | (exact hcon1.out _ hk9)
        refine fac_nil fun xa wra hera hfra hcra holda hapa => ?_
        obtain ⟨f0, f1, f2, f3, f4, -⟩ := hfra
        replace f0 : xa 0 = _ := f0
        try dsimp only at f0
        replace f1 : xa 1 = _ := f1
        try dsimp only at f1
        replace f2 : xa 2 = _ := f2
        try dsimp only at f2
        replace f3 : xa 3 = _ := f3
        try dsimp only at f3
        replace f4 : xa 4 = _ := f4
        try dsimp only at f4
        change wpList _ _ _ _ (Act.put (Act.put (Act.put (Act.put (Act.put _ (some 24) (xa 0)) (some 25) (xa 1)) (some 26) (xa 2)) (some 27) (xa 3)) (some 28) (xa 4)) _
        simp only [putsL, Nat.reduceAdd, List.drop_succ_cons, List.drop_zero, List.drop_nil, Act.put, List.setIfInBounds_toArray, List.set_cons_succ, List.set_cons_zero]
        try simp only [f0, f1, f2, f3, f4]
        clear f0 f1 f2 f3 f4
        clear holda hapa
        have hEz := (hE.trans hE1').trans ((Ext.refl w1).drew.trans hera)
        by_cases hm : x ∈ cs.take k
        · rw [decide_eq_true hm]
          have hcf2 := hcf.out
          rw [if_pos hm] at hcf2
          go_wp2
          go_ret
          exact ⟨ret_int ((scan_is hz hlt hcf2 (by decide)).trans hF.out.symm), hEz⟩
        · rw [decide_eq_false hm]
          have hcf2 := hcf.out
          rw [if_neg hm] at hcf2
          replace hcf2 := Lib.hid hcf2
          go_wp2
          go_roundw
          case rel => exact ⟨k + 1, by omega, by go_num, hz.succ hcf2.out, hEz⟩
          case measure => simp [intOf]; omega
    · obtain rfl : k = cs.length := by omega
      go_wp2
      go_ret
      exact ⟨ret_int ((scan_zero hz).symm.trans hF.out.symm), hE⟩
end Go.Proofs.YtapjekpjekdlkaaGreatDoor
