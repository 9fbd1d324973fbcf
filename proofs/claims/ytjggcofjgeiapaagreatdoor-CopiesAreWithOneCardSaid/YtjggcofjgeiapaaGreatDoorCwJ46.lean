/- Right slips that the stream makes; texts of slips that it changes. Conditions: sizes. A list of one that was paid, by tour. Conditions: it is right. -/
import Derived.Test.YtjggcofjgeiapaaGreatDoorCwSlK
import Derived.Test.YtjggcofjgeiapaaGreatDoorCwTxF
import Derived.Test.YtjggcofjgeiapaaGreatDoorCwJ7
import Derived.Test.YtjggcofjgeiapaaGreatDoorCwJ3
import Derived.Test.YtjggcofjgeiapaaGreatDoorCwFactsB
import Derived.Deep.Light
import Derived.Outline
import Derived.Deep.DeepCutAuto
set_option linter.unusedSimpArgs false
set_option linter.unusedVariables false
namespace Go.Proofs.YtjggcofjgeiapaaGreatDoor
open Go Go.RowKit

/-- What the maker of right slips answers. -/
def RightR (s k : Nat) (w : World) (e : Ending) (w' : World) : Prop := ∃ (p : Option Addr) (n c : Nat) (V : List SlipV), e = .returned (.slice p n c) ∧ n ≤ 14 ∧ Slc 7 slipC w' p n c V ∧ (∀ a, p = some a → w.heap.size ≤ a.block) ∧ V.length = n ∧ (∀ x ∈ V, x.Small) ∧ slipsF V = 0 ∧ Str w' s (k + 720) ∧ ExtS s w w'
set_option maxRecDepth 100000 in
set_option maxHeartbeats 3200000 in
theorem rightSlips_any (s k : Nat) (w : World) (hk : k ≤ 800000) (h : Str w s k) :
    Calls Tryz.prog 10 #[.pointer (some ⟨s, 0, none⟩)] w (RightR s k w) := by
  go_enter Tryz.func10, Tryz.ntmps10
  go_wp2
  go_loopw [4] (fun v4 wr => ∃ j : Nat, j ≤ 6 ∧ v4 = .int .i64 j ∧ Str wr s (k + 120 * j) ∧ ExtS s w wr) (fun v4 _ => 6 - (intOf v4).toNat)
  case atStart => exact ⟨0, Nat.zero_le _, rfl, h, ExtS.refl _ _⟩
  case round =>
    obtain ⟨j, hj, rfl, hS, hE⟩ := hrel
    by_cases hlt : j < 6
    · have hjI : (j : Int) < 6 := by omega
      have hsl := slips_any s (k + 120 * j) wr (by omega) hS
      have hwr := hE.2.2.2.1
      have hlow : ∀ (w' : World) (p : Option Addr) (n c : Nat) (V : List SlipV), w'.ownsRow (wr.heap.size + 1) 66 7 (.slice p n c) n (V.flatMap slipC) → n ≤ 14 → Slc 7 slipC w' p n c V ∧ ∀ a, p = some a → w.heap.size ≤ a.block := fun w' p n c V ho hn => by
        obtain ⟨p', c', e', hS'⟩ := slc_of_own slipC_len ho (by decide) (by omega)
        cases e'
        refine ⟨hS', fun a ha => ?_⟩
        subst ha
        have := (ho.lt a.block rfl).1
        omega
      replace hsl := Lib.hid hsl
      replace hlow := Lib.hid hlow
      go_upto_if 10 with (first
        | (go_at_call 31; (with_reducible refine Calls.mono hsl.out ?_); rintro e w2 ⟨p, n, c, V, rfl, hn, hown, hVl, hsm, hS2, hE2⟩; obtain ⟨hSl, hpb⟩ := hlow.out w2 p n c V hown hn; clear hown; replace hpb := Lib.hid hpb)
        | (go_at_call 34; refine (slipsFault_any p n c V w2 hSl.1 hsm (by omega)).mono ?_; rintro e w3 ⟨rfl, hb3⟩))
      have hE3 : ExtS s w w3 := (hE.trans hE2).ext hb3
      have hS3 := hS2.ext hb3
      have hSl3 := hSl.ext hb3
      clear hSl hE hS hE2 hS2
      by_cases hq : slipsF V = 0
      · have hres : RightR s k w (.returned (.slice p n c)) w3 := ⟨p, n, c, V, rfl, hn, hSl3, hpb.out, hVl, hsm, hq, hS3.more (by omega), hE3⟩
        replace hres := Lib.hid hres
        replace hSl3 := Lib.hid hSl3
        replace hsm := Lib.hid hsm
        generalize slipsF V = f at *
        go_wp2
        go_ret
        exact hres.out
      · replace hSl3 := Lib.hid hSl3
        replace hsm := Lib.hid hsm
        generalize slipsF V = f at *
        go_wp2
        go_roundw
        case rel => exact ⟨j + 1, by omega, by go_num, hS3.more (by omega), hE3⟩
        case measure => simp [intOf]; omega
    · obtain rfl : j = 6 := by omega
      go_wp2
      go_ret
      exact ⟨none, 0, 0, [], rfl, by omega, Slc.nil _ _ _, (fun a ha => by cases ha), rfl, (fun x hx => by cases hx), rfl, hS.more (by omega), hE⟩

end Go.Proofs.YtjggcofjgeiapaaGreatDoor

namespace Go.Proofs.YtjggcofjgeiapaaGreatDoor
open Go Go.RowKit Go.Maps Go.WideMaps

set_option maxRecDepth 100000 in
theorem isMoment_any (n : Int) (w : World) :
    Calls Tryz.prog 116 #[.int .i64 n] w fun e w' => e = .returned (.bool (!outB n 0 345686399999)) ∧ w = w' := by
  go_enter Tryz.func116, Tryz.ntmps116
  go_wp2_with (go_at_call 87; refine (outside_any n 0 345686399999 _).mono ?_; rintro e w' ⟨rfl, rfl⟩)
  go_ret
  exact ⟨rfl, rfl⟩

structure Paid where
  id : ByteArray
  by_ : ByteArray
  at_ : Int
  cents : Int
  p : Option Addr
  n : Nat
  c : Nat
def Paid.cells (x : Paid) : Array Value := #[.string x.id, .string x.by_, .int .i64 x.at_, .int .i64 x.cents, .slice x.p x.n x.c]
structure Paid.Right (x : Paid) (ls : List ByteArray) : Prop where
  id : keyB x.id = true
  by_ : keyB x.by_ = true
  ids : x.id.size ≤ 1000000000
  bys : x.by_.size ≤ 1000000000
  at_ : outB x.at_ 0 345686399999 = false
  cents : outB x.cents 1 100000000 = false
  for_ : forF ls = 0
  sizes : ∀ (i : Nat) (s : ByteArray), ls[i]? = some s → s.size ≤ 1000000000

set_option maxRecDepth 100000 in
set_option maxHeartbeats 1600000 in
theorem checkPaid1_ok (b cap : Nat) (x : Paid) (ls : List ByteArray) (w : World) (hB : Blk w b 100 x.cells) (hR : x.Right ls) (hL : Sl 1 strC w x.p x.n ls) :
    Calls Tryz.prog 114 #[.slice (some ⟨b, 0, none⟩) 1 cap] w fun e w' => e = .returned (.int .i64 0) ∧ Ext w w' := by
  have hmm := @run_makeMap Tryz.prog
  obtain ⟨r1, r2, r3, r4, r5, r6, r7, r8⟩ := hR
  unfold Paid.cells at hB
  have hlt := hB.lt
  replace hB := Lib.hid hB
  go_enter Tryz.func114, Tryz.ntmps114
  go_wp2
  go_loopw [14] (fun i w' => ∃ k : Nat, k ≤ 1 ∧ i = .int .i64 k ∧ Ext w w') (fun i _ => 1 - (intOf i).toNat)
  case atStart => exact ⟨0, Nat.zero_le _, rfl, Ext.refl _⟩
  case round =>
    obtain ⟨k, hk, rfl, he⟩ := hrel
    have hlw := Nat.lt_of_lt_of_le hlt he.size
    by_cases hk0 : k = 0
    · subst hk0
      obtain ⟨q1, q2⟩ := (hB.out.ext he).walk
      have hX := Blk.new' (w := wr) (t := 100) (cs := x.cells) rfl
      unfold Paid.cells at hX
      replace hX := Lib.hid hX
      go_upto_region 13 with (first
        | (go_at_call 86; (with_reducible refine Calls.mono (isKey_is r1 r3 _) ?_); rintro e w1 ⟨rfl, hb1⟩; have hX1 := Blk.ext hX.out hb1; obtain ⟨s1, f1⟩ := hX1.walk; replace hX1 := Lib.hid hX1; have hz1 := hb1.size)
        | (go_at_call 86; (with_reducible refine Calls.mono (isKey_is r2 r4 _) ?_); rintro e w2 ⟨rfl, hb2⟩; have hX2 := Blk.ext hX1.out hb2; obtain ⟨s2, f2⟩ := hX2.walk; replace hX2 := Lib.hid hX2; have hz2 := hb2.size)
        | (go_at_call 116; refine (isMoment_any _ _).mono ?_; rintro e w' ⟨rfl, rfl⟩)
        | (go_at_call 87; refine (outside_any _ _ _ _).mono ?_; rintro e w' ⟨rfl, rfl⟩)
        | (go_at_call 157; refine (forFault_any x.p x.n x.c ls _ (hL.ext (((he.alloc _).trans hb1).trans hb2)) r8).mono ?_; rintro e w3 ⟨rfl, hb3⟩))
      refine wp_region_facts [] [([], false, false), ([0], false, false), ([0, 1], false, false), ([0, 1, 2], false, false), ([0, 1, 2], false, false), ([0, 1, 2, 4], false, false), ([0, 1, 2, 3, 4, 5], false, false), ([0, 1, 2, 3, 4, 5, 6], false, false), ([0, 1, 2], false, false), ([0, 1, 2, 3, 4, 5, 6, 7, 8], false, false), ([0, 1, 2, 3, 4, 5, 6, 7, 8, 9], false, false), ([0, 1, 2, 3, 4, 5, 6, 7, 8, 9, 10], false, false)] (Ext) Ext (fun _ => True) (by kernel_rfl) (by kernel_rfl) Ext.refl (fun _ _ _ => Ext.trans) (fun _ _ h => h) (fun _ _ h => h.size) (fun _ _ h _ => h) trivial ?_
      dsimp only [List.length_cons, List.length_nil, List.drop_succ_cons, List.drop_zero, List.drop_nil]
      refine fac_quiet 0 rfl rfl rfl (fun _ _ h _ => h) rfl rfl ?_
      apply Exists.intro
      refine ⟨fun sv w' hw' hfa => ?_, ?_⟩
      · refine ⟨rfl, ?_⟩
        simp only [putsL]
        change quietTo _ _ _ _ (Sem.run _ (execOp (Act.eval _) _) _)
        try simp only [Act.put, List.setIfInBounds_toArray, List.set_cons_succ, List.set_cons_zero]
        simp [go_sem, quietTo, Ext.refl]
        all_goals first
          | rfl
      refine fac_quiet 1 rfl rfl rfl (fun _ _ h _ => h) rfl rfl ?_
      apply Exists.intro
      refine ⟨fun sv w' hw' hfa => ?_, ?_⟩
      · obtain ⟨f0, -⟩ := hfa
        replace f0 : sv 0 = _ := f0
        try dsimp only at f0
        refine ⟨rfl, ?_⟩
        simp only [putsL]
        change quietTo _ _ _ _ (Sem.run _ (execOp (Act.eval (Act.put _ (some 44) (sv 0))) _) _)
        try simp only [Act.put, List.setIfInBounds_toArray, List.set_cons_succ, List.set_cons_zero]
        simp [go_sem, quietTo, Ext.refl, ↓IntWalk.iteOmega, f0]
        all_goals try simp (disch := omega) only [IntWalk.i64_in]
        all_goals first
          | rfl
      refine fac_quiet 2 rfl rfl rfl (fun _ _ h _ => h) rfl rfl ?_
      apply Exists.intro
      refine ⟨fun sv w' hw' hfa => ?_, ?_⟩
      · obtain ⟨_, f1, -⟩ := hfa
        replace f1 : sv 1 = _ := f1
        try dsimp only at f1
        refine ⟨rfl, ?_⟩
        simp only [putsL]
        change quietTo _ _ _ _ (Sem.run _ (execOp (Act.eval (Act.put (Act.put _ (some 45) (sv 1)) (some 44) (sv 0))) _) _)
        try simp only [Act.put, List.setIfInBounds_toArray, List.set_cons_succ, List.set_cons_zero]
        simp [go_sem, quietTo, Ext.refl, f1]
        all_goals first
          | rfl
      refine fac_skip 3 rfl rfl rfl (fun _ _ h _ => h) Ext.refl ?_ ?_
      · intro sv w' hw' hfa
        obtain ⟨f0, f1, f2, -⟩ := hfa
        replace f0 : sv 0 = _ := f0
        try dsimp only at f0
        replace f1 : sv 1 = _ := f1
        try dsimp only at f1
        replace f2 : sv 2 = _ := f2
        try dsimp only at f2
        simp [Region.wanted, yielded, putsL, Act.put, f2]
      refine fac_skip 4 rfl rfl rfl (fun _ _ h _ => h) Ext.refl ?_ ?_
      · intro sv w' hw' hfa
        obtain ⟨f0, f1, f2, -⟩ := hfa
        replace f0 : sv 0 = _ := f0
        try dsimp only at f0
        replace f1 : sv 1 = _ := f1
        try dsimp only at f1
        replace f2 : sv 2 = _ := f2
        try dsimp only at f2
        simp [Region.wanted, yielded, putsL, Act.put, f2]
      refine fac_skip 5 rfl rfl rfl (fun _ _ h _ => h) Ext.refl ?_ ?_
      · intro sv w' hw' hfa
        obtain ⟨f0, f1, f2, f4, -⟩ := hfa
        replace f0 : sv 0 = _ := f0
        try dsimp only at f0
        replace f1 : sv 1 = _ := f1
        try dsimp only at f1
        replace f2 : sv 2 = _ := f2
        try dsimp only at f2
        replace f4 : sv 4 = _ := f4
        try dsimp only at f4
        simp [Region.wanted, yielded, putsL, Act.put, f2, f4]
      refine fac_skip 6 rfl rfl rfl (fun _ _ h _ => h) Ext.refl ?_ ?_
      · intro sv w' hw' hfa
        obtain ⟨f0, f1, f2, f3, f4, f5, -⟩ := hfa
        replace f0 : sv 0 = _ := f0
        try dsimp only at f0
        replace f1 : sv 1 = _ := f1
        try dsimp only at f1
        replace f2 : sv 2 = _ := f2
        try dsimp only at f2
        replace f3 : sv 3 = _ := f3
        try dsimp only at f3
        replace f4 : sv 4 = _ := f4
        try dsimp only at f4
        replace f5 : sv 5 = _ := f5
        try dsimp only at f5
        simp [Region.wanted, yielded, putsL, Act.put, f2, f3, f5]
      refine fac_skip 7 rfl rfl rfl (fun _ _ h _ => h) Ext.refl ?_ ?_
      · intro sv w' hw' hfa
        obtain ⟨f0, f1, f2, f3, f4, f5, f6, -⟩ := hfa
        replace f0 : sv 0 = _ := f0
        try dsimp only at f0
        replace f1 : sv 1 = _ := f1
        try dsimp only at f1
        replace f2 : sv 2 = _ := f2
        try dsimp only at f2
        replace f3 : sv 3 = _ := f3
        try dsimp only at f3
        replace f4 : sv 4 = _ := f4
        try dsimp only at f4
        replace f5 : sv 5 = _ := f5
        try dsimp only at f5
        replace f6 : sv 6 = _ := f6
        try dsimp only at f6
        simp [Region.wanted, yielded, putsL, Act.put, f2, f6]
      refine fac_skip 8 rfl rfl rfl (fun _ _ h _ => h) Ext.refl ?_ ?_
      · intro sv w' hw' hfa
        obtain ⟨f0, f1, f2, -⟩ := hfa
        replace f0 : sv 0 = _ := f0
        try dsimp only at f0
        replace f1 : sv 1 = _ := f1
        try dsimp only at f1
        replace f2 : sv 2 = _ := f2
        try dsimp only at f2
        simp [Region.wanted, yielded, putsL, Act.put, f2]
      refine fac_skip 9 rfl rfl rfl (fun _ _ h _ => h) Ext.refl ?_ ?_
      · intro sv w' hw' hfa
        obtain ⟨f0, f1, f2, f3, f4, f5, f6, f7, f8, -⟩ := hfa
        replace f0 : sv 0 = _ := f0
        try dsimp only at f0
        replace f1 : sv 1 = _ := f1
        try dsimp only at f1
        replace f2 : sv 2 = _ := f2
        try dsimp only at f2
        replace f3 : sv 3 = _ := f3
        try dsimp only at f3
        replace f4 : sv 4 = _ := f4
        try dsimp only at f4
        replace f5 : sv 5 = _ := f5
        try dsimp only at f5
        replace f6 : sv 6 = _ := f6
        try dsimp only at f6
        replace f7 : sv 7 = _ := f7
        try dsimp only at f7
        replace f8 : sv 8 = _ := f8
        try dsimp only at f8
        simp [Region.wanted, yielded, putsL, Act.put, f2, f7, f8]
      refine fac_skip 10 rfl rfl rfl (fun _ _ h _ => h) Ext.refl ?_ ?_
      · intro sv w' hw' hfa
        obtain ⟨f0, f1, f2, f3, f4, f5, f6, f7, f8, f9, -⟩ := hfa
        replace f0 : sv 0 = _ := f0
        try dsimp only at f0
        replace f1 : sv 1 = _ := f1
        try dsimp only at f1
        replace f2 : sv 2 = _ := f2
        try dsimp only at f2
        replace f3 : sv 3 = _ := f3
        try dsimp only at f3
        replace f4 : sv 4 = _ := f4
        try dsimp only at f4
        replace f5 : sv 5 = _ := f5
        try dsimp only at f5
        replace f6 : sv 6 = _ := f6
        try dsimp only at f6
        replace f7 : sv 7 = _ := f7
        try dsimp only at f7
        replace f8 : sv 8 = _ := f8
        try dsimp only at f8
        replace f9 : sv 9 = _ := f9
        try dsimp only at f9
        simp [Region.wanted, yielded, putsL, Act.put, f2, f9]
      refine fac_quiet 11 rfl rfl rfl (fun _ _ h _ => h) rfl rfl ?_
      apply Exists.intro
      refine ⟨fun sv w' hw' hfa => ?_, ?_⟩
      · obtain ⟨_, _, f2, _, _, _, _, _, _, _, f10, -⟩ := hfa
        replace f2 : sv 2 = _ := f2
        try dsimp only at f2
        replace f10 : sv 10 = _ := f10
        try dsimp only at f10
        refine ⟨rfl, ?_⟩
        simp only [putsL]
        change quietTo _ _ _ _ (Sem.run _ (execOp (Act.eval (Act.put (Act.put (Act.put (Act.put (Act.put (Act.put (Act.put (Act.put (Act.put (Act.put (Act.put _ (some 54) (sv 10)) (some 53) (sv 9)) (some 52) (sv 8)) (some 51) (sv 7)) (some 50) (sv 6)) (some 49) (sv 5)) (some 48) (sv 4)) (some 47) (sv 3)) (some 46) (sv 2)) (some 45) (sv 1)) (some 44) (sv 0))) _) _)
        try simp only [Act.put, List.setIfInBounds_toArray, List.set_cons_succ, List.set_cons_zero]
        simp [go_sem, quietTo, Ext.refl, ↓IntWalk.iteOmega, f2, f10]
        all_goals try simp (disch := omega) only [IntWalk.i64_in]
        all_goals first
          | rfl
      refine fac_nil fun x wr her hfr hcr hold hap => ?_
      obtain ⟨f0, f1, f2, f3, f4, f5, f6, f7, f8, f9, f10, f11, -⟩ := hfr
      replace f0 : x 0 = _ := f0
      try dsimp only at f0
      replace f1 : x 1 = _ := f1
      try dsimp only at f1
      replace f2 : x 2 = _ := f2
      try dsimp only at f2
      replace f3 : x 3 = _ := f3
      try dsimp only at f3
      replace f4 : x 4 = _ := f4
      try dsimp only at f4
      replace f5 : x 5 = _ := f5
      try dsimp only at f5
      replace f6 : x 6 = _ := f6
      try dsimp only at f6
      replace f7 : x 7 = _ := f7
      try dsimp only at f7
      replace f8 : x 8 = _ := f8
      try dsimp only at f8
      replace f9 : x 9 = _ := f9
      try dsimp only at f9
      replace f10 : x 10 = _ := f10
      try dsimp only at f10
      replace f11 : x 11 = _ := f11
      try dsimp only at f11
      change wpList _ _ _ _ (Act.put (Act.put (Act.put (Act.put (Act.put (Act.put (Act.put (Act.put (Act.put (Act.put (Act.put (Act.put _ (some 44) (x 0)) (some 45) (x 1)) (some 46) (x 2)) (some 47) (x 3)) (some 48) (x 4)) (some 49) (x 5)) (some 50) (x 6)) (some 51) (x 7)) (some 52) (x 8)) (some 53) (x 9)) (some 54) (x 10)) (some 55) (x 11)) _
      simp only [putsL, Nat.reduceAdd, List.drop_succ_cons, List.drop_zero, List.drop_nil, Act.put, List.setIfInBounds_toArray, List.set_cons_succ, List.set_cons_zero]
      try simp only [f0, f1, f2, f3, f4, f5, f6, f7, f8, f9, f10, f11]
      clear f0 f1 f2 f3 f4 f5 f6 f7 f8 f9 f10 f11
      clear hold hap
      go_wp2
      exact ⟨⟨1, Nat.le_refl _, rfl, (((he.alloc _).trans hb1).trans hb2).trans hb3 |>.drew |>.trans her⟩, by simp [intOf]⟩
    · obtain rfl : k = 1 := by omega
      rw [show ((1 : Nat) : Int) = 1 from rfl]
      go_wp2
      have hown0 : (wr.alloc (.map #[] 0)).ownsMap Tryz.prog 9 (plainElem (H := Unit) Tryz.prog 4) wr.heap.size 0 (.map []) := World.ownsMap_made _ _ _ _
      replace hown0 := Lib.hid hown0
      have he0 : Ext w (wr.alloc (.map #[] 0)) := he.alloc _
      replace he0 := Lib.hid he0
      have hwr := he.size
      clear he hlw
      generalize hW : wr.alloc (.map #[] 0) = W at *
      clear hW
      generalize wr.heap.size = mb at *
      go_loopw [60] (fun i w' => ∃ k : Nat, k ≤ 1 ∧ i = .int .i64 k ∧ Ext w w' ∧ (k = 0 → w'.ownsMap Tryz.prog 9 (plainElem (H := Unit) Tryz.prog 4) mb 0 (.map []))) (fun i _ => 1 - (intOf i).toNat)
      case atStart => exact ⟨0, Nat.zero_le _, rfl, he0.out, fun _ => hown0.out⟩
      case round =>
        clear hown0 he0
        obtain ⟨k, hk, rfl, he, hm⟩ := hrel
        have hlw := Nat.lt_of_lt_of_le hlt he.size
        by_cases hk0 : k = 0
        · subst hk0
          have hown := hm rfl
          clear hm
          have hkey : keyOf Tryz.prog 9 (.string x.id) = some (.string x.id.data.toList) := keyOf_string_mk Tryz.underlying9 (by unfold maxLen; omega)
          obtain ⟨q1, q2⟩ := (hB.out.ext he).walk
          go_wp2_with (first
            | (at_lookup; refine wpList_lookup_own_bool _ rfl _ _ 218 rfl 9 4 (string_keyed Tryz.underlying9) Tryz.underlying218 Tryz.underlying4 (Tryz.zeroValue4 _) mb 0 (.map []) rfl (hown.alloc _) _ _ rfl hkey ?_; intro c hat; obtain rfl : false = c := by simpa [DataW.atKey] using hat)
            | (at_mapUpdate; refine wpList_mapUpdate_own _ rfl _ _ _ 218 rfl 9 4 (string_keyed Tryz.underlying9) Tryz.underlying218 (plainElem (H := Unit) Tryz.prog 4) mb 0 _ rfl (hown.alloc _) (by decide) _ _ _ rfl rfl hkey _ [] (plainElem_bool Tryz.underlying4 true) ?_; intro w1 hown1 hgrow1)
            | go_in)
          go_roundw
          case rel => exact ⟨1, Nat.le_refl _, rfl, (he.alloc _).grown hgrow1 (fun j hj => by cases hj; exact hwr), fun h => by cases h⟩
          case measure => simp [intOf]
        · obtain rfl : k = 1 := by omega
          go_wp2
          go_ret
          exact ⟨rfl, he⟩

end Go.Proofs.YtjggcofjgeiapaaGreatDoor
