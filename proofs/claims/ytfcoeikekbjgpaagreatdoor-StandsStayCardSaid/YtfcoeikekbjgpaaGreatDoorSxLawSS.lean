/- The law of people, stages and stands that are handed in: they stay. Conditions: the argument is a list of ints that lies in memory; the table of powers. -/
import Derived.Test.YtfcoeikekbjgpaaGreatDoorSxDetD
import Derived.Test.YtfcoeikekbjgpaaGreatDoorSxMiJ
import Derived.Test.YtfcoeikekbjgpaaGreatDoorSxMiF
import Derived.Test.YtfcoeikekbjgpaaGreatDoorSxRoP
import Derived.Test.YtfcoeikekbjgpaaGreatDoorSxSuB
import Derived.Test.YtfcoeikekbjgpaaGreatDoorSxJ47
import Derived.Deep.DeepCutAuto
set_option linter.unusedSimpArgs false
set_option linter.unusedVariables false
namespace Go.Proofs.YtfcoeikekbjgpaaGreatDoor
open Go Go.RowKit

set_option maxRecDepth 100000 in
set_option maxHeartbeats 1600000 in
theorem eqPer_any (p q : Option Addr) (n c d : Nat) (xs : List PersonV) (w : World) (h1 : Slc 3 perC w p n c xs) (h2 : Slc 3 perC w q n d xs) (hn : n ≤ 100000) :
    Calls Tryz.prog 27 #[.slice p n c, .slice q n d] w fun e w' => e = .returned (.bool true) ∧ Ext w w' := by
  obtain ⟨hl, hp⟩ := slcC h1
  obtain ⟨-, hq⟩ := slcC h2
  subst hl
  replace hp := Lib.hid hp
  replace hq := Lib.hid hq
  clear h1 h2
  go_enter Tryz.func27, Tryz.ntmps27
  go_wp2
  go_loopw [13] (fun i wr => ∃ k : Nat, k ≤ xs.length ∧ i = .int .i64 k ∧ Ext w wr) (fun i _ => xs.length - (intOf i).toNat)
  case atStart => exact ⟨0, Nat.zero_le _, rfl, Ext.refl _⟩
  case round =>
    obtain ⟨k, hk, rfl, hE⟩ := hrel
    by_cases hlt : k < xs.length
    · obtain ⟨x, hx⟩ := getD_some (rfl : xs.length = xs.length) hlt
      rcases hp.out with ⟨-, e⟩ | ⟨b1, o1, rfl, hb1, hE1⟩
      · rw [e] at hx; cases hx
      rcases hq.out with ⟨-, e⟩ | ⟨b2, o2, rfl, hb2, hE2⟩
      · rw [e] at hx; cases hx
      obtain ⟨c1, c3, c5⟩ := (hE1.ext hE hb1).per hx
      obtain ⟨c2, c4, c6⟩ := (hE2.ext hE hb2).per hx
      have l1 := Nat.lt_of_lt_of_le hb1 hE.size
      have l2 := Nat.lt_of_lt_of_le hb2 hE.size
      have hkI : (k : Int) < xs.length := by omega
      clear hx hE1 hE2
      go_upto_region 6 with fail
      refine wp_region_facts [] [([], false, false), ([], false, false), ([0, 1], false, false), ([0, 1, 2], false, false), ([], false, false), ([], false, false), ([4, 5], false, false), ([4, 5, 6], false, false), ([0, 1, 2, 3, 4, 5, 6, 7], false, false)] (Ext) Ext (fun _ => True) (by kernel_rfl) (by kernel_rfl) Ext.refl (fun _ _ _ => Ext.trans) (fun _ _ h => h) (fun _ _ h => h.size) (fun _ _ h _ => h) trivial ?_
      dsimp only [List.length_cons, List.length_nil, List.drop_succ_cons, List.drop_zero, List.drop_nil]
      refine fac_quiet 0 rfl rfl rfl (fun _ _ h _ => h) rfl rfl ?_
      apply Exists.intro
      refine ⟨fun sv w' hw' hfa => ?_, ?_⟩
      · refine ⟨rfl, ?_⟩
        simp only [putsL]
        change quietTo _ _ _ _ (Sem.run _ (execOp (Act.eval _) _) _)
        try simp only [Act.put, List.setIfInBounds_toArray, List.set_cons_succ, List.set_cons_zero]
        simp [go_sem, quietTo, Ext.refl]
        all_goals first
          | rfl
      refine fac_quiet 1 rfl rfl rfl (fun _ _ h _ => h) rfl rfl ?_
      apply Exists.intro
      refine ⟨fun sv w' hw' hfa => ?_, ?_⟩
      · refine ⟨rfl, ?_⟩
        simp only [putsL]
        change quietTo _ _ _ _ (Sem.run _ (execOp (Act.eval _) _) _)
        try simp only [Act.put, List.setIfInBounds_toArray, List.set_cons_succ, List.set_cons_zero]
        simp [go_sem, quietTo, Ext.refl]
        all_goals first
          | rfl
      refine fac_quiet 2 rfl rfl rfl (fun _ _ h _ => h) rfl rfl ?_
      apply Exists.intro
      refine ⟨fun sv w' hw' hfa => ?_, ?_⟩
      · obtain ⟨f0, f1, -⟩ := hfa
        replace f0 : sv 0 = _ := f0
        try dsimp only at f0
        replace f1 : sv 1 = _ := f1
        try dsimp only at f1
        have hk9 := (Ext.refl wr).drew.trans hw'; obtain ⟨hc, hff, hz9⟩ := hk9.walk; have y1 := (hc _ _ l1).trans c1; have y2 := (hc _ _ l2).trans c2; have y3 := (hc _ _ l1).trans c3; have y4 := (hc _ _ l2).trans c4; have y5 := (hc _ _ l1).trans c5; have y6 := (hc _ _ l2).trans c6
        refine ⟨rfl, ?_⟩
        simp only [putsL]
        change quietTo _ _ _ _ (Sem.run _ (execOp (Act.eval (Act.put (Act.put _ (some 17) (sv 1)) (some 16) (sv 0))) _) _)
        try simp only [Act.put, List.setIfInBounds_toArray, List.set_cons_succ, List.set_cons_zero]
        simp [go_sem, quietTo, Ext.refl, ↓IntWalk.iteOmega, f0, f1, hkI]
        all_goals try simp (disch := omega) only [IntWalk.i64_in]
        all_goals first
          | rfl
      refine fac_quiet 3 rfl rfl rfl (fun _ _ h _ => h) rfl rfl ?_
      apply Exists.intro
      refine ⟨fun sv w' hw' hfa => ?_, ?_⟩
      · obtain ⟨_, _, f2, -⟩ := hfa
        replace f2 : sv 2 = _ := f2
        try dsimp only at f2
        have hk9 := (Ext.refl wr).drew.trans hw'; obtain ⟨hc, hff, hz9⟩ := hk9.walk; have y1 := (hc _ _ l1).trans c1; have y2 := (hc _ _ l2).trans c2; have y3 := (hc _ _ l1).trans c3; have y4 := (hc _ _ l2).trans c4; have y5 := (hc _ _ l1).trans c5; have y6 := (hc _ _ l2).trans c6
        refine ⟨rfl, ?_⟩
        simp only [putsL]
        change quietTo _ _ _ _ (Sem.run _ (execOp (Act.eval (Act.put (Act.put (Act.put _ (some 18) (sv 2)) (some 17) (sv 1)) (some 16) (sv 0))) _) _)
        try simp only [Act.put, List.setIfInBounds_toArray, List.set_cons_succ, List.set_cons_zero]
        simp [go_sem, quietTo, Ext.refl, ↓IntWalk.iteOmega, f2, y1, y3, y5]
        all_goals try simp (disch := omega) only [IntWalk.i64_in]
        all_goals first
          | rfl
      refine fac_quiet 4 rfl rfl rfl (fun _ _ h _ => h) rfl rfl ?_
      apply Exists.intro
      refine ⟨fun sv w' hw' hfa => ?_, ?_⟩
      · refine ⟨rfl, ?_⟩
        simp only [putsL]
        change quietTo _ _ _ _ (Sem.run _ (execOp (Act.eval _) _) _)
        try simp only [Act.put, List.setIfInBounds_toArray, List.set_cons_succ, List.set_cons_zero]
        simp [go_sem, quietTo, Ext.refl]
        all_goals first
          | rfl
      refine fac_quiet 5 rfl rfl rfl (fun _ _ h _ => h) rfl rfl ?_
      apply Exists.intro
      refine ⟨fun sv w' hw' hfa => ?_, ?_⟩
      · refine ⟨rfl, ?_⟩
        simp only [putsL]
        change quietTo _ _ _ _ (Sem.run _ (execOp (Act.eval _) _) _)
        try simp only [Act.put, List.setIfInBounds_toArray, List.set_cons_succ, List.set_cons_zero]
        simp [go_sem, quietTo, Ext.refl]
        all_goals first
          | rfl
      refine fac_quiet 6 rfl rfl rfl (fun _ _ h _ => h) rfl rfl ?_
      apply Exists.intro
      refine ⟨fun sv w' hw' hfa => ?_, ?_⟩
      · obtain ⟨f4, f5, -⟩ := hfa
        replace f4 : sv 4 = _ := f4
        try dsimp only at f4
        replace f5 : sv 5 = _ := f5
        try dsimp only at f5
        have hk9 := (Ext.refl wr).drew.trans hw'; obtain ⟨hc, hff, hz9⟩ := hk9.walk; have y1 := (hc _ _ l1).trans c1; have y2 := (hc _ _ l2).trans c2; have y3 := (hc _ _ l1).trans c3; have y4 := (hc _ _ l2).trans c4; have y5 := (hc _ _ l1).trans c5; have y6 := (hc _ _ l2).trans c6
        refine ⟨rfl, ?_⟩
        simp only [putsL]
        change quietTo _ _ _ _ (Sem.run _ (execOp (Act.eval (Act.put (Act.put _ (some 21) (sv 5)) (some 20) (sv 4))) _) _)
        try simp only [Act.put, List.setIfInBounds_toArray, List.set_cons_succ, List.set_cons_zero]
        simp [go_sem, quietTo, Ext.refl, ↓IntWalk.iteOmega, f4, f5, hkI]
        all_goals try simp (disch := omega) only [IntWalk.i64_in]
        all_goals first
          | rfl
      refine fac_quiet 7 rfl rfl rfl (fun _ _ h _ => h) rfl rfl ?_
      apply Exists.intro
      refine ⟨fun sv w' hw' hfa => ?_, ?_⟩
      · obtain ⟨_, _, f6, -⟩ := hfa
        replace f6 : sv 6 = _ := f6
        try dsimp only at f6
        have hk9 := (Ext.refl wr).drew.trans hw'; obtain ⟨hc, hff, hz9⟩ := hk9.walk; have y1 := (hc _ _ l1).trans c1; have y2 := (hc _ _ l2).trans c2; have y3 := (hc _ _ l1).trans c3; have y4 := (hc _ _ l2).trans c4; have y5 := (hc _ _ l1).trans c5; have y6 := (hc _ _ l2).trans c6
        refine ⟨rfl, ?_⟩
        simp only [putsL]
        change quietTo _ _ _ _ (Sem.run _ (execOp (Act.eval (Act.put (Act.put (Act.put _ (some 22) (sv 6)) (some 21) (sv 5)) (some 20) (sv 4))) _) _)
        try simp only [Act.put, List.setIfInBounds_toArray, List.set_cons_succ, List.set_cons_zero]
        simp [go_sem, quietTo, Ext.refl, ↓IntWalk.iteOmega, f6, y2, y4, y6]
        all_goals try simp (disch := omega) only [IntWalk.i64_in]
        all_goals first
          | rfl
      refine fac_quiet 8 rfl rfl rfl (fun _ _ h _ => h) rfl rfl ?_
      apply Exists.intro
      refine ⟨fun sv w' hw' hfa => ?_, ?_⟩
      · obtain ⟨_, _, _, f3, _, _, _, f7, -⟩ := hfa
        replace f3 : sv 3 = _ := f3
        try dsimp only at f3
        replace f7 : sv 7 = _ := f7
        try dsimp only at f7
        refine ⟨rfl, ?_⟩
        simp only [putsL]
        change quietTo _ _ _ _ (Sem.run _ (execOp (Act.eval (Act.put (Act.put (Act.put (Act.put (Act.put (Act.put (Act.put (Act.put _ (some 23) (sv 7)) (some 22) (sv 6)) (some 21) (sv 5)) (some 20) (sv 4)) (some 19) (sv 3)) (some 18) (sv 2)) (some 17) (sv 1)) (some 16) (sv 0))) _) _)
        try simp only [Act.put, List.setIfInBounds_toArray, List.set_cons_succ, List.set_cons_zero]
        simp [go_sem, quietTo, Ext.refl, ↓IntWalk.iteOmega, f3, f7]
        all_goals try simp (disch := omega) only [IntWalk.i64_in]
        all_goals first
          | rfl
      refine fac_nil fun xq wrq herq hfrq hcrq holdq hapq => ?_
      obtain ⟨f0, f1, f2, f3, f4, f5, f6, f7, f8, -⟩ := hfrq
      replace f0 : xq 0 = _ := f0
      try dsimp only at f0
      replace f1 : xq 1 = _ := f1
      try dsimp only at f1
      replace f2 : xq 2 = _ := f2
      try dsimp only at f2
      replace f3 : xq 3 = _ := f3
      try dsimp only at f3
      replace f4 : xq 4 = _ := f4
      try dsimp only at f4
      replace f5 : xq 5 = _ := f5
      try dsimp only at f5
      replace f6 : xq 6 = _ := f6
      try dsimp only at f6
      replace f7 : xq 7 = _ := f7
      try dsimp only at f7
      replace f8 : xq 8 = _ := f8
      try dsimp only at f8
      change wpList _ _ _ _ (Act.put (Act.put (Act.put (Act.put (Act.put (Act.put (Act.put (Act.put (Act.put _ (some 16) (xq 0)) (some 17) (xq 1)) (some 18) (xq 2)) (some 19) (xq 3)) (some 20) (xq 4)) (some 21) (xq 5)) (some 22) (xq 6)) (some 23) (xq 7)) (some 24) (xq 8)) _
      simp only [putsL, Nat.reduceAdd, List.drop_succ_cons, List.drop_zero, List.drop_nil, Act.put, List.setIfInBounds_toArray, List.set_cons_succ, List.set_cons_zero]
      try simp only [f0, f1, f2, f3, f4, f5, f6, f7, f8]
      clear f0 f1 f2 f3 f4 f5 f6 f7 f8
      clear holdq hapq
      go_wp2
      go_roundw
      case rel => exact ⟨k + 1, by omega, by go_num, hE.trans ((Ext.refl _).drew.trans herq)⟩
      case measure => simp [intOf]; omega
    · obtain rfl : k = xs.length := by omega
      go_wp2
      go_ret
      exact ⟨rfl, hE⟩


theorem ExtS.extN2 {s : Nat} {a b : World} (h : ExtS (s + 1) a b) : ExtN s s (s + 2) a b := ⟨h.1, h.2.1, h.2.2.1, h.2.2.2.1, fun k hk h1 h2 => h.2.2.2.2 k hk (by omega)⟩
theorem ExtN.backE {n0 : Nat} {a b c : World} (h : Ext a b) (k : ExtN a.heap.size a.heap.size n0 b c) : Ext a c :=
  ⟨k.1.trans h.os, k.2.1.trans h.tape, k.2.2.1.trans h.output, Nat.le_trans h.size k.2.2.2.1, fun i hi => (k.2.2.2.2 i (Nat.lt_of_lt_of_le hi h.size) (by omega) (.inl (by omega))).trans (h.block i hi)⟩
theorem Slc.extN {α : Type} {k : Nat} {enc : α → List Value} {w w' : World} {s : Nat} {p : Option Addr} {n c : Nat} {xs : List α} (h : Slc k enc w p n c xs) (he : ExtN s s (s + 2) w w') (hp : ∀ a, p = some a → a.block ≠ s ∧ a.block ≠ s + 1) : Slc k enc w' p n c xs := by
  obtain ⟨⟨h1, h2, h3⟩, h4, h5, h6⟩ := h
  refine ⟨⟨h1, h2, fun hn => ?_⟩, h4, h5, fun a ha => let ⟨b, off, e, hb⟩ := h6 a ha; ⟨b, off, e, Nat.lt_of_lt_of_le hb he.2.2.2.1⟩⟩
  obtain ⟨b, off, rfl, hb, hE⟩ := h3 hn
  obtain ⟨q1, q2⟩ := hp _ rfl
  simp only at q1 q2
  exact ⟨b, off, rfl, Nat.lt_of_lt_of_le hb he.2.2.2.1, fun i x hx j v hv => (World.cell?_of_block (w := w) (a := ⟨b, off + i * k + j, none⟩) (he.2.2.2.2 b hb q1 (by omega))).trans (hE i x hx j v hv)⟩
def spoiltB : ByteArray := ⟨#[115, 112, 111, 105, 108, 116]⟩
theorem sta_flat_len2 : ∀ (xs : List StandV), (xs.flatMap staC).length = xs.length * 3
  | [] => rfl
  | x :: l => by rw [List.flatMap_cons, List.length_append, sta_flat_len2 l, staC_len, List.length_cons]; omega
theorem sta_own_len {w : World} {base n : Nat} {v : Value} {T : List StandV} (h : w.ownsRow base 48 3 v n (T.flatMap staC)) : T.length = n := by
  have := h.1
  rw [sta_flat_len2] at this
  omega
theorem own_far {w : World} {base n k : Nat} {e : TypeId} {v : Value} {xs : List Value} (h : w.ownsRow base e k v n xs) {q : Addr} (hq : q.block < base) (u : Value) : (w.setCell q u).ownsRow base e k v n xs :=
  own_same h fun g hg => Below.heap_setCell w q u g (by have := (h.lt g hg).1; omega)
theorem byHeight_both {w : World} {pp : Option Addr} {pc : Nat} {P : List PersonV} {wp : Option Addr} {wcap : Nat} {wide : List Int} {hp : Option Addr} {hc : Nat} {high : List Int} (h : PsM w pp pc P wp wcap wide hp hc high none 0 []) (hP : P.length ≤ 19) :
    Calls Tryz.prog 14 #[.slice pp P.length pc, .agg #[.slice wp wide.length wcap, .slice hp high.length hc]] w fun e w' => ∃ (q : Option Addr) (n c : Nat) (f : Int) (T : List StandV), e = .returned (.tuple #[.slice q n c, .int .i64 f]) ∧ w'.ownsRow w.heap.size 48 3 (.slice q n c) n (T.flatMap staC) ∧ n ≤ 1000 ∧ Ext w w' := by
  by_cases hf : ofF P wide high = 0
  · have h1 : ostF P wide high = 0 := by
      unfold ofF at hf
      by_cases h1 : ostF P wide high = 0
      · exact h1
      · rw [if_neg h1] at hf; exact hf
    have h2 : fullF P wide = 0 := by unfold ofF at hf; rwa [if_pos h1] at hf
    refine (byHeightS_own h h1 h2 hP).mono fun e w' ⟨v, M, he, _, ho, hl, hE⟩ => ?_
    obtain ⟨q, c, rfl, -⟩ := slc_of_own staC_len ho (by decide) (by omega)
    exact ⟨q, _, c, 0, _, he, ho, hl, hE⟩
  · exact (byHeightB_any h hf).mono fun e w' ⟨he, hE⟩ => ⟨none, 0, 0, _, [], he, World.ownsRow_nil _ _ _ _, by omega, hE⟩

section
variable {pp : Option Addr} {pc : Nat} {P : List PersonV} {wp : Option Addr} {wcap : Nat} {wide : List Int} {hp : Option Addr} {hc : Nat} {high : List Int} {lp : Option Addr} {lc : Nat} {S : List StandV} {w : World}
theorem closed_new (hM : PsM w pp pc P wp wcap wide hp hc high lp lc S) (hz : standsF P wide high S = 0) :
    Calls Tryz.prog 24 #[.slice pp P.length pc, .agg #[.slice wp wide.length wcap, .slice hp high.length hc], .slice lp S.length lc, .slice none 0 0] w fun e w' => ∃ (q : Option Addr) (n c : Nat) (T : List StandV), e = .returned (.tuple #[.slice q n c, .int .i64 0]) ∧ w'.ownsRow w.heap.size 48 3 (.slice q n c) n (T.flatMap staC) ∧ n ≤ 1000 ∧ Ext w w' :=
  (closed_own pp pc P wp wcap wide hp hc high lp lc S w hM hz none 0 [] (Slc.nil _ _ _) List.nodup_nil (by simp) (by simp)).mono fun e w' ⟨v, he, ho, hl, hE⟩ => by
    obtain ⟨q, c, rfl, -⟩ := slc_of_own staC_len ho (by decide) (by omega)
    exact ⟨q, _, c, _, he, ho, hl, hE⟩
theorem mirror_new (hM : PsM w pp pc P wp wcap wide hp hc high lp lc S) (hz : standsF P wide high S = 0) :
    Calls Tryz.prog 25 #[.slice pp P.length pc, .agg #[.slice wp wide.length wcap, .slice hp high.length hc], .slice lp S.length lc] w fun e w' => ∃ (q : Option Addr) (n c : Nat) (T : List StandV), e = .returned (.tuple #[.slice q n c, .int .i64 0]) ∧ w'.ownsRow w.heap.size 48 3 (.slice q n c) n (T.flatMap staC) ∧ n ≤ 1000 ∧ Ext w w' :=
  (mirror_own pp pc P wp wcap wide hp hc high lp lc S w hM hz).mono fun e w' ⟨v, T, he, _, _, ho, hE⟩ => by
    have := hM.nS
    obtain ⟨q, c, rfl, -⟩ := slc_of_own staC_len ho (by decide) (by omega)
    exact ⟨q, _, c, T, he, ho, by omega, hE⟩
theorem lift_new (hM : PsM w pp pc P wp wcap wide hp hc high lp lc S) (hz : standsF P wide high S = 0) :
    Calls Tryz.prog 26 #[.slice pp P.length pc, .agg #[.slice wp wide.length wcap, .slice hp high.length hc], .slice lp S.length lc] w fun e w' => ∃ (b n : Nat) (u : List Int), e = .returned (.tuple #[.slice (some ⟨b, 0, none⟩) n n, .int .i64 0]) ∧ u.length = n ∧ n ≤ 1000 ∧ w.heap.size ≤ b ∧ Blk w' b 3 (rowI u) ∧ Ext w w' :=
  (lift_own pp pc P wp wcap wide hp hc high lp lc S w hM.per hM.wid hM.hig hM.sta (standsF_ok hz).1 (standsF_ok hz).2.1 (hM.check hz)).mono fun e w' ⟨b, he, hb, hB, hE⟩ => ⟨b, _, _, he, liftL_len _, by have := (standsF_ok hz).1.wo.1; omega, hb, hB, hE⟩
end

set_option maxRecDepth 100000 in
set_option maxHeartbeats 25600000 in
theorem lawSS_any (B : Nat) (w : World) (p : Option Addr) (n c : Nat) (h : Lst w w.heap.size p n) (ht : Tab B w) :
    Calls Tryz.prog 4 #[.slice p n c] w fun e w' => e = .returned (.bool true) ∧ Ext w w' := by
  obtain ⟨xs, rfl, hL⟩ := lst_list h
  obtain ⟨L, hLd⟩ : ∃ L : Src, L = ⟨xs, w.heap.size⟩ := ⟨_, rfl⟩
  have hlow : L.low = w.heap.size := by rw [hLd]
  have hE0 : Ext w ((w.alloc (.cells #[.slice p xs.length c, .int .i64 0] 25)).alloc (.cells #[.slice p xs.length c, .int .i64 0] 25)) := ((Ext.refl w).alloc _).alloc _
  have hSa : StrL ((w.alloc (.cells #[.slice p xs.length c, .int .i64 0] 25)).alloc (.cells #[.slice p xs.length c, .int .i64 0] 25)) w.heap.size L 0 := by
    subst hLd
    exact ⟨Nat.le_refl _, p, c, (Blk.new' rfl).alloc _, hL.low fun j hj => hE0.block j hj⟩
  have hSb : StrL ((w.alloc (.cells #[.slice p xs.length c, .int .i64 0] 25)).alloc (.cells #[.slice p xs.length c, .int .i64 0] 25)) (w.heap.size + 1) L 0 := by
    subst hLd
    exact ⟨Nat.le_succ _, p, c, Blk.new' (by simp), hL.low fun j hj => hE0.block j hj⟩
  have hz0 : w.heap.size + 2 ≤ ((w.alloc (.cells #[.slice p xs.length c, .int .i64 0] 25)).alloc (.cells #[.slice p xs.length c, .int .i64 0] 25)).heap.size := by simp
  have hpa := people_det w.heap.size 0 8 L _ (by omega) (by omega) hSa
  replace hpa := Lib.hid hpa
  replace hSb := Lib.hid hSb
  replace hz0 := Lib.hid hz0
  clear h hL hLd hSa
  go_enter Tryz.func4, Tryz.ntmps4
  go_upto_region 3 with (first
    | (go_at_call 5; (with_reducible refine Calls.mono hpa.out ?_); rintro e w1 ⟨pp, n1, pc, P, k1, rfl, hn9, hP, hpf, hPs, hF1, hk1, hSa1, hE1⟩; obtain rfl : n1 = P.length := (slcC hP).1; have hSb1 := Lib.hid (hSb.out.other hE1 (by omega) (by omega)); have hX1 := ExtS.back hE0 (Nat.le_refl _) hE1; have hz1 := Nat.le_trans hz0.out hE1.2.2.2.1)
    | (go_at_call 5; (with_reducible refine Calls.mono (people_det (w.heap.size + 1) 0 8 L _ (by omega) (by omega) (by exact hSb1.out)) ?_); rintro e w2 ⟨qp, n2, qc, Q, k2, rfl, -, hQ, hqf, -, hF2, -, hSb2, hE2⟩; obtain rfl : n2 = Q.length := (slcC hQ).1))
  obtain ⟨rfl, rfl⟩ : Q = P ∧ k2 = k1 := by
    have e := hF2.symm.trans hF1
    exact ⟨congrArg Prod.fst e, congrArg Prod.snd e⟩
  have hz0 := hz0.out
  have hpf1 : ∀ a, pp = some a → w.heap.size + 2 ≤ a.block := fun a ha => by have := hpf a ha; omega
  have hqf1 : ∀ a, qp = some a → w.heap.size + 2 ≤ a.block := fun a ha => by have := hqf a ha; omega
  have hX2 := ExtS.back hX1 (Nat.le_succ _) hE2
  have hSa2 := hSa1.other hE2 (by omega) (by omega)
  have hP2 := hP.extS hE2 (fun a ha e => by have := hpf1 a ha; omega)
  have hz2 := Nat.le_trans hz1 hE2.2.2.2.1
  clear hpa hSb hSb1 hE1 hE2 hP hSa1 hX1 hE0 hF1 hF2 hpf hqf
  replace hP2 := Lib.hid hP2
  replace hQ := Lib.hid hQ
  replace hPs := Lib.hid hPs
  replace hpf1 := Lib.hid hpf1
  replace hqf1 := Lib.hid hqf1
  have hst := stage_det w.heap.size k2 L _ (by omega) hSa2
  replace hst := Lib.hid hst
  replace hSb2 := Lib.hid hSb2
  clear hSa2
  go_upto_region 4 with (first
    | (go_at_call 6; (with_reducible refine Calls.mono hst.out ?_); rintro e w3 ⟨wp, wc, hp, hc, wide, high, k3, rfl, hw4, hh4, hws, hhs, hW, hH, hwf, hhf, hF3, hk3, hSa3, hE3⟩; have hSb3 := Lib.hid (hSb2.out.other hE3 (by omega) (by omega)); have hX3 := ExtS.back hX2 (Nat.le_refl _) hE3; have hz3 := Nat.le_trans hz2 hE3.2.2.2.1)
    | (go_at_call 6; (with_reducible refine Calls.mono (stage_det (w.heap.size + 1) k2 L _ (by omega) (by exact hSb3.out)) ?_); rintro e w4 ⟨vp, vc, ip, ic, wide2, high2, k4, rfl, -, -, -, -, hV, hI, hvf, hif, hF4, -, hSb4, hE4⟩))
  obtain ⟨⟨rfl, rfl⟩, rfl⟩ : (wide2 = wide ∧ high2 = high) ∧ k4 = k3 := by
    have e := hF4.symm.trans hF3
    exact ⟨⟨congrArg (fun x => x.1.1) e, congrArg (fun x => x.1.2) e⟩, congrArg Prod.snd e⟩
  have hE34 : ExtN w.heap.size w.heap.size (w.heap.size + 2) w2 w4 := ExtN.trans hE3.extN hE4.extN2
  have hwf1 : ∀ a, wp = some a → w.heap.size + 2 ≤ a.block := fun a ha => by have := hwf a ha; omega
  have hhf1 : ∀ a, hp = some a → w.heap.size + 2 ≤ a.block := fun a ha => by have := hhf a ha; omega
  have hvf1 : ∀ a, vp = some a → w.heap.size + 2 ≤ a.block := fun a ha => by have := hvf a ha; omega
  have hif1 : ∀ a, ip = some a → w.heap.size + 2 ≤ a.block := fun a ha => by have := hif a ha; omega
  have hX4 := ExtS.back hX3 (Nat.le_succ _) hE4
  have hSa4 := hSa3.other hE4 (by omega) (by omega)
  have hW4 := hW.extS hE4 (fun a ha e => by have := hwf1 a ha; omega)
  have hH4 := hH.extS hE4 (fun a ha e => by have := hhf1 a ha; omega)
  have hP4 := hP2.out.extN hE34 (fun a ha => by have := hpf1.out a ha; omega)
  have hQ4 := hQ.out.extN hE34 (fun a ha => by have := hqf1.out a ha; omega)
  have hz4 := Nat.le_trans hz3 hE4.2.2.2.1
  have hEa : Ext w4 ((w4.alloc (.cells #[.slice wp wide2.length wc, .slice hp high2.length hc] 29)).alloc (.cells #[.slice vp wide2.length vc, .slice ip high2.length ic] 29)) := ((Ext.refl _).alloc _).alloc _
  have hB7 : Blk ((w4.alloc (.cells #[.slice wp wide2.length wc, .slice hp high2.length hc] 29)).alloc (.cells #[.slice vp wide2.length vc, .slice ip high2.length ic] 29)) w4.heap.size 29 #[.slice wp wide2.length wc, .slice hp high2.length hc] := (Blk.new' rfl).alloc _
  have hB8 : Blk ((w4.alloc (.cells #[.slice wp wide2.length wc, .slice hp high2.length hc] 29)).alloc (.cells #[.slice vp wide2.length vc, .slice ip high2.length ic] 29)) (w4.heap.size + 1) 29 #[.slice vp wide2.length vc, .slice ip high2.length ic] := Blk.new' (by simp)
  have hSa5 := hSa4.ext hEa
  have hSb5 := hSb4.ext hEa
  have hX5 := hX4.trans hEa
  have hP5 := hP4.ext hEa
  have hQ5 := hQ4.ext hEa
  have hW5 := hW4.ext hEa
  have hH5 := hH4.ext hEa
  have hV5 := hV.ext hEa
  have hI5 := hI.ext hEa
  clear hst hSb2 hSb3 hE3 hE4 hE34 hW hH hSa3 hX2 hX3 hX4 hF3 hF4 hwf hhf hvf hif hSa4 hSb4 hW4 hH4 hP4 hQ4 hP2 hQ hEa hV hI hz0 hz1 hz2 hz3
  generalize (w4.alloc (.cells #[.slice wp wide2.length wc, .slice hp high2.length hc] 29)).alloc (.cells #[.slice vp wide2.length vc, .slice ip high2.length ic] 29) = W at *
  generalize w4.heap.size = g7 at *
  obtain ⟨S, k5, hSF⟩ : ∃ S k5, slF L Q wide2 high2 k4 = (S, k5) := ⟨_, _, rfl⟩
  have hC0 : StrL W.drew w.heap.size L k4 ∧ StrL W.drew (w.heap.size + 1) L k4 := ⟨hSa5.ext (Ext.drew (Ext.refl _)), hSb5.ext (Ext.drew (Ext.refl _))⟩
  have hsl : w.heap.size < W.drew.heap.size := hSa5.lt
  replace hpf1 := hpf1.out
  replace hqf1 := hqf1.out
  have hg7 : w.heap.size + 2 ≤ g7 := hz4
  have hg8 : g7 + 1 < W.heap.size := hB8.lt
  clear hSa5 hSb5
  replace hSF := Lib.hid hSF
  refine wp_region_facts [] [([], false, false), ([], false, false), ([], false, false), ([0, 1, 2], true, false), ([], false, false), ([], false, false), ([], false, false), ([4, 5, 6], true, false)] (ExtN w.heap.size w.heap.size (w.heap.size + 2)) Ext (fun u => StrL u w.heap.size L k4 ∧ StrL u (w.heap.size + 1) L k4) (by kernel_rfl) (by kernel_rfl) Ext.refl (fun _ _ _ => ExtN.trans) (fun _ _ h => h.extN) (fun _ _ h => h.2.2.2.1) (fun _ _ h he => ⟨h.1.ext he, h.2.ext he⟩) hC0 ?_
  dsimp only [List.length_cons, List.length_nil, List.drop_succ_cons, List.drop_zero, List.drop_nil]
  refine fac_quiet 0 rfl rfl rfl (fun _ _ h he => ⟨h.1.ext he, h.2.ext he⟩) rfl rfl ?_
  apply Exists.intro
  refine ⟨fun sv w' hw' hfa => ?_, ?_⟩
  · refine ⟨rfl, ?_⟩
    simp only [putsL]
    change quietTo _ _ _ _ (Sem.run _ (execOp (Act.eval _) _) _)
    try simp only [Act.put, List.setIfInBounds_toArray, List.set_cons_succ, List.set_cons_zero]
    simp [go_sem, quietTo, Ext.refl]
    all_goals first
      | rfl
  refine fac_quiet 1 rfl rfl rfl (fun _ _ h he => ⟨h.1.ext he, h.2.ext he⟩) rfl rfl ?_
  apply Exists.intro
  refine ⟨fun sv w' hw' hfa => ?_, ?_⟩
  · refine ⟨rfl, ?_⟩
    simp only [putsL]
    change quietTo _ _ _ _ (Sem.run _ (execOp (Act.eval _) _) _)
    try simp only [Act.put, List.setIfInBounds_toArray, List.set_cons_succ, List.set_cons_zero]
    simp [go_sem, quietTo, Ext.refl]
    all_goals first
      | rfl
  refine fac_quiet 2 rfl rfl rfl (fun _ _ h he => ⟨h.1.ext he, h.2.ext he⟩) rfl rfl ?_
  apply Exists.intro
  refine ⟨fun sv w' hw' hfa => ?_, ?_⟩
  · have hk9 : ExtN w.heap.size w.heap.size (w.heap.size + 2) W w' := ExtN.trans (Ext.extN (Ext.drew (Ext.refl _))) hw'; obtain ⟨y1, -⟩ := (hB7.extN (by omega) (.inr (by omega)) hk9).walk; obtain ⟨y2, -⟩ := (hB8.extN (by omega) (.inr (by omega)) hk9).walk
    refine ⟨rfl, ?_⟩
    simp only [putsL]
    change quietTo _ _ _ _ (Sem.run _ (execOp (Act.eval _) _) _)
    try simp only [Act.put, List.setIfInBounds_toArray, List.set_cons_succ, List.set_cons_zero]
    simp [go_sem, quietTo, Ext.refl, ↓IntWalk.iteOmega, y1]
    all_goals try simp (disch := omega) only [IntWalk.i64_in]
    all_goals first
      | rfl
  refine fac_loud 3 rfl rfl rfl ?_
  refine ⟨(fun y u => ∃ (lp : Option Addr) (lc : Nat), y 3 = .slice lp S.length lc ∧ Slc 3 staC u lp S.length lc S ∧ (∀ a, lp = some a → w.heap.size + 2 ≤ a.block) ∧ S.length ≤ 9 ∧ ∀ x ∈ S, x.Small), (fun u => StrL u w.heap.size L k5 ∧ StrL u (w.heap.size + 1) L k4), fun sv w' hw' hfa hcc => ?_, ?_, ?_, ?_⟩
  · obtain ⟨f0, f1, f2, -⟩ := hfa
    replace f0 : sv 0 = _ := f0
    try dsimp only at f0
    replace f1 : sv 1 = _ := f1
    try dsimp only at f1
    replace f2 : sv 2 = _ := f2
    try dsimp only at f2
    have hk9 : ExtN w.heap.size w.heap.size (w.heap.size + 2) W w' := ExtN.trans (Ext.extN (Ext.drew (Ext.refl _))) hw'; obtain ⟨y1, -⟩ := (hB7.extN (by omega) (.inr (by omega)) hk9).walk; obtain ⟨y2, -⟩ := (hB8.extN (by omega) (.inr (by omega)) hk9).walk
    refine ⟨rfl, ?_⟩
    simp only [putsL]
    change outc _ _ (Sem.run _ (execOp (Act.eval (Act.put (Act.put (Act.put _ (some 39) (sv 2)) (some 38) (sv 1)) (some 37) (sv 0))) _) _)
    try simp only [Act.put, List.setIfInBounds_toArray, List.set_cons_succ, List.set_cons_zero]
    simp [go_sem, outc, f0, f1, f2]
    refine (standList_det w.heap.size k4 L _ pp pc Q wp wc wide2 hp hc high2 (by omega) hcc.1 (hP5.extN hk9 (fun a ha => by have := hpf1 a ha; omega)) (hW5.extN hk9 (fun a ha => by have := hwf1 a ha; omega)) (hH5.extN hk9 (fun a ha => by have := hhf1 a ha; omega)) (fun a ha => by have := hpf1 a ha; omega) (fun a ha => by have := hwf1 a ha; omega) hPs.out hws hhs hn9 hw4).mono ?_
    rintro e w6 ⟨lp, lc, S2, k6, rfl, hS9, hSl, hSs, hlf, hF5, hk5, hS6, hE6⟩
    obtain ⟨rfl, rfl⟩ : S2 = S ∧ k6 = k5 := by have e := hF5.symm.trans hSF.out; exact ⟨congrArg Prod.fst e, congrArg Prod.snd e⟩
    exact ⟨_, rfl, ⟨hE6.extN, hS6, hcc.2.other hE6 (by omega) (by omega)⟩, lp, lc, rfl, hSl, (fun a ha => by have := hlf a ha; have := hk9.2.2.2.1; omega), hS9, hSs⟩
  · exact fun x u u' ⟨lp, lc, h1, h2, h3, h4⟩ he => ⟨lp, lc, h1, h2.extN he (fun a ha => by have := h3 a ha; omega), h3, h4⟩
  · exact fun _ _ h he => ⟨h.1.ext he, h.2.ext he⟩
  refine fac_quiet 4 rfl rfl rfl (fun _ _ h he => ⟨h.1.ext he, h.2.ext he⟩) rfl rfl ?_
  apply Exists.intro
  refine ⟨fun sv w' hw' hfa => ?_, ?_⟩
  · refine ⟨rfl, ?_⟩
    simp only [putsL]
    change quietTo _ _ _ _ (Sem.run _ (execOp (Act.eval _) _) _)
    try simp only [Act.put, List.setIfInBounds_toArray, List.set_cons_succ, List.set_cons_zero]
    simp [go_sem, quietTo, Ext.refl]
    all_goals first
      | rfl
  refine fac_quiet 5 rfl rfl rfl (fun _ _ h he => ⟨h.1.ext he, h.2.ext he⟩) rfl rfl ?_
  apply Exists.intro
  refine ⟨fun sv w' hw' hfa => ?_, ?_⟩
  · refine ⟨rfl, ?_⟩
    simp only [putsL]
    change quietTo _ _ _ _ (Sem.run _ (execOp (Act.eval _) _) _)
    try simp only [Act.put, List.setIfInBounds_toArray, List.set_cons_succ, List.set_cons_zero]
    simp [go_sem, quietTo, Ext.refl]
    all_goals first
      | rfl
  refine fac_quiet 6 rfl rfl rfl (fun _ _ h he => ⟨h.1.ext he, h.2.ext he⟩) rfl rfl ?_
  apply Exists.intro
  refine ⟨fun sv w' hw' hfa => ?_, ?_⟩
  · have hk9 : ExtN w.heap.size w.heap.size (w.heap.size + 2) W w' := ExtN.trans (Ext.extN (Ext.drew (Ext.refl _))) hw'; obtain ⟨y1, -⟩ := (hB7.extN (by omega) (.inr (by omega)) hk9).walk; obtain ⟨y2, -⟩ := (hB8.extN (by omega) (.inr (by omega)) hk9).walk
    refine ⟨rfl, ?_⟩
    simp only [putsL]
    change quietTo _ _ _ _ (Sem.run _ (execOp (Act.eval _) _) _)
    try simp only [Act.put, List.setIfInBounds_toArray, List.set_cons_succ, List.set_cons_zero]
    simp [go_sem, quietTo, Ext.refl, ↓IntWalk.iteOmega, y2]
    all_goals try simp (disch := omega) only [IntWalk.i64_in]
    all_goals first
      | rfl
  refine fac_loud 7 rfl rfl rfl ?_
  refine ⟨(fun y u => ∃ (lp : Option Addr) (lc : Nat), y 7 = .slice lp S.length lc ∧ Slc 3 staC u lp S.length lc S ∧ (∀ a, lp = some a → w.heap.size + 2 ≤ a.block)), (fun u => StrL u (w.heap.size + 1) L k5), fun sv w' hw' hfa hcc => ?_, ?_, ?_, ?_⟩
  · obtain ⟨f4, f5, f6, -⟩ := hfa
    replace f4 : sv 4 = _ := f4
    try dsimp only at f4
    replace f5 : sv 5 = _ := f5
    try dsimp only at f5
    replace f6 : sv 6 = _ := f6
    try dsimp only at f6
    have hk9 : ExtN w.heap.size w.heap.size (w.heap.size + 2) W w' := ExtN.trans (Ext.extN (Ext.drew (Ext.refl _))) hw'; obtain ⟨y1, -⟩ := (hB7.extN (by omega) (.inr (by omega)) hk9).walk; obtain ⟨y2, -⟩ := (hB8.extN (by omega) (.inr (by omega)) hk9).walk
    refine ⟨rfl, ?_⟩
    simp only [putsL]
    change outc _ _ (Sem.run _ (execOp (Act.eval (Act.put (Act.put (Act.put _ (some 43) (sv 6)) (some 42) (sv 5)) (some 41) (sv 4))) _) _)
    try simp only [Act.put, List.setIfInBounds_toArray, List.set_cons_succ, List.set_cons_zero]
    simp [go_sem, outc, f4, f5, f6]
    refine (standList_det (w.heap.size + 1) k4 L _ qp qc Q vp vc wide2 ip ic high2 (by omega) hcc.2 (hQ5.extN hk9 (fun a ha => by have := hqf1 a ha; omega)) (hV5.extN hk9 (fun a ha => by have := hvf1 a ha; omega)) (hI5.extN hk9 (fun a ha => by have := hif1 a ha; omega)) (fun a ha => by have := hqf1 a ha; omega) (fun a ha => by have := hvf1 a ha; omega) hPs.out hws hhs hn9 hw4).mono ?_
    rintro e w6 ⟨lp, lc, S2, k6, rfl, hS9, hSl, hSs, hlf, hF5, hk5, hS6, hE6⟩
    obtain ⟨rfl, rfl⟩ : S2 = S ∧ k6 = k5 := by have e := hF5.symm.trans hSF.out; exact ⟨congrArg Prod.fst e, congrArg Prod.snd e⟩
    exact ⟨_, rfl, ⟨hE6.extN2, hS6⟩, lp, lc, rfl, hSl, (fun a ha => by have := hlf a ha; have := hk9.2.2.2.1; omega)⟩
  · exact fun x u u' ⟨lp, lc, h1, h2, h3⟩ he => ⟨lp, lc, h1, h2.extN he (fun a ha => by have := h3 a ha; omega), h3⟩
  · exact fun _ _ h he => h.ext he
  refine fac_nil fun xq wrq herq hfrq hcrq holdq hapq => ?_
  obtain ⟨f0, f1, f2, f3, f4, f5, f6, f7, -⟩ := hfrq
  replace f0 : xq 0 = _ := f0
  try dsimp only at f0
  replace f1 : xq 1 = _ := f1
  try dsimp only at f1
  replace f2 : xq 2 = _ := f2
  try dsimp only at f2
  obtain ⟨lp, lc, f3, hl3, hlf3, hl9, hls⟩ := f3
  replace f3 : xq 3 = _ := f3
  replace f4 : xq 4 = _ := f4
  try dsimp only at f4
  replace f5 : xq 5 = _ := f5
  try dsimp only at f5
  replace f6 : xq 6 = _ := f6
  try dsimp only at f6
  obtain ⟨lp2, lc2, f7, hl7, hlf7⟩ := f7
  replace f7 : xq 7 = _ := f7
  change wpList _ _ _ _ (Act.put (Act.put (Act.put (Act.put (Act.put (Act.put (Act.put (Act.put _ (some 37) (xq 0)) (some 38) (xq 1)) (some 39) (xq 2)) (some 40) (xq 3)) (some 41) (xq 4)) (some 42) (xq 5)) (some 43) (xq 6)) (some 44) (xq 7)) _
  simp only [putsL, Nat.reduceAdd, List.drop_succ_cons, List.drop_zero, List.drop_nil, Act.put, List.setIfInBounds_toArray, List.set_cons_succ, List.set_cons_zero]
  try simp only [f0, f1, f2, f3, f4, f5, f6, f7]
  clear f0 f1 f2 f4 f5 f6
  clear holdq hapq
  have hkq : ExtN w.heap.size w.heap.size (w.heap.size + 2) W wrq := ExtN.trans (Ext.extN (Ext.drew (Ext.refl _))) herq
  have hM1 : PsM wrq pp pc Q wp wc wide2 hp hc high2 lp lc S := ⟨hP5.extN hkq (fun a ha => by have := hpf1 a ha; omega), hW5.extN hkq (fun a ha => by have := hwf1 a ha; omega), hH5.extN hkq (fun a ha => by have := hhf1 a ha; omega), hl3, hPs.out, hws, hhs, hls, by omega, by omega⟩
  have hM2 : PsM wrq qp qc Q vp vc wide2 ip ic high2 lp2 lc2 S := ⟨hQ5.extN hkq (fun a ha => by have := hqf1 a ha; omega), hV5.extN hkq (fun a ha => by have := hvf1 a ha; omega), hI5.extN hkq (fun a ha => by have := hif1 a ha; omega), hl7, hPs.out, hws, hhs, hls, by omega, by omega⟩
  have hB7q := hB7.extN (by omega) (.inr (by omega)) hkq
  have hB8q := hB8.extN (by omega) (.inr (by omega)) hkq
  have hXq := ExtN.backE hX5 hkq
  clear hP5 hQ5 hW5 hH5 hV5 hI5 hB7 hB8 hX5 hkq herq hC0 hl3 hl7 hls hlf3 hlf7 hpf1 hqf1 hwf1 hhf1 hvf1 hif1 hsl hSF hcrq hPs
  have hfl := standsFault_any qp qc Q vp vc wide2 ip ic high2 lp2 lc2 S wrq hM2
  generalize hsf : standsF Q wide2 high2 S = sf at *
  obtain ⟨b8, -⟩ := hB8q.walk
  have bl8 := hB8q.lt
  have bl7 := hB7q.lt
  replace hfl := Lib.hid hfl
  replace hsf := Lib.hid hsf
  by_cases hs0 : sf = 0
  rotate_left
  · clear hM1 hM2
    go_wp2_with (first
      | (go_at_call 22; (with_reducible refine Calls.mono hfl.out ?_); rintro e w5 ⟨rfl, hb5⟩)
      | (go_at_call 23; refine (ready_any B _ (by exact ht.ext (hXq.trans hb5))).mono ?_; rintro e wz ⟨rfl, hzz⟩))
    go_ret
    exact ⟨rfl, (hXq.trans hb5).trans hzz⟩
  subst hs0
  have hcl := fun u (hu : Ext wrq u) => closed_new (hM1.more hu) hsf.out
  have hmi := fun u (hu : Ext wrq u) => mirror_new (hM1.more hu) hsf.out
  have hli := fun u (hu : Ext wrq u) => lift_new (hM1.more hu) hsf.out
  have hbh := fun u (hu : Ext wrq u) => byHeight_both (w := u) (pp := pp) (pc := pc) (P := Q) (wp := wp) (wcap := wc) (wide := wide2) (hp := hp) (hc := hc) (high := high2) ⟨hM1.per.ext hu, hM1.wid.ext hu, hM1.hig.ext hu, Slc.nil _ _ _, hM1.sP, hM1.sw, hM1.sh, (fun x hx => by cases hx), hM1.nP, by simp⟩ (by omega)
  replace hcl := Lib.hid hcl
  replace hmi := Lib.hid hmi
  replace hli := Lib.hid hli
  replace hbh := Lib.hid hbh
  replace hM1 := Lib.hid hM1
  replace hM2 := Lib.hid hM2
  go_upto_if 89 with (first
    | (go_at_call 22; (with_reducible refine Calls.mono hfl.out ?_); rintro e w5 ⟨rfl, hb5⟩; clear b8 bl8; obtain ⟨b6, -⟩ := (hB7q.ext hb5).walk; have bl6 := (hB7q.ext hb5).lt)
    | (go_at_call 24; (with_reducible refine Calls.mono (hcl.out _ hb5) ?_); rintro e w6 ⟨q6, n6, c6, T6, rfl, ho6, hn6, hb6⟩; replace ho6 := Lib.hid ho6; clear b6 bl6; have E6 := hb5.trans hb6; obtain ⟨b7, -⟩ := (hB7q.ext E6).walk; have bl7 := (hB7q.ext E6).lt)
    | (go_at_call 25; (with_reducible refine Calls.mono (hmi.out _ E6) ?_); rintro e w7 ⟨q7, n7, c7, T7, rfl, ho7, hn7, hb7⟩; replace ho7 := Lib.hid ho7; clear b7 bl7; have E7 := E6.trans hb7; obtain ⟨b8, -⟩ := (hB7q.ext E7).walk; have bl8 := (hB7q.ext E7).lt)
    | (go_at_call 26; (with_reducible refine Calls.mono (hli.out _ E7) ?_); rintro e w8 ⟨gt, n8, u8, rfl, hu8, hn8, hgt, hB9, hb8⟩; replace hB9 := Lib.hid hB9; clear b8 bl8; have E8 := E7.trans hb8; obtain ⟨b9, -⟩ := (hB7q.ext E8).walk; have bl9 := (hB7q.ext E8).lt)
    | (go_at_call 14; (with_reducible refine Calls.mono (hbh.out _ E8) ?_); rintro e w9 ⟨q9, n9, c9, f9, T9, rfl, ho9, hn9', hb9⟩; replace ho9 := Lib.hid ho9))
  clear b9 bl9 hcl hmi hli hbh hfl
  have hp6 := ho6.out.lt
  have hp7 := ho7.out.lt
  have hz67 := hb7.size
  have hz56 := hb6.size
  have hgt8 := hB9.out.lt
  go_cut [17] (fun v17 w' => Ext w8 w')
  case first =>
    by_cases hf : f9 = 0
    · subst hf
      go_wp2
      go_loopw [92] (fun v92 wr => ∃ (k : Nat) (T : List StandV), v92 = .int .i64 k ∧ k ≤ n9 ∧ wr.ownsRow w8.heap.size 48 3 (.slice q9 n9 c9) n9 (T.flatMap staC) ∧ Ext w8 wr) (fun v92 _ => n9 - (intOf v92).toNat)
      case atStart => exact ⟨0, T9, rfl, Nat.zero_le _, ho9.out, hb9⟩
      case round =>
        obtain ⟨k, T, rfl, hk, hown, hE⟩ := hrel
        by_cases hlt : k < n9
        · obtain ⟨g, cap, hv, hg, hgl⟩ := hown.form (by omega)
          cases hv
          obtain ⟨x, hx⟩ := getD_some (sta_own_len hown) hlt
          have c0 : wr.cell? ⟨g, k * 3, none⟩ = some (.string x.name) := own_cell staC_len hown hx 0 rfl hlt
          have z0 : ∀ o, wr.frozen? ⟨g, o, none⟩ = false := fun o => hown.frozenAt o
          have hset : (wr.setCell ⟨g, k * 3, none⟩ (.string spoiltB)).ownsRow w8.heap.size 48 3 (.slice (some ⟨g, 0, none⟩) n9 c9) n9 ((T.set k ⟨spoiltB, x.row, x.place⟩).flatMap staC) := own_set1 staC_len hown ⟨spoiltB, x.row, x.place⟩ hx 0 (by decide) (.string spoiltB) rfl
          have hE2 := hE.setCell (p := ⟨g, k * 3, none⟩) (by simp only; omega) (.string spoiltB)
          have hkI : (k : Int) < n9 := by omega
          replace hset := Lib.hid hset
          replace hx := Lib.hid hx
          clear hown ho9
          go_wp2
          go_roundw
          case rel => exact ⟨k + 1, _, by go_num, by omega, hset.out, hE2⟩
          case measure => simp [intOf]; omega
        · obtain rfl : k = n9 := by omega
          replace hown := Lib.hid hown
          go_wp2
          go_meet
          exact hE
    · have hf' : (f9 == 0) = false := by simpa using hf
      replace hf := Lib.hid hf
      go_wp2
      go_meet
      exact hb9
  case rest =>
    clear ho9 hb9
    have hEc : Ext w5 wc := ((hb6.trans hb7).trans hb8).trans hcut
    have ho6c := own_ext ((hb7.trans hb8).trans hcut) ho6.out
    have ho7c := own_ext (hb8.trans hcut) ho7.out
    have hB9c := hB9.out.ext hcut
    replace hb5 := Lib.hid hb5
    clear ho6 ho7 hB9 hcut hb6 hb7 hb8 E6 E7 E8
    go_wp2
    go_loopw [102] (fun v102 wr => ∃ (k : Nat) (T : List StandV), v102 = .int .i64 k ∧ k ≤ n6 ∧ wr.ownsRow w5.heap.size 48 3 (.slice q6 n6 c6) n6 (T.flatMap staC) ∧ wr.ownsRow w6.heap.size 48 3 (.slice q7 n7 c7) n7 (T7.flatMap staC) ∧ Blk wr gt 3 (rowI u8) ∧ Ext w5 wr) (fun v102 _ => n6 - (intOf v102).toNat)
    case atStart => exact ⟨0, T6, rfl, Nat.zero_le _, ho6c, ho7c, hB9c, hEc⟩
    case round =>
      clear ho6c ho7c hB9c hEc
      obtain ⟨k, T, rfl, hk, hown, ho7, hB9, hE⟩ := hrel
      by_cases hlt : k < n6
      · obtain ⟨g, cap, hv, hg, hgl⟩ := hown.form (by omega)
        cases hv
        have hg6 := (hp6 g rfl).2
        obtain ⟨x, hx⟩ := getD_some (sta_own_len hown) hlt
        have c0 : wr.cell? ⟨g, k * 3, none⟩ = some (.string x.name) := own_cell staC_len hown hx 0 rfl hlt
        have z0 : ∀ o, wr.frozen? ⟨g, o, none⟩ = false := fun o => hown.frozenAt o
        have hset : (wr.setCell ⟨g, k * 3, none⟩ (.string spoiltB)).ownsRow w5.heap.size 48 3 (.slice (some ⟨g, 0, none⟩) n6 c6) n6 ((T.set k ⟨spoiltB, x.row, x.place⟩).flatMap staC) := own_set1 staC_len hown ⟨spoiltB, x.row, x.place⟩ hx 0 (by decide) (.string spoiltB) rfl
        have hE2 := hE.setCell (p := ⟨g, k * 3, none⟩) (by simp only; omega) (.string spoiltB)
        have ho72 := own_far ho7 (q := ⟨g, k * 3, none⟩) (by simp only; omega) (.string spoiltB)
        have hB92 := hB9.far (p := ⟨g, k * 3, none⟩) (by simp only; omega) (.string spoiltB)
        have hkI : (k : Int) < n6 := by omega
        replace hset := Lib.hid hset
        replace ho72 := Lib.hid ho72
        replace hB92 := Lib.hid hB92
        replace hx := Lib.hid hx
        clear hown ho7 hB9
        go_wp2
        go_roundw
        case rel => exact ⟨k + 1, _, by go_num, by omega, hset.out, ho72.out, hB92.out, hE2⟩
        case measure => simp [intOf]; omega
      · obtain rfl : k = n6 := by omega
        clear hown
        replace ho7 := Lib.hid ho7
        replace hB9 := Lib.hid hB9
        go_wp2
        go_loopw [112] (fun v112 wr => ∃ (k : Nat) (T : List StandV), v112 = .int .i64 k ∧ k ≤ n7 ∧ wr.ownsRow w6.heap.size 48 3 (.slice q7 n7 c7) n7 (T.flatMap staC) ∧ Blk wr gt 3 (rowI u8) ∧ Ext w5 wr) (fun v112 _ => n7 - (intOf v112).toNat)
        case atStart => exact ⟨0, T7, rfl, Nat.zero_le _, ho7.out, hB9.out, hE⟩
        case round =>
          clear ho7 hB9 hE
          obtain ⟨k, T, rfl, hk, hown, hB9, hE⟩ := hrel
          by_cases hlt : k < n7
          · obtain ⟨g, cap, hv, hg, hgl⟩ := hown.form (by omega)
            cases hv
            have hg7' := (hp7 g rfl).2
            obtain ⟨x, hx⟩ := getD_some (sta_own_len hown) hlt
            have c0 : wr.cell? ⟨g, k * 3 + 1, none⟩ = some (.int .i64 x.row) := own_cell staC_len hown hx 1 rfl hlt
            have z0 : ∀ o, wr.frozen? ⟨g, o, none⟩ = false := fun o => hown.frozenAt o
            have hset : (wr.setCell ⟨g, k * 3 + 1, none⟩ (.int .i64 777)).ownsRow w6.heap.size 48 3 (.slice (some ⟨g, 0, none⟩) n7 c7) n7 ((T.set k ⟨x.name, 777, x.place⟩).flatMap staC) := own_set1 staC_len hown ⟨x.name, 777, x.place⟩ hx 1 (by decide) (.int .i64 777) rfl
            have hE2 := hE.setCell (p := ⟨g, k * 3 + 1, none⟩) (by simp only; omega) (.int .i64 777)
            have hB92 := hB9.far (p := ⟨g, k * 3 + 1, none⟩) (by simp only; omega) (.int .i64 777)
            have hkI : (k : Int) < n7 := by omega
            replace hset := Lib.hid hset
            replace hB92 := Lib.hid hB92
            replace hx := Lib.hid hx
            clear hown hB9
            go_wp2
            go_roundw
            case rel => exact ⟨k + 1, _, by go_num, by omega, hset.out, hB92.out, hE2⟩
            case measure => simp [intOf]; omega
          · obtain rfl : k = n7 := by omega
            clear hown
            replace hB9 := Lib.hid hB9
            go_wp2
            go_loopw [122] (fun v122 wr => ∃ (k : Nat) (U : List Int), v122 = .int .i64 k ∧ k ≤ n8 ∧ U.length = n8 ∧ Blk wr gt 3 (rowI U) ∧ Ext w5 wr) (fun v122 _ => n8 - (intOf v122).toNat)
            case atStart => exact ⟨0, u8, rfl, Nat.zero_le _, hu8, hB9.out, hE⟩
            case round =>
              clear hB9 hE
              obtain ⟨k, U, rfl, hk, hUl, hB9, hE⟩ := hrel
              by_cases hlt : k < n8
              · obtain ⟨x, hx⟩ := getD_some hUl hlt
                have c0 := rowI_cell hB9 hx
                have z0 := hB9.frozen
                have hset := rowI_set hB9 k 777
                have hE2 := hE.setCell (p := ⟨gt, k, none⟩) (by simp only; omega) (.int .i64 777)
                have hkI : (k : Int) < n8 := by omega
                have hUl2 : (U.set k 777).length = n8 := by rw [List.length_set]; exact hUl
                replace hUl2 := Lib.hid hUl2
                replace hUl := Lib.hid hUl
                replace hset := Lib.hid hset
                replace hx := Lib.hid hx
                clear hB9
                go_wp2
                go_roundw
                case rel => exact ⟨k + 1, _, by go_num, by omega, hUl2.out, hset.out, hE2⟩
                case measure => simp [intOf]; omega
              · obtain rfl : k = n8 := by omega
                replace hUl := Lib.hid hUl
                replace hu8 := Lib.hid hu8
                clear hB9
                have hEf := hb5.out.trans hE
                have hM1f := hM1.out.more hEf
                have hM2f := hM2.out.more hEf
                have hB7f := hB7q.ext hEf
                have hB8f := hB8q.ext hEf
                obtain ⟨y7, -⟩ := hB7f.walk
                obtain ⟨y8, -⟩ := hB8f.walk
                have yl7 := hB7f.lt
                have yl8 := hB8f.lt
                have hA := fun u (hu : Ext wr u) => eqPer_any pp qp Q.length pc qc Q u (hM1f.more hu).per (hM2f.more hu).per (by omega)
                have hBq := fun u (hu : Ext wr u) => eqInt_any wp vp wide2.length _ _ wide2 u (hM1f.more hu).wid (hM2f.more hu).wid (by omega)
                have hCq := fun u (hu : Ext wr u) => eqInt_any hp ip high2.length _ _ high2 u (hM1f.more hu).hig (hM2f.more hu).hig (by omega)
                have hDq := fun u (hu : Ext wr u) => eqSta_any lp lp2 S.length lc lc2 S u (hM1f.more hu).sta (hM2f.more hu).sta (by omega)
                replace hA := Lib.hid hA
                replace hBq := Lib.hid hBq
                replace hCq := Lib.hid hCq
                replace hDq := Lib.hid hDq
                clear hM1 hM2 hM1f hM2f hE hB7q hB8q y7 y8 yl7 yl8
                obtain ⟨y7, -⟩ := hB7f.walk
                have yl7 := hB7f.lt
                go_wp2_with (first
                  | (go_at_call 27; (with_reducible refine Calls.mono (hA.out _ (by exact Ext.refl _)) ?_); rintro e x1 ⟨rfl, e1⟩; clear y7 yl7; obtain ⟨y7, -⟩ := (hB7f.ext e1).walk; have yl7 := (hB7f.ext e1).lt; obtain ⟨y8, -⟩ := (hB8f.ext e1).walk; have yl8 := (hB8f.ext e1).lt)
                  | (go_at_call 28; (with_reducible refine Calls.mono (hBq.out _ (by exact e1)) ?_); rintro e x2 ⟨rfl, e2⟩; clear y7 yl7 y8 yl8; have e2' := e1.trans e2; obtain ⟨y7, -⟩ := (hB7f.ext e2').walk; have yl7 := (hB7f.ext e2').lt; obtain ⟨y8, -⟩ := (hB8f.ext e2').walk; have yl8 := (hB8f.ext e2').lt)
                  | (go_at_call 28; (with_reducible refine Calls.mono (hCq.out _ (by exact e2')) ?_); rintro e x3 ⟨rfl, e3⟩; have e3' := e2'.trans e3)
                  | (go_at_call 18; (with_reducible refine Calls.mono (hDq.out _ (by exact e3')) ?_); rintro e x4 ⟨rfl, e4⟩; have e4' := e3'.trans e4)
                  | (go_at_call 23; refine (ready_any B _ (by exact ht.ext ((hXq.trans hEf).trans e4'))).mono ?_; rintro e wz ⟨rfl, hzz⟩))
                go_ret
                exact ⟨rfl, ((hXq.trans hEf).trans e4').trans hzz⟩
end Go.Proofs.YtfcoeikekbjgpaaGreatDoor
