/- Package tour shares: toured answers true. Conditions: the table of the powers of ten stands. -/
import Derived.Test.YtlmbpgjdepmlcaaDoorBusP
namespace Go.Proofs.YtlmbpgjdepmlcaaDoor
open Go Go.RowKit

def threeP : List (ByteArray × ByteArray) := [(⟨#[97]⟩, ⟨#[51, 52]⟩), (⟨#[98]⟩, ⟨#[51, 51]⟩), (⟨#[99]⟩, ⟨#[51, 51]⟩)]
theorem shares_three : sharesL 100 abcL = threeP := by kernel_rfl
theorem shares_all (g B : Nat) (w : World) (ht : Tab B w) (hB : Blk w g 9 #[.string ⟨#[97]⟩, .string ⟨#[98]⟩, .string ⟨#[99]⟩]) :
    Calls Tryd.prog 36 #[.agg #[.string ⟨#[98]⟩, .string ⟨#[97]⟩, .int .i64 0, .int .i64 100, .slice (some ⟨g, 0, none⟩) 3 3]] w fun e w' =>
      ∃ b off c', e = .returned (.tuple #[.slice (some ⟨b, off, none⟩) 3 c', .int .i64 0]) ∧ b < w'.heap.size ∧ Elems 2 pairC w' b off threeP ∧ Ext w w' := by
  have hR : Paid.Right ⟨bB, aB, 0, (100 : Nat), some ⟨g, 0, none⟩, 3, 3⟩ abcL :=
    ⟨(show keyB bB = true by kernel_rfl), (show keyB aB = true by kernel_rfl), (show bB.size ≤ 1000000000 by decide), (show aB.size ≤ 1000000000 by decide), (show outB 0 0 345686399999 = false by decide), (show outB 100 1 100000000 = false by decide), abc_for, fun i s h => by
      have : s ∈ abcL := List.mem_of_getElem? h
      simp [abcL] at this
      rcases this with rfl | rfl | rfl <;> decide⟩
  have hL : Sl 1 strC w (some ⟨g, 0, none⟩) 3 abcL := ⟨rfl, by decide, fun _ => ⟨g, 0, rfl, hB.lt, fun i x hx j v hv => by
    have hj : j = 0 := by
      have := (List.getElem?_eq_some_iff.1 hv).1
      simp [strC] at this
      omega
    subst hj
    have hi : i < 3 := (List.getElem?_eq_some_iff.1 hx).1
    obtain rfl : v = .string x := by simpa [strC] using hv.symm
    rw [hB.cell]
    obtain rfl | rfl | rfl : i = 0 ∨ i = 1 ∨ i = 2 := by omega
    all_goals simp [abcL] at hx; subst hx; rfl⟩⟩
  refine (shares_ok ⟨bB, aB, 0, (100 : Nat), some ⟨g, 0, none⟩, 3, 3⟩ abcL B 100 w ht rfl hR hL).mono fun e w' h => ?_
  obtain ⟨p, c, rfl, hS, he⟩ := h
  obtain ⟨b, off, rfl, hb, hE⟩ := hS.2.2 (show 3 ≠ 0 by decide)
  rw [shares_three] at hE
  exact ⟨b, off, c, rfl, hb, hE, he⟩
theorem Elems.pair {w : World} {b off : Nat} {xs : List (ByteArray × ByteArray)} (h : Elems 2 pairC w b off xs) {i : Nat} {x : ByteArray × ByteArray} (hx : xs[i]? = some x) :
    w.cell? ⟨b, off + i * 2, none⟩ = some (.string x.1) ∧ w.cell? ⟨b, off + i * 2 + 1, none⟩ = some (.string x.2) := ⟨h i x hx 0 _ rfl, h i x hx 1 _ rfl⟩
set_option maxRecDepth 100000 in
set_option maxHeartbeats 3200000 in
theorem eqPair_any (b1 o1 c b2 o2 d : Nat) (xs : List (ByteArray × ByteArray)) (w : World) (hb1 : b1 < w.heap.size) (h1 : Elems 2 pairC w b1 o1 xs) (hb2 : b2 < w.heap.size) (h2 : Elems 2 pairC w b2 o2 xs) (hn : xs.length ≤ 1000) :
    Calls Tryd.prog 47 #[.slice (some ⟨b1, o1, none⟩) xs.length c, .slice (some ⟨b2, o2, none⟩) xs.length d] w fun e w' => e = .returned (.bool true) ∧ Ext w w' := by
  replace h1 := Lib.hid h1
  replace h2 := Lib.hid h2
  go_enter Tryd.func47, Tryd.ntmps47
  go_wp2
  go_loopw [13] (fun i wr => ∃ k : Nat, k ≤ xs.length ∧ i = .int .i64 k ∧ Ext w wr) (fun i _ => xs.length - (intOf i).toNat)
  case atStart => exact ⟨0, Nat.zero_le _, rfl, Ext.refl _⟩
  case round =>
    obtain ⟨k, hk, rfl, hE⟩ := hrel
    by_cases hlt : k < xs.length
    · obtain ⟨⟨x, y⟩, hx⟩ := getD_some (rfl : xs.length = xs.length) hlt
      obtain ⟨c1, c2⟩ := (h1.out.ext hE hb1).pair hx
      obtain ⟨d1, d2⟩ := (h2.out.ext hE hb2).pair hx
      have l1 := Nat.lt_of_lt_of_le hb1 hE.size
      have l2 := Nat.lt_of_lt_of_le hb2 hE.size
      have hkI : (k : Int) < xs.length := by omega
      clear hx
      go_upto_region 6 with fail
      refine wp_region_facts [] [([], false, false), ([], false, false), ([0, 1], false, false), ([0, 1, 2], false, false), ([], false, false), ([], false, false), ([4, 5], false, false), ([4, 5, 6], false, false), ([0, 1, 2, 3, 4, 5, 6, 7], false, false)] (Ext) Ext (fun _ => True) (by kernel_rfl) (by kernel_rfl) Ext.refl (fun _ _ _ => Ext.trans) (fun _ _ h => h) (fun _ _ h => h.size) (fun _ _ h _ => h) trivial ?_
      dsimp only [List.length_cons, List.length_nil, List.drop_succ_cons, List.drop_zero, List.drop_nil]
      refine fac_quiet 0 rfl rfl rfl (fun _ _ h _ => h) rfl rfl ?_
      apply Exists.intro
      refine ⟨fun sv w' hw' hfa => ?_, ?_⟩
      · have hk9 := (Ext.refl wr).drew.trans hw'; obtain ⟨hc, hff, hz9⟩ := hk9.walk; have y1 := (hc _ _ l1).trans c1; have y2 := (hc _ _ l1).trans c2; have y3 := (hc _ _ l2).trans d1; have y4 := (hc _ _ l2).trans d2
        refine ⟨rfl, ?_⟩
        simp only [putsL]
        change quietTo _ _ _ _ (Sem.run _ (execOp (Act.eval _) _) _)
        try simp only [Act.put, List.setIfInBounds_toArray, List.set_cons_succ, List.set_cons_zero]
        simp [go_sem, quietTo, Ext.refl]
        all_goals try simp (disch := omega) only [IntWalk.i64_in]
        all_goals first
          | rfl
      refine fac_quiet 1 rfl rfl rfl (fun _ _ h _ => h) rfl rfl ?_
      apply Exists.intro
      refine ⟨fun sv w' hw' hfa => ?_, ?_⟩
      · have hk9 := (Ext.refl wr).drew.trans hw'; obtain ⟨hc, hff, hz9⟩ := hk9.walk; have y1 := (hc _ _ l1).trans c1; have y2 := (hc _ _ l1).trans c2; have y3 := (hc _ _ l2).trans d1; have y4 := (hc _ _ l2).trans d2
        refine ⟨rfl, ?_⟩
        simp only [putsL]
        change quietTo _ _ _ _ (Sem.run _ (execOp (Act.eval _) _) _)
        try simp only [Act.put, List.setIfInBounds_toArray, List.set_cons_succ, List.set_cons_zero]
        simp [go_sem, quietTo, Ext.refl]
        all_goals try simp (disch := omega) only [IntWalk.i64_in]
        all_goals first
          | rfl
      refine fac_quiet 2 rfl rfl rfl (fun _ _ h _ => h) rfl rfl ?_
      apply Exists.intro
      refine ⟨fun sv w' hw' hfa => ?_, ?_⟩
      · obtain ⟨f0, f1, -⟩ := hfa
        replace f0 : sv 0 = _ := f0
        try dsimp only at f0
        replace f1 : sv 1 = _ := f1
        try dsimp only at f1
        have hk9 := (Ext.refl wr).drew.trans hw'; obtain ⟨hc, hff, hz9⟩ := hk9.walk; have y1 := (hc _ _ l1).trans c1; have y2 := (hc _ _ l1).trans c2; have y3 := (hc _ _ l2).trans d1; have y4 := (hc _ _ l2).trans d2
        refine ⟨rfl, ?_⟩
        simp only [putsL]
        change quietTo _ _ _ _ (Sem.run _ (execOp (Act.eval (Act.put (Act.put _ (some 17) (sv 1)) (some 16) (sv 0))) _) _)
        try simp only [Act.put, List.setIfInBounds_toArray, List.set_cons_succ, List.set_cons_zero]
        simp [go_sem, quietTo, Ext.refl, ↓IntWalk.iteOmega, f0, f1, hkI]
        all_goals try simp (disch := omega) only [IntWalk.i64_in]
        all_goals first
          | rfl
      refine fac_quiet 3 rfl rfl rfl (fun _ _ h _ => h) rfl rfl ?_
      apply Exists.intro
      refine ⟨fun sv w' hw' hfa => ?_, ?_⟩
      · obtain ⟨f0, f1, f2, -⟩ := hfa
        replace f0 : sv 0 = _ := f0
        try dsimp only at f0
        replace f1 : sv 1 = _ := f1
        try dsimp only at f1
        replace f2 : sv 2 = _ := f2
        try dsimp only at f2
        have hk9 := (Ext.refl wr).drew.trans hw'; obtain ⟨hc, hff, hz9⟩ := hk9.walk; have y1 := (hc _ _ l1).trans c1; have y2 := (hc _ _ l1).trans c2; have y3 := (hc _ _ l2).trans d1; have y4 := (hc _ _ l2).trans d2
        refine ⟨rfl, ?_⟩
        simp only [putsL]
        change quietTo _ _ _ _ (Sem.run _ (execOp (Act.eval (Act.put (Act.put (Act.put _ (some 18) (sv 2)) (some 17) (sv 1)) (some 16) (sv 0))) _) _)
        try simp only [Act.put, List.setIfInBounds_toArray, List.set_cons_succ, List.set_cons_zero]
        simp [go_sem, quietTo, Ext.refl, ↓IntWalk.iteOmega, f2, y1, y2]
        all_goals try simp (disch := omega) only [IntWalk.i64_in]
        all_goals first
          | rfl
      refine fac_quiet 4 rfl rfl rfl (fun _ _ h _ => h) rfl rfl ?_
      apply Exists.intro
      refine ⟨fun sv w' hw' hfa => ?_, ?_⟩
      · have hk9 := (Ext.refl wr).drew.trans hw'; obtain ⟨hc, hff, hz9⟩ := hk9.walk; have y1 := (hc _ _ l1).trans c1; have y2 := (hc _ _ l1).trans c2; have y3 := (hc _ _ l2).trans d1; have y4 := (hc _ _ l2).trans d2
        refine ⟨rfl, ?_⟩
        simp only [putsL]
        change quietTo _ _ _ _ (Sem.run _ (execOp (Act.eval _) _) _)
        try simp only [Act.put, List.setIfInBounds_toArray, List.set_cons_succ, List.set_cons_zero]
        simp [go_sem, quietTo, Ext.refl]
        all_goals try simp (disch := omega) only [IntWalk.i64_in]
        all_goals first
          | rfl
      refine fac_quiet 5 rfl rfl rfl (fun _ _ h _ => h) rfl rfl ?_
      apply Exists.intro
      refine ⟨fun sv w' hw' hfa => ?_, ?_⟩
      · have hk9 := (Ext.refl wr).drew.trans hw'; obtain ⟨hc, hff, hz9⟩ := hk9.walk; have y1 := (hc _ _ l1).trans c1; have y2 := (hc _ _ l1).trans c2; have y3 := (hc _ _ l2).trans d1; have y4 := (hc _ _ l2).trans d2
        refine ⟨rfl, ?_⟩
        simp only [putsL]
        change quietTo _ _ _ _ (Sem.run _ (execOp (Act.eval _) _) _)
        try simp only [Act.put, List.setIfInBounds_toArray, List.set_cons_succ, List.set_cons_zero]
        simp [go_sem, quietTo, Ext.refl]
        all_goals try simp (disch := omega) only [IntWalk.i64_in]
        all_goals first
          | rfl
      refine fac_quiet 6 rfl rfl rfl (fun _ _ h _ => h) rfl rfl ?_
      apply Exists.intro
      refine ⟨fun sv w' hw' hfa => ?_, ?_⟩
      · obtain ⟨f4, f5, -⟩ := hfa
        replace f4 : sv 4 = _ := f4
        try dsimp only at f4
        replace f5 : sv 5 = _ := f5
        try dsimp only at f5
        have hk9 := (Ext.refl wr).drew.trans hw'; obtain ⟨hc, hff, hz9⟩ := hk9.walk; have y1 := (hc _ _ l1).trans c1; have y2 := (hc _ _ l1).trans c2; have y3 := (hc _ _ l2).trans d1; have y4 := (hc _ _ l2).trans d2
        refine ⟨rfl, ?_⟩
        simp only [putsL]
        change quietTo _ _ _ _ (Sem.run _ (execOp (Act.eval (Act.put (Act.put _ (some 21) (sv 5)) (some 20) (sv 4))) _) _)
        try simp only [Act.put, List.setIfInBounds_toArray, List.set_cons_succ, List.set_cons_zero]
        simp [go_sem, quietTo, Ext.refl, ↓IntWalk.iteOmega, f4, f5, hkI]
        all_goals try simp (disch := omega) only [IntWalk.i64_in]
        all_goals first
          | rfl
      refine fac_quiet 7 rfl rfl rfl (fun _ _ h _ => h) rfl rfl ?_
      apply Exists.intro
      refine ⟨fun sv w' hw' hfa => ?_, ?_⟩
      · obtain ⟨f4, f5, f6, -⟩ := hfa
        replace f4 : sv 4 = _ := f4
        try dsimp only at f4
        replace f5 : sv 5 = _ := f5
        try dsimp only at f5
        replace f6 : sv 6 = _ := f6
        try dsimp only at f6
        have hk9 := (Ext.refl wr).drew.trans hw'; obtain ⟨hc, hff, hz9⟩ := hk9.walk; have y1 := (hc _ _ l1).trans c1; have y2 := (hc _ _ l1).trans c2; have y3 := (hc _ _ l2).trans d1; have y4 := (hc _ _ l2).trans d2
        refine ⟨rfl, ?_⟩
        simp only [putsL]
        change quietTo _ _ _ _ (Sem.run _ (execOp (Act.eval (Act.put (Act.put (Act.put _ (some 22) (sv 6)) (some 21) (sv 5)) (some 20) (sv 4))) _) _)
        try simp only [Act.put, List.setIfInBounds_toArray, List.set_cons_succ, List.set_cons_zero]
        simp [go_sem, quietTo, Ext.refl, ↓IntWalk.iteOmega, f6, y3, y4]
        all_goals try simp (disch := omega) only [IntWalk.i64_in]
        all_goals first
          | rfl
      refine fac_quiet 8 rfl rfl rfl (fun _ _ h _ => h) rfl rfl ?_
      apply Exists.intro
      refine ⟨fun sv w' hw' hfa => ?_, ?_⟩
      · obtain ⟨f0, f1, f2, f3, f4, f5, f6, f7, -⟩ := hfa
        replace f0 : sv 0 = _ := f0
        try dsimp only at f0
        replace f1 : sv 1 = _ := f1
        try dsimp only at f1
        replace f2 : sv 2 = _ := f2
        try dsimp only at f2
        replace f3 : sv 3 = _ := f3
        try dsimp only at f3
        replace f4 : sv 4 = _ := f4
        try dsimp only at f4
        replace f5 : sv 5 = _ := f5
        try dsimp only at f5
        replace f6 : sv 6 = _ := f6
        try dsimp only at f6
        replace f7 : sv 7 = _ := f7
        try dsimp only at f7
        have hk9 := (Ext.refl wr).drew.trans hw'; obtain ⟨hc, hff, hz9⟩ := hk9.walk; have y1 := (hc _ _ l1).trans c1; have y2 := (hc _ _ l1).trans c2; have y3 := (hc _ _ l2).trans d1; have y4 := (hc _ _ l2).trans d2
        refine ⟨rfl, ?_⟩
        simp only [putsL]
        change quietTo _ _ _ _ (Sem.run _ (execOp (Act.eval (Act.put (Act.put (Act.put (Act.put (Act.put (Act.put (Act.put (Act.put _ (some 23) (sv 7)) (some 22) (sv 6)) (some 21) (sv 5)) (some 20) (sv 4)) (some 19) (sv 3)) (some 18) (sv 2)) (some 17) (sv 1)) (some 16) (sv 0))) _) _)
        try simp only [Act.put, List.setIfInBounds_toArray, List.set_cons_succ, List.set_cons_zero]
        simp [go_sem, quietTo, Ext.refl, ↓IntWalk.iteOmega, f3, f7]
        all_goals try simp (disch := omega) only [IntWalk.i64_in]
        all_goals first
          | rfl
      refine fac_nil fun xq wrq herq hfrq hcrq holdq hapq => ?_
      obtain ⟨f0, f1, f2, f3, f4, f5, f6, f7, f8, -⟩ := hfrq
      replace f0 : xq 0 = _ := f0
      try dsimp only at f0
      replace f1 : xq 1 = _ := f1
      try dsimp only at f1
      replace f2 : xq 2 = _ := f2
      try dsimp only at f2
      replace f3 : xq 3 = _ := f3
      try dsimp only at f3
      replace f4 : xq 4 = _ := f4
      try dsimp only at f4
      replace f5 : xq 5 = _ := f5
      try dsimp only at f5
      replace f6 : xq 6 = _ := f6
      try dsimp only at f6
      replace f7 : xq 7 = _ := f7
      try dsimp only at f7
      replace f8 : xq 8 = _ := f8
      try dsimp only at f8
      change wpList _ _ _ _ (Act.put (Act.put (Act.put (Act.put (Act.put (Act.put (Act.put (Act.put (Act.put _ (some 16) (xq 0)) (some 17) (xq 1)) (some 18) (xq 2)) (some 19) (xq 3)) (some 20) (xq 4)) (some 21) (xq 5)) (some 22) (xq 6)) (some 23) (xq 7)) (some 24) (xq 8)) _
      simp only [putsL, Nat.reduceAdd, List.drop_succ_cons, List.drop_zero, List.drop_nil, Act.put, List.setIfInBounds_toArray, List.set_cons_succ, List.set_cons_zero]
      try simp only [f0, f1, f2, f3, f4, f5, f6, f7, f8]
      clear f0 f1 f2 f3 f4 f5 f6 f7 f8
      clear holdq hapq
      go_wp2
      go_roundw
      case rel => exact ⟨k + 1, by omega, by go_num, hE.trans ((Ext.refl _).drew.trans herq)⟩
      case measure => simp [intOf]; omega
    · obtain rfl : k = xs.length := by omega
      go_wp2
      go_ret
      exact ⟨rfl, hE⟩
theorem three_elems {w : World} {g : Nat} (h : Blk w g 76 #[.string ⟨#[97]⟩, .string ⟨#[51, 52]⟩, .string ⟨#[98]⟩, .string ⟨#[51, 51]⟩, .string ⟨#[99]⟩, .string ⟨#[51, 51]⟩]) : Elems 2 pairC w g 0 threeP := fun i x hx j v hv => by
  have hi : i < 3 := (List.getElem?_eq_some_iff.1 hx).1
  have hj : j < 2 := (List.getElem?_eq_some_iff.1 hv).1
  rw [h.cell]
  obtain rfl | rfl | rfl : i = 0 ∨ i = 1 ∨ i = 2 := by omega
  all_goals
    simp [threeP] at hx
    subst hx
    obtain rfl | rfl : j = 0 ∨ j = 1 := by omega
    all_goals simp [pairC] at hv; subst hv; rfl
set_option maxRecDepth 100000 in
theorem toured_any (B : Nat) (w : World) (ht : Tab B w) :
    Calls Tryd.prog 23 #[] w fun e w' => e = .returned (.bool true) ∧ Ext w w' := by
  go_enter Tryd.func23, Tryd.ntmps23
  go_wp2_with (first
    | (go_at_call 36; refine (shares_all _ B _ (by exact ht.ext ((Ext.refl _).alloc _)) (by exact Blk.new' rfl)).mono ?_; rintro e w1 ⟨b, off, c, rfl, hlt, hel, hb1⟩)
    | (go_at_call 47; refine (eqPair_any b off c w1.heap.size 0 3 threeP _ (by simp; omega) (by exact hel.ext ((Ext.refl _).alloc _) hlt) (by simp) (by exact three_elems (Blk.new' rfl)) (by decide)).mono ?_; rintro e w2 ⟨rfl, hb2⟩))
  go_ret
  exact ⟨rfl, (((Ext.refl w).alloc _).trans hb1).trans (((Ext.refl _).alloc _).trans hb2)⟩
end Go.Proofs.YtlmbpgjdepmlcaaDoor
