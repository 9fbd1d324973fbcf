/- Which part is seen, by the document's text; the choir that the laws try out. Conditions: as each theorem says. Lists of stands that are equal; a name found among them. Conditions: as each theorem says. Names among stands and among names. Conditions: as each theorem says. Who is missing: what is wrong with names, by the document's text. Conditions: stands and names lie in memory. -/
import Derived.Test.YtfcoeikekbjgpaaGreatDoorRxJ26
import Derived.Test.YtfcoeikekbjgpaaGreatDoorRxSuC
import Derived.Test.YtfcoeikekbjgpaaGreatDoorRxStZ
import Derived.Test.YtfcoeikekbjgpaaGreatDoorRxSuB
import Derived.Laws.StructEq
import Derived.Shelf.SlicesQ.IndexFunc
set_option linter.unusedSimpArgs false
set_option linter.unusedVariables false
namespace Go.Proofs.YtfcoeikekbjgpaaGreatDoor
open Go Go.RowKit

theorem slc_of_blk {α : Type} {k : Nat} {enc : α → List Value} (hk : ∀ x, (enc x).length = k) {w : World} {g : Nat} {t : TypeId} {xs : List α} (h : Blk w g t (xs.flatMap enc).toArray) (hl : xs.length ≤ 1000) : Slc k enc w (some ⟨g, 0, none⟩) xs.length xs.length xs := by
  refine ⟨⟨rfl, by omega, fun _ => ⟨g, 0, rfl, h.lt, fun i x hx j u hu => ?_⟩⟩, Nat.le_refl _, (fun e => by cases e), fun a ha => by cases ha; exact ⟨g, 0, rfl, h.lt⟩⟩
  rw [Nat.zero_add, h.cell, List.getElem?_toArray]
  exact flat_at hk xs i x hx j u hu

def tryP : List PersonV := [⟨⟨#[97]⟩, 1700, ⟨#[115]⟩⟩, ⟨⟨#[98]⟩, 1600, ⟨#[115]⟩⟩]
def tryS : List StandV := [⟨⟨#[97]⟩, 0, 0⟩, ⟨⟨#[98]⟩, 1, 0⟩]
theorem try_right : standsF tryP [1, 1] [0, 0] tryS = 0 := by decide +kernel
theorem try_hidden : hiddenL tryP [1, 1] [0, 0] tryS = [(⟨#[98]⟩, ⟨#[97]⟩)] := by decide +kernel
theorem try_psm {w : World} {g1 g2 g3 g4 : Nat} (h1 : Blk w g1 59 #[.string ⟨#[97]⟩, .int .i64 1700, .string ⟨#[115]⟩, .string ⟨#[98]⟩, .int .i64 1600, .string ⟨#[115]⟩]) (h2 : Blk w g2 3 #[.int .i64 1, .int .i64 1]) (h3 : Blk w g3 3 #[.int .i64 0, .int .i64 0]) (h4 : Blk w g4 48 #[.string ⟨#[97]⟩, .int .i64 0, .int .i64 0, .string ⟨#[98]⟩, .int .i64 1, .int .i64 0]) :
    PsM w (some ⟨g1, 0, none⟩) 2 tryP (some ⟨g2, 0, none⟩) 2 [1, 1] (some ⟨g3, 0, none⟩) 2 [0, 0] (some ⟨g4, 0, none⟩) 2 tryS :=
  ⟨slc_of_blk perC_len (xs := tryP) h1 (by decide), slc_of_blk intC_len (xs := [1, 1]) h2 (by decide), slc_of_blk intC_len (xs := [0, 0]) h3 (by decide), slc_of_blk staC_len (xs := tryS) h4 (by decide),
    (by intro x hx; simp [tryP] at hx; rcases hx with rfl | rfl <;> (unfold PersonV.Small; decide)), (by intro x hx; simp at hx; omega), (by intro x hx; simp at hx; omega), (by intro x hx; simp [tryS] at hx; rcases hx with rfl | rfl <;> (unfold StandV.Small; decide)), by decide, by decide⟩

set_option maxRecDepth 100000 in
set_option maxHeartbeats 1600000 in
theorem stood_any (w : World) : Calls Tryz.prog 17 #[] w fun e w' => e = .returned (.bool true) ∧ Ext w w' := by
  have hM := try_psm (w := ((((w.alloc (.cells #[.string ⟨#[97]⟩, .int .i64 1700, .string ⟨#[115]⟩, .string ⟨#[98]⟩, .int .i64 1600, .string ⟨#[115]⟩] 59)).alloc (.cells #[.int .i64 1, .int .i64 1] 3)).alloc (.cells #[.int .i64 0, .int .i64 0] 3)).alloc (.cells #[.string ⟨#[97]⟩, .int .i64 0, .int .i64 0, .string ⟨#[98]⟩, .int .i64 1, .int .i64 0] 48))) (g1 := w.heap.size) (g2 := w.heap.size + 1) (g3 := w.heap.size + 1 + 1) (g4 := w.heap.size + 1 + 1 + 1) ((((Blk.new' rfl).alloc _).alloc _).alloc _) (((Blk.new' (by simp)).alloc _).alloc _) ((Blk.new' (by simp)).alloc _) (Blk.new' (by simp))
  have hE0 : Ext w ((((w.alloc (.cells #[.string ⟨#[97]⟩, .int .i64 1700, .string ⟨#[115]⟩, .string ⟨#[98]⟩, .int .i64 1600, .string ⟨#[115]⟩] 59)).alloc (.cells #[.int .i64 1, .int .i64 1] 3)).alloc (.cells #[.int .i64 0, .int .i64 0] 3)).alloc (.cells #[.string ⟨#[97]⟩, .int .i64 0, .int .i64 0, .string ⟨#[98]⟩, .int .i64 1, .int .i64 0] 48)) := ((((Ext.refl _).alloc _).alloc _).alloc _).alloc _
  have hh : Calls Tryz.prog 46 #[.slice (some ⟨w.heap.size, 0, none⟩) 2 2, .agg #[.slice (some ⟨w.heap.size + 1, 0, none⟩) 2 2, .slice (some ⟨w.heap.size + 1 + 1, 0, none⟩) 2 2], .slice (some ⟨w.heap.size + 1 + 1 + 1, 0, none⟩) 2 2] ((((w.alloc (.cells #[.string ⟨#[97]⟩, .int .i64 1700, .string ⟨#[115]⟩, .string ⟨#[98]⟩, .int .i64 1600, .string ⟨#[115]⟩] 59)).alloc (.cells #[.int .i64 1, .int .i64 1] 3)).alloc (.cells #[.int .i64 0, .int .i64 0] 3)).alloc (.cells #[.string ⟨#[97]⟩, .int .i64 0, .int .i64 0, .string ⟨#[98]⟩, .int .i64 1, .int .i64 0] 48)) (fun e w' => ∃ (q : Option Addr) (c : Nat), e = .returned (.tuple #[.slice q 1 c, .int .i64 0]) ∧ Slc 2 hidC w' q 1 c [(⟨#[98]⟩, ⟨#[97]⟩)] ∧ Ext ((((w.alloc (.cells #[.string ⟨#[97]⟩, .int .i64 1700, .string ⟨#[115]⟩, .string ⟨#[98]⟩, .int .i64 1600, .string ⟨#[115]⟩] 59)).alloc (.cells #[.int .i64 1, .int .i64 1] 3)).alloc (.cells #[.int .i64 0, .int .i64 0] 3)).alloc (.cells #[.string ⟨#[97]⟩, .int .i64 0, .int .i64 0, .string ⟨#[98]⟩, .int .i64 1, .int .i64 0] 48)) w') := by
    have := hides_good hM try_right
    rw [try_hidden] at this
    exact this
  replace hh := Lib.hid hh
  clear hM
  go_enter Tryz.func17, Tryz.ntmps17
  go_wp2_with (first
    | (go_at_call 46; (with_reducible refine Calls.mono hh.out ?_); rintro e w3 ⟨q, c, rfl, hs, hb3⟩)
    | (go_at_call 47; (with_reducible refine Calls.mono (eqHid_any q _ 1 c 1 [(⟨#[98]⟩, ⟨#[97]⟩)] _ (hs.ext ((Ext.refl _).alloc _)) (slc_of_blk hidC_len (xs := [((⟨#[98]⟩ : ByteArray), (⟨#[97]⟩ : ByteArray))]) (Blk.new' rfl) (by decide)) (by decide)) ?_); rintro e w4 ⟨rfl, hb4⟩))
  go_ret
  exact ⟨rfl, ((hE0.trans hb3).alloc _).trans hb4⟩
end Go.Proofs.YtfcoeikekbjgpaaGreatDoor

namespace Go.Proofs.YtfcoeikekbjgpaaGreatDoor
open Go Go.RowKit

set_option maxRecDepth 100000 in
set_option maxHeartbeats 1600000 in
theorem eqSta_any (p q : Option Addr) (n c d : Nat) (xs : List StandV) (w : World) (h1 : Slc 3 staC w p n c xs) (h2 : Slc 3 staC w q n d xs) (hn : n ≤ 100000) :
    Calls Tryz.prog 18 #[.slice p n c, .slice q n d] w fun e w' => e = .returned (.bool true) ∧ Ext w w' := by
  obtain ⟨hl, hp⟩ := slcC h1
  obtain ⟨-, hq⟩ := slcC h2
  subst hl
  replace hp := Lib.hid hp
  replace hq := Lib.hid hq
  clear h1 h2
  go_enter Tryz.func18, Tryz.ntmps18
  go_wp2
  go_loopw [13] (fun i wr => ∃ k : Nat, k ≤ xs.length ∧ i = .int .i64 k ∧ Ext w wr) (fun i _ => xs.length - (intOf i).toNat)
  case atStart => exact ⟨0, Nat.zero_le _, rfl, Ext.refl _⟩
  case round =>
    obtain ⟨k, hk, rfl, hE⟩ := hrel
    by_cases hlt : k < xs.length
    · obtain ⟨x, hx⟩ := getD_some (rfl : xs.length = xs.length) hlt
      rcases hp.out with ⟨-, e⟩ | ⟨b1, o1, rfl, hb1, hE1⟩
      · rw [e] at hx; cases hx
      rcases hq.out with ⟨-, e⟩ | ⟨b2, o2, rfl, hb2, hE2⟩
      · rw [e] at hx; cases hx
      obtain ⟨c1, c3, c5⟩ := (hE1.ext hE hb1).sta hx
      obtain ⟨c2, c4, c6⟩ := (hE2.ext hE hb2).sta hx
      have l1 := Nat.lt_of_lt_of_le hb1 hE.size
      have l2 := Nat.lt_of_lt_of_le hb2 hE.size
      have hkI : (k : Int) < xs.length := by omega
      clear hx hE1 hE2
      go_upto_region 6 with fail
      refine wp_region_facts [] [([], false, false), ([], false, false), ([0, 1], false, false), ([0, 1, 2], false, false), ([], false, false), ([], false, false), ([4, 5], false, false), ([4, 5, 6], false, false), ([0, 1, 2, 3, 4, 5, 6, 7], false, false)] (Ext) Ext (fun _ => True) (by kernel_rfl) (by kernel_rfl) Ext.refl (fun _ _ _ => Ext.trans) (fun _ _ h => h) (fun _ _ h => h.size) (fun _ _ h _ => h) trivial ?_
      dsimp only [List.length_cons, List.length_nil, List.drop_succ_cons, List.drop_zero, List.drop_nil]
      refine fac_quiet 0 rfl rfl rfl (fun _ _ h _ => h) rfl rfl ?_
      apply Exists.intro
      refine ⟨fun sv w' hw' hfa => ?_, ?_⟩
      · refine ⟨rfl, ?_⟩
        simp only [putsL]
        change quietTo _ _ _ _ (Sem.run _ (execOp (Act.eval _) _) _)
        try simp only [Act.put, List.setIfInBounds_toArray, List.set_cons_succ, List.set_cons_zero]
        simp [go_sem, quietTo, Ext.refl]
        all_goals first
          | rfl
      refine fac_quiet 1 rfl rfl rfl (fun _ _ h _ => h) rfl rfl ?_
      apply Exists.intro
      refine ⟨fun sv w' hw' hfa => ?_, ?_⟩
      · refine ⟨rfl, ?_⟩
        simp only [putsL]
        change quietTo _ _ _ _ (Sem.run _ (execOp (Act.eval _) _) _)
        try simp only [Act.put, List.setIfInBounds_toArray, List.set_cons_succ, List.set_cons_zero]
        simp [go_sem, quietTo, Ext.refl]
        all_goals first
          | rfl
      refine fac_quiet 2 rfl rfl rfl (fun _ _ h _ => h) rfl rfl ?_
      apply Exists.intro
      refine ⟨fun sv w' hw' hfa => ?_, ?_⟩
      · obtain ⟨f0, f1, -⟩ := hfa
        replace f0 : sv 0 = _ := f0
        try dsimp only at f0
        replace f1 : sv 1 = _ := f1
        try dsimp only at f1
        have hk9 := (Ext.refl wr).drew.trans hw'; obtain ⟨hc, hff, hz9⟩ := hk9.walk; have y1 := (hc _ _ l1).trans c1; have y2 := (hc _ _ l2).trans c2; have y3 := (hc _ _ l1).trans c3; have y4 := (hc _ _ l2).trans c4; have y5 := (hc _ _ l1).trans c5; have y6 := (hc _ _ l2).trans c6
        refine ⟨rfl, ?_⟩
        simp only [putsL]
        change quietTo _ _ _ _ (Sem.run _ (execOp (Act.eval (Act.put (Act.put _ (some 17) (sv 1)) (some 16) (sv 0))) _) _)
        try simp only [Act.put, List.setIfInBounds_toArray, List.set_cons_succ, List.set_cons_zero]
        simp [go_sem, quietTo, Ext.refl, ↓IntWalk.iteOmega, f0, f1, hkI]
        all_goals try simp (disch := omega) only [IntWalk.i64_in]
        all_goals first
          | rfl
      refine fac_quiet 3 rfl rfl rfl (fun _ _ h _ => h) rfl rfl ?_
      apply Exists.intro
      refine ⟨fun sv w' hw' hfa => ?_, ?_⟩
      · obtain ⟨_, _, f2, -⟩ := hfa
        replace f2 : sv 2 = _ := f2
        try dsimp only at f2
        have hk9 := (Ext.refl wr).drew.trans hw'; obtain ⟨hc, hff, hz9⟩ := hk9.walk; have y1 := (hc _ _ l1).trans c1; have y2 := (hc _ _ l2).trans c2; have y3 := (hc _ _ l1).trans c3; have y4 := (hc _ _ l2).trans c4; have y5 := (hc _ _ l1).trans c5; have y6 := (hc _ _ l2).trans c6
        refine ⟨rfl, ?_⟩
        simp only [putsL]
        change quietTo _ _ _ _ (Sem.run _ (execOp (Act.eval (Act.put (Act.put (Act.put _ (some 18) (sv 2)) (some 17) (sv 1)) (some 16) (sv 0))) _) _)
        try simp only [Act.put, List.setIfInBounds_toArray, List.set_cons_succ, List.set_cons_zero]
        simp [go_sem, quietTo, Ext.refl, ↓IntWalk.iteOmega, f2, y1, y3, y5]
        all_goals try simp (disch := omega) only [IntWalk.i64_in]
        all_goals first
          | rfl
      refine fac_quiet 4 rfl rfl rfl (fun _ _ h _ => h) rfl rfl ?_
      apply Exists.intro
      refine ⟨fun sv w' hw' hfa => ?_, ?_⟩
      · refine ⟨rfl, ?_⟩
        simp only [putsL]
        change quietTo _ _ _ _ (Sem.run _ (execOp (Act.eval _) _) _)
        try simp only [Act.put, List.setIfInBounds_toArray, List.set_cons_succ, List.set_cons_zero]
        simp [go_sem, quietTo, Ext.refl]
        all_goals first
          | rfl
      refine fac_quiet 5 rfl rfl rfl (fun _ _ h _ => h) rfl rfl ?_
      apply Exists.intro
      refine ⟨fun sv w' hw' hfa => ?_, ?_⟩
      · refine ⟨rfl, ?_⟩
        simp only [putsL]
        change quietTo _ _ _ _ (Sem.run _ (execOp (Act.eval _) _) _)
        try simp only [Act.put, List.setIfInBounds_toArray, List.set_cons_succ, List.set_cons_zero]
        simp [go_sem, quietTo, Ext.refl]
        all_goals first
          | rfl
      refine fac_quiet 6 rfl rfl rfl (fun _ _ h _ => h) rfl rfl ?_
      apply Exists.intro
      refine ⟨fun sv w' hw' hfa => ?_, ?_⟩
      · obtain ⟨f4, f5, -⟩ := hfa
        replace f4 : sv 4 = _ := f4
        try dsimp only at f4
        replace f5 : sv 5 = _ := f5
        try dsimp only at f5
        have hk9 := (Ext.refl wr).drew.trans hw'; obtain ⟨hc, hff, hz9⟩ := hk9.walk; have y1 := (hc _ _ l1).trans c1; have y2 := (hc _ _ l2).trans c2; have y3 := (hc _ _ l1).trans c3; have y4 := (hc _ _ l2).trans c4; have y5 := (hc _ _ l1).trans c5; have y6 := (hc _ _ l2).trans c6
        refine ⟨rfl, ?_⟩
        simp only [putsL]
        change quietTo _ _ _ _ (Sem.run _ (execOp (Act.eval (Act.put (Act.put _ (some 21) (sv 5)) (some 20) (sv 4))) _) _)
        try simp only [Act.put, List.setIfInBounds_toArray, List.set_cons_succ, List.set_cons_zero]
        simp [go_sem, quietTo, Ext.refl, ↓IntWalk.iteOmega, f4, f5, hkI]
        all_goals try simp (disch := omega) only [IntWalk.i64_in]
        all_goals first
          | rfl
      refine fac_quiet 7 rfl rfl rfl (fun _ _ h _ => h) rfl rfl ?_
      apply Exists.intro
      refine ⟨fun sv w' hw' hfa => ?_, ?_⟩
      · obtain ⟨_, _, f6, -⟩ := hfa
        replace f6 : sv 6 = _ := f6
        try dsimp only at f6
        have hk9 := (Ext.refl wr).drew.trans hw'; obtain ⟨hc, hff, hz9⟩ := hk9.walk; have y1 := (hc _ _ l1).trans c1; have y2 := (hc _ _ l2).trans c2; have y3 := (hc _ _ l1).trans c3; have y4 := (hc _ _ l2).trans c4; have y5 := (hc _ _ l1).trans c5; have y6 := (hc _ _ l2).trans c6
        refine ⟨rfl, ?_⟩
        simp only [putsL]
        change quietTo _ _ _ _ (Sem.run _ (execOp (Act.eval (Act.put (Act.put (Act.put _ (some 22) (sv 6)) (some 21) (sv 5)) (some 20) (sv 4))) _) _)
        try simp only [Act.put, List.setIfInBounds_toArray, List.set_cons_succ, List.set_cons_zero]
        simp [go_sem, quietTo, Ext.refl, ↓IntWalk.iteOmega, f6, y2, y4, y6]
        all_goals try simp (disch := omega) only [IntWalk.i64_in]
        all_goals first
          | rfl
      refine fac_quiet 8 rfl rfl rfl (fun _ _ h _ => h) rfl rfl ?_
      apply Exists.intro
      refine ⟨fun sv w' hw' hfa => ?_, ?_⟩
      · obtain ⟨_, _, _, f3, _, _, _, f7, -⟩ := hfa
        replace f3 : sv 3 = _ := f3
        try dsimp only at f3
        replace f7 : sv 7 = _ := f7
        try dsimp only at f7
        refine ⟨rfl, ?_⟩
        simp only [putsL]
        change quietTo _ _ _ _ (Sem.run _ (execOp (Act.eval (Act.put (Act.put (Act.put (Act.put (Act.put (Act.put (Act.put (Act.put _ (some 23) (sv 7)) (some 22) (sv 6)) (some 21) (sv 5)) (some 20) (sv 4)) (some 19) (sv 3)) (some 18) (sv 2)) (some 17) (sv 1)) (some 16) (sv 0))) _) _)
        try simp only [Act.put, List.setIfInBounds_toArray, List.set_cons_succ, List.set_cons_zero]
        simp [go_sem, quietTo, Ext.refl, ↓IntWalk.iteOmega, f3, f7]
        all_goals try simp (disch := omega) only [IntWalk.i64_in]
        all_goals first
          | rfl
      refine fac_nil fun xq wrq herq hfrq hcrq holdq hapq => ?_
      obtain ⟨f0, f1, f2, f3, f4, f5, f6, f7, f8, -⟩ := hfrq
      replace f0 : xq 0 = _ := f0
      try dsimp only at f0
      replace f1 : xq 1 = _ := f1
      try dsimp only at f1
      replace f2 : xq 2 = _ := f2
      try dsimp only at f2
      replace f3 : xq 3 = _ := f3
      try dsimp only at f3
      replace f4 : xq 4 = _ := f4
      try dsimp only at f4
      replace f5 : xq 5 = _ := f5
      try dsimp only at f5
      replace f6 : xq 6 = _ := f6
      try dsimp only at f6
      replace f7 : xq 7 = _ := f7
      try dsimp only at f7
      replace f8 : xq 8 = _ := f8
      try dsimp only at f8
      change wpList _ _ _ _ (Act.put (Act.put (Act.put (Act.put (Act.put (Act.put (Act.put (Act.put (Act.put _ (some 16) (xq 0)) (some 17) (xq 1)) (some 18) (xq 2)) (some 19) (xq 3)) (some 20) (xq 4)) (some 21) (xq 5)) (some 22) (xq 6)) (some 23) (xq 7)) (some 24) (xq 8)) _
      simp only [putsL, Nat.reduceAdd, List.drop_succ_cons, List.drop_zero, List.drop_nil, Act.put, List.setIfInBounds_toArray, List.set_cons_succ, List.set_cons_zero]
      try simp only [f0, f1, f2, f3, f4, f5, f6, f7, f8]
      clear f0 f1 f2 f3 f4 f5 f6 f7 f8
      clear holdq hapq
      go_wp2
      go_roundw
      case rel => exact ⟨k + 1, by omega, by go_num, hE.trans ((Ext.refl _).drew.trans herq)⟩
      case measure => simp [intOf]; omega
    · obtain rfl : k = xs.length := by omega
      go_wp2
      go_ret
      exact ⟨rfl, hE⟩

end Go.Proofs.YtfcoeikekbjgpaaGreatDoor

namespace Go.Proofs.YtfcoeikekbjgpaaGreatDoor
open Go Go.RowKit

set_option maxRecDepth 100000 in
set_option maxHeartbeats 1600000 in
theorem indexS_any (p : Option Addr) (n c : Nat) (G : List ByteArray) (nm : ByteArray) (w : World) (h : Slc 1 strC w p n c G) (hn : n ≤ 1000) :
    Calls Tryz.prog 40 #[.slice p n c, .string nm] w fun e w' => ∃ i : Int, e = .returned (.int .i64 i) ∧ (0 ≤ i ↔ nm ∈ G) ∧ Ext w w' := by
  obtain ⟨hl, hp⟩ := slcC h
  subst hl
  replace hp := Lib.hid hp
  clear h
  go_enter Tryz.func40, Tryz.ntmps40
  go_wp2
  go_loopw [8] (fun i wr => ∃ k : Nat, k ≤ G.length ∧ i = .int .i64 k ∧ nm ∉ G.take k ∧ Ext w wr) (fun i _ => G.length - (intOf i).toNat)
  case atStart => exact ⟨0, Nat.zero_le _, rfl, by simp, Ext.refl _⟩
  case round =>
    obtain ⟨k, hk, rfl, hno, hE⟩ := hrel
    by_cases hlt : k < G.length
    · obtain ⟨x, hx⟩ := getD_some (rfl : G.length = G.length) hlt
      rcases hp.out with ⟨-, e⟩ | ⟨b1, o1, rfl, hb1, hE1⟩
      · rw [e] at hx; cases hx
      have c1 := (hE1.ext hE hb1).str hx
      have l1 := Nat.lt_of_lt_of_le hb1 hE.size
      have hkI : (k : Int) < G.length := by omega
      have htk := take_snocL hx
      have hxm := List.mem_of_getElem? hx
      replace hno := Lib.hid hno
      replace htk := Lib.hid htk
      clear hx hE1
      cases hq : (nm.toList == x.toList)
      · have hne : nm ≠ x := fun e => by rw [baL.2 e] at hq; cases hq
        go_wp2
        go_roundw
        case rel => exact ⟨k + 1, by omega, by go_num, by rw [htk.out]; simp only [List.mem_append, List.mem_singleton, not_or]; exact ⟨hno.out, hne⟩, hE⟩
        case measure => simp [intOf]; omega
      · have hne : nm = x := baL.1 hq
        go_wp2
        go_ret
        exact ⟨k, rfl, ⟨fun _ => by rw [hne]; exact hxm, fun _ => by omega⟩, hE⟩
    · obtain rfl : k = G.length := by omega
      rw [List.take_length] at hno
      replace hno := Lib.hid hno
      go_wp2
      go_ret
      exact ⟨-1, rfl, ⟨fun h => by omega, fun h => absurd h hno.out⟩, hE⟩
set_option maxRecDepth 100000 in
theorem containsS_any (p : Option Addr) (n c : Nat) (G : List ByteArray) (nm : ByteArray) (w : World) (h : Slc 1 strC w p n c G) (hn : n ≤ 1000) :
    Calls Tryz.prog 42 #[.slice p n c, .string nm] w fun e w' => ∃ b : Bool, e = .returned (.bool b) ∧ (b = true ↔ nm ∈ G) ∧ Ext w w' := by
  have hi := indexS_any p n c G nm w h hn
  replace hi := Lib.hid hi
  clear h
  go_enter Tryz.func42, Tryz.ntmps42
  go_wp2_with (go_at_call 40; (with_reducible refine Calls.mono hi.out ?_); rintro e w1 ⟨i, rfl, hi2, hb1⟩)
  go_ret
  exact ⟨_, rfl, by rw [decide_eq_true_iff]; exact hi2, hb1⟩
end Go.Proofs.YtfcoeikekbjgpaaGreatDoor

namespace Go.Proofs.YtfcoeikekbjgpaaGreatDoor
open Go Go.RowKit

def inN (L : List ByteArray) (nm : ByteArray) : Bool := L.any fun y => y.toList == nm.toList
theorem inN_iff {L : List ByteArray} {nm : ByteArray} : inN L nm = true ↔ nm ∈ L := by
  unfold inN
  rw [List.any_eq_true]
  exact ⟨fun ⟨y, hy, h⟩ => baL.1 h ▸ hy, fun h => ⟨_, h, baL.2 rfl⟩⟩
theorem inN_false {L : List ByteArray} {nm : ByteArray} : inN L nm = false ↔ nm ∉ L := by
  rw [← inN_iff]; simp
theorem Slc.takeN {α : Type} {k : Nat} {enc : α → List Value} {w : World} {p : Option Addr} {n c : Nat} {xs : List α} (h : Slc k enc w p n c xs) {m : Nat} (hm : m ≤ n) : 0 < m → Slc k enc w p m c (xs.take m) := fun h0 => by
  obtain ⟨hS, hnc, hp0, hp⟩ := h
  refine ⟨⟨by rw [List.length_take, hS.1]; omega, by have := hS.2.1; omega, fun _ => ?_⟩, by omega, fun e => by have := hp0 e; omega, hp⟩
  obtain ⟨b, off, e, hb, hE⟩ := hS.2.2 (by omega)
  refine ⟨b, off, e, hb, fun i x hx j u hu => hE i x ?_ j u hu⟩
  rw [List.getElem?_take] at hx
  split at hx
  · exact hx
  · cases hx
theorem containsS_is (p : Option Addr) (n c : Nat) (G : List ByteArray) (nm : ByteArray) (w : World) (h : Slc 1 strC w p n c G) (hn : n ≤ 1000) {v : Bool} (hv : inN G nm = v) :
    Calls Tryz.prog 42 #[.slice p n c, .string nm] w fun e w' => e = .returned (.bool v) ∧ Ext w w' :=
  (containsS_any p n c G nm w h hn).mono fun e w' ⟨b, he, hb, hE⟩ => ⟨by
    have : b = inN G nm := by rw [Bool.eq_iff_iff, hb, inN_iff]
    rw [he, this, hv], hE⟩
set_option maxRecDepth 100000 in
theorem containsS_zero (p : Option Addr) (c : Nat) (nm : ByteArray) (w : World) : Calls Tryz.prog 42 #[.slice p 0 c, .string nm] w fun e w' => e = .returned (.bool false) ∧ Ext w w' := by
  have hi : ∀ u, Calls Tryz.prog 40 #[.slice p 0 c, .string nm] u fun e w' => e = .returned (.int .i64 (-1)) ∧ Ext u w' := fun u => by
    go_enter Tryz.func40, Tryz.ntmps40
    go_wp2
    refine wp_loop_rounds 1 ?_
    rw [rounds_succ]
    go_wp2
    go_ret
    exact ⟨rfl, Ext.refl _⟩
  replace hi := Lib.hid hi
  go_enter Tryz.func42, Tryz.ntmps42
  go_wp2_with (go_at_call 40; (with_reducible refine Calls.mono (hi.out _) ?_); rintro e w1 ⟨rfl, hb1⟩)
  go_ret
  exact ⟨rfl, hb1⟩
theorem containsS_take (p : Option Addr) (n c : Nat) (G : List ByteArray) (nm : ByteArray) (w : World) (h : Slc 1 strC w p n c G) (hn : n ≤ 1000) {m : Nat} (hm : m ≤ n) {v : Bool} (hv : inN (G.take m) nm = v) :
    Calls Tryz.prog 42 #[.slice p m c, .string nm] w fun e w' => e = .returned (.bool v) ∧ Ext w w' := by
  rcases Nat.eq_zero_or_pos m with h0 | h0
  · subst h0
    have : v = false := by rw [← hv]; rfl
    subst this
    exact containsS_zero p c nm w
  · exact containsS_is p m c (G.take m) nm w (h.takeN hm h0) (by omega) hv

end Go.Proofs.YtfcoeikekbjgpaaGreatDoor
