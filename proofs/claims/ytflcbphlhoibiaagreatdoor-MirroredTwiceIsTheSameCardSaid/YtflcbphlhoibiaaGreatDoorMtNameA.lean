/- The name of a note, by tune. Conditions: the note is one. -/
import Derived.Test.YtflcbphlhoibiaaGreatDoorMtJ7
import Derived.Test.YtflcbphlhoibiaaGreatDoorMtFactsB
import Derived.Test.YtflcbphlhoibiaaGreatDoorMtStream
import Derived.Lib.AppendIntMem
import Derived.Lib.ItoaLen
set_option linter.unusedSimpArgs false
set_option linter.unusedVariables false
namespace Go.Proofs.YtflcbphlhoibiaaGreatDoor
open Go Go.RowKit

/-- The table of the powers of ten lies ahead of block B. -/
def Tab (B : Nat) (w : World) : Prop := B ≤ w.heap.size ∧ Lib.TabBelow Tryz.prog B w "internal/strconv.uint64pow10" .u64 Lib.pow10Tab
theorem Tab.ext {B : Nat} {w w' : World} (h : Tab B w) (he : Ext w w') : Tab B w' := ⟨Nat.le_trans h.1 he.size, h.2.on (Below.mono he h.1)⟩
theorem Tab.extS {B s : Nat} {w w' : World} (h : Tab B w) (hs : B ≤ s) (he : ExtS s w w') : Tab B w' :=
  ⟨Nat.le_trans h.1 he.2.2.2.1, h.2.on ⟨he.1, he.2.1, he.2.2.1, he.2.2.2.1, fun k hk => he.2.2.2.2 k (Nat.lt_of_lt_of_le hk h.1) (by omega)⟩⟩

theorem itoa_any (n : Int) (h0 : -9223372036854775808 ≤ n) (h1 : n ≤ 9223372036854775807) (B : Nat) (w : World) (ht : Tab B w) :
    Calls Tryz.prog 48 #[.int .i64 n] w fun e w' => e = .returned (.string ⟨(Lib.itoa n).toArray⟩) ∧ Ext w w' :=
  (Tryz.strconv_Itoa n h0 h1 w ht.2.here).mono fun e w' ⟨he, k, os, hw⟩ => ⟨he, by subst hw; exact Lib.below_grow _ _ (Nat.le_refl _) k os⟩

theorem names_fresh (w : World) :
    Calls Tryz.prog 77 #[] w fun e w' => ∃ v, e = .returned v ∧ FreshS v w w' 9 nameCells 12 12 ∧ Ext w w' :=
  (names_any w).mono fun e w' ⟨he, hw⟩ => ⟨_, he, ⟨_, rfl, Nat.le_refl _, hw ▸ Blk.new' rfl⟩, hw ▸ (Ext.refl _).alloc _⟩

def letterB (r : Nat) : ByteArray := match nameCells.getD r undef with | .string s => s | _ => ⟨#[]⟩
theorem letter_at {r : Nat} (h : r < 12) : nameCells[r]? = some (.string (letterB r)) := by
  obtain rfl | rfl | rfl | rfl | rfl | rfl | rfl | rfl | rfl | rfl | rfl | rfl : r = 0 ∨ r = 1 ∨ r = 2 ∨ r = 3 ∨ r = 4 ∨ r = 5 ∨ r = 6 ∨ r = 7 ∨ r = 8 ∨ r = 9 ∨ r = 10 ∨ r = 11 := by omega
  all_goals rfl

theorem letter_size {r : Nat} (h : r < 12) : (letterB r).size ≤ 2 := by
  obtain rfl | rfl | rfl | rfl | rfl | rfl | rfl | rfl | rfl | rfl | rfl | rfl : r = 0 ∨ r = 1 ∨ r = 2 ∨ r = 3 ∨ r = 4 ∨ r = 5 ∨ r = 6 ∨ r = 7 ∨ r = 8 ∨ r = 9 ∨ r = 10 ∨ r = 11 := by omega
  all_goals decide

set_option maxRecDepth 100000 in
theorem name_any (n : Nat) (B : Nat) (w : World) (h : n ≤ 127) (ht : Tab B w) :
    Calls Tryz.prog 52 #[.int .i64 n] w fun e w' => e = .returned (.tuple #[.string (letterB (n % 12) ++ ⟨(Lib.itoa ((n / 12 : Nat) - 1)).toArray⟩), .int .i64 0]) ∧ Ext w w' := by
  have hO : outB n 0 127 = false := by unfold outB; simp; omega
  have h12 : n % 12 < 12 := Nat.mod_lt _ (by omega)
  have htm : (n : Int).tmod 12 = ((n % 12 : Nat) : Int) := (Int.ofNat_tmod n 12).symm
  have htd : (n : Int).tdiv 12 = ((n / 12 : Nat) : Int) := (Int.ofNat_tdiv n 12).symm
  have hdl : n / 12 ≤ 10 := by omega
  obtain ⟨q, hq⟩ : ∃ q, n / 12 = q := ⟨_, rfl⟩
  obtain ⟨r, hr⟩ : ∃ r, n % 12 = r := ⟨_, rfl⟩
  rw [hq] at htd hdl ⊢
  rw [hr] at htm h12 ⊢
  have hN := letter_at h12
  replace hN := Lib.hid hN
  have hL1 := letter_size h12
  have hL2 := Lib.itoa_length_le ((q : Int) - 1) (by omega) (by omega)
  have hsub : IntKind.i64.wrap ((q : Int) - 1) = (q : Int) - 1 := IntWalk.i64_in _ (by omega)
  replace hq := Lib.hid hq
  replace hr := Lib.hid hr
  replace htm := Lib.hid htm
  replace htd := Lib.hid htd
  replace hsub := Lib.hid hsub
  go_enter Tryz.func52, Tryz.ntmps52
  go_wp2_with (go_at_call 57; refine (outside_any n 0 127 _).mono ?_; rintro e w' ⟨rfl, rfl⟩)
  refine wp_region_facts [] [([], false, true), ([], false, false), ([1], false, false), ([0, 1, 2], false, false), ([0, 1, 2, 3], false, false), ([], false, false), ([5], false, false), ([5, 6], false, false), ([5, 6, 7], false, false), ([0, 1, 2, 3, 4, 5, 6, 7, 8], false, false), ([0, 1, 2, 3, 4, 5, 6, 7, 8, 9], false, false), ([], false, false)] (Ext) Ext (fun _ => True) (by kernel_rfl) (by kernel_rfl) Ext.refl (fun _ _ _ => Ext.trans) (fun _ _ h => h) (fun _ _ h => h.size) (fun _ _ h _ => h) trivial ?_
  dsimp only [List.length_cons, List.length_nil, List.drop_succ_cons, List.drop_zero, List.drop_nil]
  refine fac_callS 0 rfl rfl rfl (fun _ _ h _ => h) (fun _ _ h => h.size) (fun _ _ _ _ _ he _ hb => hb.ext he) ?_
  apply Exists.intro
  apply Exists.intro
  apply Exists.intro
  apply Exists.intro
  refine ⟨fun sv w' hw' hfa => ?_, ?_⟩
  · obtain ⟨hc, hf, hz⟩ := hw'.walk
    refine ⟨rfl, ?_⟩
    simp only [putsL]
    change outc _ _ (Sem.run _ (execOp (Act.eval _) _) _)
    try simp only [Act.put, List.setIfInBounds_toArray, List.set_cons_succ, List.set_cons_zero]
    simp [go_sem, outc]
    exact names_fresh _
  refine fac_quiet 1 rfl rfl rfl (fun _ _ h _ => h) rfl rfl ?_
  apply Exists.intro
  refine ⟨fun sv w' hw' hfa => ?_, ?_⟩
  · refine ⟨rfl, ?_⟩
    simp only [putsL]
    change quietTo _ _ _ _ (Sem.run _ (execOp (Act.eval _) _) _)
    try simp only [Act.put, List.setIfInBounds_toArray, List.set_cons_succ, List.set_cons_zero]
    simp [go_sem, quietTo, Ext.refl]
    all_goals first
      | rfl
  refine fac_quiet 2 rfl rfl rfl (fun _ _ h _ => h) rfl rfl ?_
  apply Exists.intro
  refine ⟨fun sv w' hw' hfa => ?_, ?_⟩
  · obtain ⟨f1, -⟩ := hfa
    replace f1 : sv 1 = _ := f1
    try dsimp only at f1
    obtain ⟨hc, hf, hz⟩ := hw'.walk
    refine ⟨rfl, ?_⟩
    simp only [putsL]
    change quietTo _ _ _ _ (Sem.run _ (execOp (Act.eval (Act.put _ (some 7) (sv 1))) _) _)
    try simp only [Act.put, List.setIfInBounds_toArray, List.set_cons_succ, List.set_cons_zero]
    simp [go_sem, quietTo, Ext.refl, ↓IntWalk.iteOmega, f1, h12, htm.out, htd.out, hsub.out, hN.out]
    all_goals try simp (disch := omega) only [IntWalk.i64_in]
    all_goals first
      | rfl
  refine fac_via 3 rfl rfl 0 (fun g => .slice (some ⟨g, 0, none⟩) 12 12) (fun _ _ h => by simpa using h) (by decide) rfl (fun _ _ h _ => h) ?_ ?_
  · intro sv w' hfa
    obtain ⟨f0, f1, f2, -⟩ := hfa
    obtain ⟨g0, f0, l0, b0⟩ := f0
    replace f0 : sv 0 = _ := f0
    obtain ⟨p0, q0⟩ := b0.walk
    replace f1 : sv 1 = _ := f1
    try dsimp only at f1
    replace f2 : sv 2 = _ := f2
    try dsimp only at f2
    exact ⟨_, f0⟩
  apply Exists.intro
  refine ⟨fun sv w' g hw' hfa hgi => ?_, ?_⟩
  · obtain ⟨f0, f1, f2, -⟩ := hfa
    obtain ⟨g0, f0, l0, b0⟩ := f0
    replace f0 : sv 0 = _ := f0
    obtain ⟨p0, q0⟩ := b0.walk
    replace f1 : sv 1 = _ := f1
    try dsimp only at f1
    replace f2 : sv 2 = _ := f2
    try dsimp only at f2
    have hgg := f0.symm.trans hgi
    simp only [Value.slice.injEq, Value.pointer.injEq, Option.some.injEq, Addr.mk.injEq, and_true] at hgg
    subst hgg
    obtain ⟨hc, hf, hz⟩ := hw'.walk
    refine ⟨rfl, ?_⟩
    simp only [putsL]
    change quietTo _ _ _ _ (Sem.run _ (execOp (Act.eval (Act.put (Act.put (Act.put _ (some 8) (sv 2)) (some 7) (sv 1)) (some 6) (sv 0))) _) _)
    try simp only [Act.put, List.setIfInBounds_toArray, List.set_cons_succ, List.set_cons_zero]
    simp [go_sem, quietTo, Ext.refl, ↓IntWalk.iteOmega, f0, f2, p0, q0, h12, htm.out, htd.out, hsub.out, hN.out]
    all_goals try simp (disch := omega) only [IntWalk.i64_in]
    all_goals first
      | rfl
  refine fac_quiet 4 rfl rfl rfl (fun _ _ h _ => h) rfl rfl ?_
  apply Exists.intro
  refine ⟨fun sv w' hw' hfa => ?_, ?_⟩
  · obtain ⟨f0, _, _, f3, -⟩ := hfa
    obtain ⟨g0, f0, l0, b0⟩ := f0
    replace f0 : sv 0 = _ := f0
    obtain ⟨p0, q0⟩ := b0.walk
    replace f3 : sv 3 = _ := f3 _ f0
    try dsimp only at f3
    obtain ⟨hc, hf, hz⟩ := hw'.walk
    refine ⟨rfl, ?_⟩
    simp only [putsL]
    change quietTo _ _ _ _ (Sem.run _ (execOp (Act.eval (Act.put (Act.put (Act.put (Act.put _ (some 9) (sv 3)) (some 8) (sv 2)) (some 7) (sv 1)) (some 6) (sv 0))) _) _)
    try simp only [Act.put, List.setIfInBounds_toArray, List.set_cons_succ, List.set_cons_zero]
    simp [go_sem, quietTo, Ext.refl, ↓IntWalk.iteOmega, f3, p0, q0, h12, htm.out, htd.out, hsub.out, hN.out]
    all_goals try simp (disch := omega) only [IntWalk.i64_in]
    all_goals first
      | rfl
  refine fac_quiet 5 rfl rfl rfl (fun _ _ h _ => h) rfl rfl ?_
  apply Exists.intro
  refine ⟨fun sv w' hw' hfa => ?_, ?_⟩
  · refine ⟨rfl, ?_⟩
    simp only [putsL]
    change quietTo _ _ _ _ (Sem.run _ (execOp (Act.eval _) _) _)
    try simp only [Act.put, List.setIfInBounds_toArray, List.set_cons_succ, List.set_cons_zero]
    simp [go_sem, quietTo, Ext.refl]
    all_goals first
      | rfl
  refine fac_quiet 6 rfl rfl rfl (fun _ _ h _ => h) rfl rfl ?_
  apply Exists.intro
  refine ⟨fun sv w' hw' hfa => ?_, ?_⟩
  · obtain ⟨f5, -⟩ := hfa
    replace f5 : sv 5 = _ := f5
    try dsimp only at f5
    obtain ⟨hc, hf, hz⟩ := hw'.walk
    refine ⟨rfl, ?_⟩
    simp only [putsL]
    change quietTo _ _ _ _ (Sem.run _ (execOp (Act.eval (Act.put _ (some 11) (sv 5))) _) _)
    try simp only [Act.put, List.setIfInBounds_toArray, List.set_cons_succ, List.set_cons_zero]
    simp [go_sem, quietTo, Ext.refl, ↓IntWalk.iteOmega, f5, h12, htm.out, htd.out, hsub.out, hN.out]
    all_goals try simp (disch := omega) only [IntWalk.i64_in]
    all_goals first
      | rfl
  refine fac_quiet 7 rfl rfl rfl (fun _ _ h _ => h) rfl rfl ?_
  apply Exists.intro
  refine ⟨fun sv w' hw' hfa => ?_, ?_⟩
  · obtain ⟨_, f6, -⟩ := hfa
    replace f6 : sv 6 = _ := f6
    try dsimp only at f6
    obtain ⟨hc, hf, hz⟩ := hw'.walk
    refine ⟨rfl, ?_⟩
    simp only [putsL]
    change quietTo _ _ _ _ (Sem.run _ (execOp (Act.eval (Act.put (Act.put _ (some 12) (sv 6)) (some 11) (sv 5))) _) _)
    try simp only [Act.put, List.setIfInBounds_toArray, List.set_cons_succ, List.set_cons_zero]
    simp [go_sem, quietTo, Ext.refl, ↓IntWalk.iteOmega, f6, h12, htm.out, htd.out, hsub.out, hN.out]
    all_goals try simp (disch := omega) only [IntWalk.i64_in]
    all_goals first
      | rfl
  refine fac_quiet 8 rfl rfl rfl (fun _ _ h _ => h) rfl rfl ?_
  apply Exists.intro
  refine ⟨fun sv w' hw' hfa => ?_, ?_⟩
  · obtain ⟨f5, f6, f7, -⟩ := hfa
    replace f5 : sv 5 = _ := f5
    try dsimp only at f5
    replace f6 : sv 6 = _ := f6
    try dsimp only at f6
    replace f7 : sv 7 = _ := f7
    try dsimp only at f7
    obtain ⟨hc, hf, hz⟩ := hw'.walk
    refine ⟨rfl, ?_⟩
    simp only [putsL]
    change quietTo _ _ _ _ (Sem.run _ (execOp (Act.eval (Act.put (Act.put (Act.put _ (some 13) (sv 7)) (some 12) (sv 6)) (some 11) (sv 5))) _) _)
    try simp only [Act.put, List.setIfInBounds_toArray, List.set_cons_succ, List.set_cons_zero]
    simp [go_sem, quietTo, Ext.refl, ↓IntWalk.iteOmega, f7, h12, htm.out, htd.out, hsub.out, hN.out]
    all_goals try simp (disch := omega) only [IntWalk.i64_in]
    all_goals first
      | rfl
      | (exact itoa_any _ (by omega) (by omega) B _ (ht.ext ((Ext.refl _).drew.trans hw'))) 
  refine fac_quiet 9 rfl rfl rfl (fun _ _ h _ => h) rfl rfl ?_
  apply Exists.intro
  refine ⟨fun sv w' hw' hfa => ?_, ?_⟩
  · obtain ⟨f0, _, _, _, f4, _, _, _, f8, -⟩ := hfa
    obtain ⟨g0, f0, l0, b0⟩ := f0
    replace f0 : sv 0 = _ := f0
    obtain ⟨p0, q0⟩ := b0.walk
    replace f4 : sv 4 = _ := f4
    try dsimp only at f4
    replace f8 : sv 8 = _ := f8
    try dsimp only at f8
    obtain ⟨hc, hf, hz⟩ := hw'.walk
    refine ⟨rfl, ?_⟩
    simp only [putsL]
    change quietTo _ _ _ _ (Sem.run _ (execOp (Act.eval (Act.put (Act.put (Act.put (Act.put (Act.put (Act.put (Act.put (Act.put (Act.put _ (some 14) (sv 8)) (some 13) (sv 7)) (some 12) (sv 6)) (some 11) (sv 5)) (some 10) (sv 4)) (some 9) (sv 3)) (some 8) (sv 2)) (some 7) (sv 1)) (some 6) (sv 0))) _) _)
    try simp only [Act.put, List.setIfInBounds_toArray, List.set_cons_succ, List.set_cons_zero]
    simp [go_sem, quietTo, Ext.refl, ↓IntWalk.iteOmega, f4, f8, p0, q0, h12, htm.out, htd.out, hsub.out, hN.out]
    all_goals try simp (disch := omega) only [IntWalk.i64_in]
    all_goals first
      | rfl
  refine fac_quiet 10 rfl rfl rfl (fun _ _ h _ => h) rfl rfl ?_
  apply Exists.intro
  refine ⟨fun sv w' hw' hfa => ?_, ?_⟩
  · obtain ⟨_, _, _, _, _, _, _, _, _, f9, -⟩ := hfa
    replace f9 : sv 9 = _ := f9
    try dsimp only at f9
    refine ⟨rfl, ?_⟩
    simp only [putsL]
    change quietTo _ _ _ _ (Sem.run _ (execOp (Act.eval (Act.put (Act.put (Act.put (Act.put (Act.put (Act.put (Act.put (Act.put (Act.put (Act.put _ (some 15) (sv 9)) (some 14) (sv 8)) (some 13) (sv 7)) (some 12) (sv 6)) (some 11) (sv 5)) (some 10) (sv 4)) (some 9) (sv 3)) (some 8) (sv 2)) (some 7) (sv 1)) (some 6) (sv 0))) _) _)
    try simp only [Act.put, List.setIfInBounds_toArray, List.set_cons_succ, List.set_cons_zero]
    simp [go_sem, quietTo, Ext.refl, f9]
    all_goals first
      | rfl
  refine fac_quiet 11 rfl rfl rfl (fun _ _ h _ => h) rfl rfl ?_
  apply Exists.intro
  refine ⟨fun sv w' hw' hfa => ?_, ?_⟩
  · refine ⟨rfl, ?_⟩
    simp only [putsL]
    change quietTo _ _ _ _ (Sem.run _ (execOp (Act.eval _) _) _)
    try simp only [Act.put, List.setIfInBounds_toArray, List.set_cons_succ, List.set_cons_zero]
    simp [go_sem, quietTo, Ext.refl]
    all_goals first
      | rfl
  refine fac_nil fun x wr her hfr hcr hold hap => ?_
  obtain ⟨f0, f1, f2, f3, f4, f5, f6, f7, f8, f9, f10, f11, -⟩ := hfr
  obtain ⟨g0, f0, l0, b0⟩ := f0
  replace f0 : x 0 = _ := f0
  obtain ⟨p0, q0⟩ := b0.walk
  replace f1 : x 1 = _ := f1
  try dsimp only at f1
  replace f2 : x 2 = _ := f2
  try dsimp only at f2
  replace f3 : x 3 = _ := f3 _ f0
  try dsimp only at f3
  replace f4 : x 4 = _ := f4
  try dsimp only at f4
  replace f5 : x 5 = _ := f5
  try dsimp only at f5
  replace f6 : x 6 = _ := f6
  try dsimp only at f6
  replace f7 : x 7 = _ := f7
  try dsimp only at f7
  replace f8 : x 8 = _ := f8
  try dsimp only at f8
  replace f9 : x 9 = _ := f9
  try dsimp only at f9
  replace f10 : x 10 = _ := f10
  try dsimp only at f10
  replace f11 : x 11 = _ := f11
  try dsimp only at f11
  change wpList _ _ _ _ (Act.put (Act.put (Act.put (Act.put (Act.put (Act.put (Act.put (Act.put (Act.put (Act.put (Act.put (Act.put _ (some 6) (x 0)) (some 7) (x 1)) (some 8) (x 2)) (some 9) (x 3)) (some 10) (x 4)) (some 11) (x 5)) (some 12) (x 6)) (some 13) (x 7)) (some 14) (x 8)) (some 15) (x 9)) (some 2) (x 10)) (some 3) (x 11)) _
  simp only [putsL, Nat.reduceAdd, List.drop_succ_cons, List.drop_zero, List.drop_nil, Act.put, List.setIfInBounds_toArray, List.set_cons_succ, List.set_cons_zero]
  try simp only [f1, f2, f3, f4, f5, f6, f7, f8, f9, f10, f11]
  clear f1 f2 f4 f5 f6 f7 f8 f9 f10 f11
  clear hold hap
  go_wp2
  go_ret2
  exact ⟨rfl, (Ext.refl _).drew.trans her⟩

end Go.Proofs.YtflcbphlhoibiaaGreatDoor
