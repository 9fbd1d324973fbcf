/- By how much rows would have to be higher: the walk. Conditions: people, stage and stands are right (what CheckStands answers is a hypothesis here). Stands the other way round: plain mathematics. Conditions: as each theorem says. Stands with gaps closed: plain mathematics. Conditions: as each theorem says. Whether a string is there twice, by the document's text. Conditions: sizes. What right stands are, in one sentence, and the other way round they stay right: plain mathematics. Conditions: as each theorem says. How stands are ordered, by both texts. Conditions: none. -/
import Derived.Test.YtdehmioobkneiaaGreatDoorTdJ33
import Derived.Test.YtdehmioobkneiaaGreatDoorTdJ11
import Derived.Test.YtdehmioobkneiaaGreatDoorTdShelf
import Derived.Sort.OwnSorted
import Derived.Sort.Grow
import Derived.Lib.OwnBridge
import Derived.Lib.RowBridge
import Derived.Test.YtdehmioobkneiaaGreatDoorTdJ5
set_option linter.unusedSimpArgs false
set_option linter.unusedVariables false
namespace Go.Proofs.YtdehmioobkneiaaGreatDoor
open Go Go.RowKit
/-- The cells of a row of numbers. -/
def rowI (xs : List Int) : Array Value := (xs.map (Value.int .i64)).toArray
theorem rowI_cell {w : World} {g : Nat} {t : TypeId} {xs : List Int} {i : Nat} {v : Int} (h : Blk w g t (rowI xs)) (hx : xs[i]? = some v) : w.cell? ⟨g, i, none⟩ = some (.int .i64 v) := by
  rw [h.cell, rowI, List.getElem?_toArray, List.getElem?_map, hx]; rfl
theorem rowI_set {w : World} {g : Nat} {t : TypeId} {xs : List Int} (h : Blk w g t (rowI xs)) (i : Nat) (v : Int) : Blk (w.setCell ⟨g, i, none⟩ (.int .i64 v)) g t (rowI (xs.set i v)) :=
  (h.set_ i _).cast (by simp [rowI, List.map_set])
theorem slc_rowI {w : World} {g : Nat} {t : TypeId} {xs : List Int} (h : Blk w g t (rowI xs)) (hl : xs.length ≤ 1000000000) : Slc 1 intC w (some ⟨g, 0, none⟩) xs.length xs.length xs := by
  refine ⟨⟨rfl, hl, fun _ => ⟨g, 0, rfl, h.lt, fun i x hx j u hu => ?_⟩⟩, Nat.le_refl _, (fun e => by cases e), (fun a ha => by cases ha; exact ⟨g, 0, rfl, h.lt⟩)⟩
  obtain rfl : j = 0 := by
    have := (List.getElem?_eq_some_iff.1 hu).1
    simp only [intC, List.length_singleton] at this
    omega
  cases hu
  rw [Nat.zero_add, Nat.mul_one, Nat.add_zero]
  exact rowI_cell h hx
theorem madeI (n : Nat) : madeCells #[.int .i64 0] n = rowI (List.replicate n 0) := by
  apply Array.ext
  · simp [size_madeCells, rowI]
  · intro i h1 h2
    simp [madeCells, rowI, Nat.mod_one]
theorem cellInt : (Tryz.prog.info? 3).map (fun i => (i.zero, i.size, i.bytes)) = some (some (.int .i64 0), 1, 8) := by kernel_rfl
theorem make_int (n : Nat) (hn : n ≤ 1000) (u : World) : (Instr.makeSlice 22 (.int .i64 (n : Int)) (.int .i64 (n : Int))).run Tryz.prog u = .ok (.slice (some ⟨u.heap.size, 0, none⟩) n n) (u.alloc (.cells (rowI (List.replicate n 0)) 3)) := by
  obtain ⟨i0, hi, hz0, hz1, hz2⟩ := info_parts cellInt
  have := run_make (P := Tryz.prog) u 22 3 i0 (.int .i64 0) Tryz.underlying22 hi hz0 .i64 .i64 (n : Int) (n : Int) (by omega) (by omega) (by rw [hz2]; omega) (by omega)
  rw [this, hz1, Int.toNat_natCast, Nat.mul_one, show (Value.int .i64 0).cells = #[.int .i64 0] from rfl, madeI]
section
variable {P : List PersonV} {wide high : List Int} {S : List StandV}
end
end Go.Proofs.YtdehmioobkneiaaGreatDoor
namespace Go.Proofs.YtdehmioobkneiaaGreatDoor
open Go
section
variable {P : List PersonV} {wide high : List Int}
end
/-- Ordered by row, and by place in a row. -/
def ltV (a b : StandV) : Bool := decide (a.row < b.row) || (decide (a.row = b.row) && decide (a.place < b.place))
theorem ltV_cmp (a b : StandV) : ltV a b = decide (cmpV a b < 0) := by
  unfold ltV cmpV
  by_cases h1 : a.row < b.row
  · simp [h1]
  · by_cases h2 : b.row < a.row
    · have h3 : ¬ a.row = b.row := by omega
      simp [h1, h2, h3]
    · have h3 : a.row = b.row := by omega
      by_cases h4 : a.place < b.place
      · simp [h3, h4]
      · by_cases h5 : b.place < a.place <;> simp [h3, h4, h5]
theorem ltV_trans {a b c : StandV} (h1 : ltV a b = true) (h2 : ltV b c = true) : ltV a c = true := by
  unfold ltV at *
  simp at *
  omega
end Go.Proofs.YtdehmioobkneiaaGreatDoor
namespace Go.Proofs.YtdehmioobkneiaaGreatDoor
open Go
theorem cmp_lt {a b : StandV} : cmpV a b < 0 ↔ ltV a b = true := by rw [ltV_cmp]; simp
theorem rise_pair {S : List StandV} (h : ∀ i x y, S[i]? = some x → S[i + 1]? = some y → ltV x y = true) : S.Pairwise (fun a b => ltV a b = true) := by
  rw [List.pairwise_iff_getElem]
  have hstep : ∀ (d i : Nat) (x y : StandV), S[i]? = some x → S[i + 1 + d]? = some y → ltV x y = true := by
    intro d
    induction d with
    | zero => exact fun i x y hx hy => h i x y hx hy
    | succ d ih =>
      intro i x y hx hy
      have hl := (List.getElem?_eq_some_iff.1 hy).1
      have hz : S[i + 1 + d]? = some S[i + 1 + d] := List.getElem?_eq_getElem (by omega)
      exact ltV_trans (ih i x _ hx hz) (h (i + 1 + d) _ y hz (by rw [← hy]; congr 1))
  intro i j hi hj hij
  obtain ⟨d, rfl⟩ : ∃ d, j = i + 1 + d := ⟨j - (i + 1), by omega⟩
  exact hstep d i _ _ (List.getElem?_eq_getElem hi) (List.getElem?_eq_getElem hj)
/-- Right stands are in strict order. -/
theorem stands_sorted {P : List PersonV} {wide : List Int} {S : List StandV} (h : scanF S.length (chkSta P wide S) = 0) : S.Pairwise (fun a b => ltV a b = true) := by
  refine rise_pair fun i x y hx hy => ?_
  have h4 := scan_all h (i + 1) (List.getElem?_eq_some_iff.1 hy).1
  unfold chkSta at h4
  rw [atL_of hy] at h4
  cases k0 : hasP P y.name
  · rw [k0] at h4; simp at h4
  cases k1 : inB y.row 0 (wide.length - 1)
  · rw [k0, k1] at h4; simp at h4
  cases k2 : inB y.place 0 (wide.getD y.row.toNat 0 - 1)
  · rw [k0, k1, k2] at h4; simp at h4
  rw [k0, k1, k2, Nat.add_sub_cancel, atL_of hx] at h4
  rw [← cmp_lt]
  by_cases k3 : 0 ≤ cmpV x y
  · simp [k3] at h4
  · omega
end Go.Proofs.YtdehmioobkneiaaGreatDoor
namespace Go.Proofs.YtdehmioobkneiaaGreatDoor
open Go Go.RowKit Go.Sort
end Go.Proofs.YtdehmioobkneiaaGreatDoor
namespace Go.Proofs.YtdehmioobkneiaaGreatDoor
open Go
def AtS (P : List PersonV) (wide : List Int) (x : StandV) : Prop := hasP P x.name = true ∧ (0 ≤ x.row ∧ x.row ≤ wide.length - 1) ∧ 0 ≤ x.place ∧ x.place ≤ wide.getD x.row.toNat 0 - 1
theorem standsF_right {P : List PersonV} {wide high : List Int} {S : List StandV} (h : standsF P wide high S = 0) : ostF P wide high = 0 ∧ S.length ≤ P.length ∧ (∀ x ∈ S, AtS P wide x) ∧ S.Pairwise (fun a b => ltV a b = true) ∧ (namesS S).Nodup := by
  have hnd := (standsF_ok h).2.2.2
  unfold standsF at h
  by_cases h0 : ostF P wide high = 0
  rotate_left
  · rw [if_neg h0] at h; exact absurd h h0
  rw [if_pos h0] at h
  unfold listF at h
  by_cases h2 : P.length < S.length
  · rw [if_pos h2] at h; cases h
  rw [if_neg h2] at h
  by_cases h3 : scanF S.length (chkSta P wide S) = 0
  rotate_left
  · rw [if_neg h3] at h; exact absurd h h3
  refine ⟨h0, by omega, fun x hx => ?_, stands_sorted h3, hnd⟩
  obtain ⟨i, hi, rfl⟩ := List.getElem_of_mem hx
  have h4 := scan_all h3 i hi
  unfold chkSta at h4
  rw [atL_of (List.getElem?_eq_getElem hi)] at h4
  cases k0 : hasP P S[i].name
  · rw [k0] at h4; simp at h4
  cases k1 : inB S[i].row 0 (wide.length - 1)
  · rw [k0, k1] at h4; simp at h4
  cases k2 : inB S[i].place 0 (wide.getD S[i].row.toNat 0 - 1)
  · rw [k0, k1, k2] at h4; simp at h4
  exact ⟨k0, inB_iff.1 k1, inB_iff.1 k2⟩
theorem standsF_mk {P : List PersonV} {wide high : List Int} {S : List StandV} (h0 : ostF P wide high = 0) (hl : S.length ≤ P.length) (ha : ∀ x ∈ S, AtS P wide x) (hs : S.Pairwise (fun a b => ltV a b = true)) (hn : (namesS S).Nodup) : standsF P wide high S = 0 := by
  unfold standsF listF
  rw [if_pos h0, if_neg (by omega)]
  have h3 : scanF S.length (chkSta P wide S) = 0 := scan_zero fun i hi => by
    obtain ⟨k0, k1, k2⟩ := ha _ (List.getElem_mem hi)
    unfold chkSta
    rw [atL_of (List.getElem?_eq_getElem hi), k0, inB_iff.2 k1, inB_iff.2 k2]
    rcases Nat.eq_zero_or_pos i with hz | hz
    · subst hz; simp
    · have hi1 : i - 1 < S.length := by omega
      rw [atL_of (List.getElem?_eq_getElem hi1)]
      have h5 := List.pairwise_iff_getElem.1 hs (i - 1) i hi1 hi (by omega)
      have h6 := cmp_lt.2 h5
      have h7 : ¬ 0 ≤ cmpV S[i - 1] S[i] := by omega
      simp [h7]
  have hd : dupB (namesS S) = false := by
    cases hh : dupB (namesS S)
    · rfl
    · exact absurd hn (dupB_iff.1 hh)
  rw [if_pos h3, hd]
  simp
end Go.Proofs.YtdehmioobkneiaaGreatDoor
namespace Go.Proofs.YtdehmioobkneiaaGreatDoor
open Go Go.RowKit
theorem outside_is {n lo hi : Int} {v : Bool} (h : outB n lo hi = v) (w : World) :
    Calls Tryz.prog 42 #[.int .i64 n, .int .i64 lo, .int .i64 hi] w fun e w' => e = .returned (.bool v) ∧ Ext w w' :=
  h ▸ (outside_any n lo hi w).mono fun _ _ k => ⟨k.1, k.2 ▸ Ext.refl _⟩
set_option maxRecDepth 100000 in
theorem cmpInt_any (x y : Int) (w : World) :
    Calls Tryz.prog 55 #[.int .i64 x, .int .i64 y] w fun e w' => e = .returned (.int .i64 (cmpZ x y)) ∧ Ext w w' := by
  have hc : (x < y ∧ cmpZ x y = -1) ∨ (x = y ∧ cmpZ x y = 0) ∨ (y < x ∧ cmpZ x y = 1) := by unfold cmpZ; split <;> (try split) <;> omega
  rcases hc with ⟨h, hv⟩ | ⟨h, hv⟩ | ⟨h, hv⟩
  all_goals
    rw [hv]
    clear hv
    go_enter Tryz.func55, Tryz.ntmps55
    go_wp2_with (go_at_call 96; (with_reducible refine Calls.mono (isNaNI_any _ _) ?_); rintro e w' ⟨rfl, rfl⟩)
    go_ret
    exact ⟨rfl, Ext.refl _⟩
theorem cmpV_or (a b : StandV) : orF [cmpZ a.row b.row, cmpZ a.place b.place] = cmpV a b := by
  rcases Int.lt_trichotomy a.row b.row with h | h | h
  · simp [orF, cmpZ, cmpV, h]
  · rcases Int.lt_trichotomy a.place b.place with k | k | k
    · simp [orF, cmpZ, cmpV, h, k]
    · simp [orF, cmpZ, cmpV, h, k]
    · have k1 : ¬ a.place < b.place := by omega
      have k2 : ¬ a.place = b.place := by omega
      simp [orF, cmpZ, cmpV, h, k, k1, k2]
  · have h1 : ¬ a.row < b.row := by omega
    have h2 : ¬ a.row = b.row := by omega
    simp [orF, cmpZ, cmpV, h, h1, h2]
set_option maxRecDepth 100000 in
set_option maxHeartbeats 1600000 in
theorem compareSt_any (a b : StandV) (w : World) :
    Calls Tryz.prog 43 #[.agg #[.string a.name, .int .i64 a.row, .int .i64 a.place], .agg #[.string b.name, .int .i64 b.row, .int .i64 b.place]] w fun e w' => e = .returned (.int .i64 (cmpV a b)) ∧ Ext w w' := by
  rw [← cmpV_or]
  have hX : Blk ((w.alloc (.cells #[.string a.name, .int .i64 a.row, .int .i64 a.place] 54)).alloc (.cells #[.string b.name, .int .i64 b.row, .int .i64 b.place] 54)) w.heap.size 54 #[.string a.name, .int .i64 a.row, .int .i64 a.place] := (Blk.new' rfl).alloc _
  have hY : Blk ((w.alloc (.cells #[.string a.name, .int .i64 a.row, .int .i64 a.place] 54)).alloc (.cells #[.string b.name, .int .i64 b.row, .int .i64 b.place] 54)) (w.heap.size + 1) 54 #[.string b.name, .int .i64 b.row, .int .i64 b.place] := Blk.new' (by simp)
  have hE : Ext w ((w.alloc (.cells #[.string a.name, .int .i64 a.row, .int .i64 a.place] 54)).alloc (.cells #[.string b.name, .int .i64 b.row, .int .i64 b.place] 54)) := ((Ext.refl _).alloc _).alloc _
  go_enter Tryz.func43, Tryz.ntmps43
  go_upto_region 1 with fail
  generalize (w.alloc (.cells #[.string a.name, .int .i64 a.row, .int .i64 a.place] 54)).alloc (.cells #[.string b.name, .int .i64 b.row, .int .i64 b.place] 54) = W at *
  refine wp_region_facts [] [([], false, false), ([0], false, false), ([], false, false), ([2], false, false), ([0, 1, 2, 3], false, false), ([], false, false), ([5], false, false), ([], false, false), ([7], false, false), ([5, 6, 7, 8], false, false), ([0, 1, 2, 3, 4, 5, 6, 7, 8, 9], false, true), ([0, 1, 2, 3, 4, 5, 6, 7, 8, 9, 10], false, false)] (Ext) Ext (fun _ => True) (by kernel_rfl) (by kernel_rfl) Ext.refl (fun _ _ _ => Ext.trans) (fun _ _ h => h) (fun _ _ h => h.size) (fun _ _ h _ => h) trivial ?_
  dsimp only [List.length_cons, List.length_nil, List.drop_succ_cons, List.drop_zero, List.drop_nil]
  refine fac_quiet 0 rfl rfl rfl (fun _ _ h _ => h) rfl rfl ?_
  apply Exists.intro
  refine ⟨fun sv w' hw' hfa => ?_, ?_⟩
  · refine ⟨rfl, ?_⟩
    simp only [putsL]
    change quietTo _ _ _ _ (Sem.run _ (execOp (Act.eval _) _) _)
    try simp only [Act.put, sIA, sCS, sCZ]
    simp [go_sem, quietTo, Ext.refl]
    all_goals first
      | rfl
  refine fac_quiet 1 rfl rfl rfl (fun _ _ h _ => h) rfl rfl ?_
  apply Exists.intro
  refine ⟨fun sv w' hw' hfa => ?_, ?_⟩
  · obtain ⟨f0, -⟩ := hfa
    replace f0 : sv 0 = _ := f0; (try dsimp only at f0)
    have hk9 := (Ext.refl W).drew.trans hw'; obtain ⟨y1, -⟩ := (hX.ext hk9).walk; obtain ⟨y2, -⟩ := (hY.ext hk9).walk
    refine ⟨rfl, ?_⟩
    simp only [putsL]
    change quietTo _ _ _ _ (Sem.run _ (execOp (Act.eval (Act.put _ (some 5) (sv 0))) _) _)
    try simp only [Act.put, sIA, sCS, sCZ]
    simp [go_sem, quietTo, Ext.refl, ↓IntWalk.iteOmega, f0, y1]
    all_goals try simp (disch := omega) only [IntWalk.i64_in]
    all_goals first
      | rfl
  refine fac_quiet 2 rfl rfl rfl (fun _ _ h _ => h) rfl rfl ?_
  apply Exists.intro
  refine ⟨fun sv w' hw' hfa => ?_, ?_⟩
  · refine ⟨rfl, ?_⟩
    simp only [putsL]
    change quietTo _ _ _ _ (Sem.run _ (execOp (Act.eval _) _) _)
    try simp only [Act.put, sIA, sCS, sCZ]
    simp [go_sem, quietTo, Ext.refl]
    all_goals first
      | rfl
  refine fac_quiet 3 rfl rfl rfl (fun _ _ h _ => h) rfl rfl ?_
  apply Exists.intro
  refine ⟨fun sv w' hw' hfa => ?_, ?_⟩
  · obtain ⟨f2, -⟩ := hfa
    replace f2 : sv 2 = _ := f2; (try dsimp only at f2)
    have hk9 := (Ext.refl W).drew.trans hw'; obtain ⟨y1, -⟩ := (hX.ext hk9).walk; obtain ⟨y2, -⟩ := (hY.ext hk9).walk
    refine ⟨rfl, ?_⟩
    simp only [putsL]
    change quietTo _ _ _ _ (Sem.run _ (execOp (Act.eval (Act.put _ (some 7) (sv 2))) _) _)
    try simp only [Act.put, sIA, sCS, sCZ]
    simp [go_sem, quietTo, Ext.refl, ↓IntWalk.iteOmega, f2, y2]
    all_goals try simp (disch := omega) only [IntWalk.i64_in]
    all_goals first
      | rfl
  refine fac_quiet 4 rfl rfl rfl (fun _ _ h _ => h) rfl rfl ?_
  apply Exists.intro
  refine ⟨fun sv w' hw' hfa => ?_, ?_⟩
  · obtain ⟨f0, f1, f2, f3, -⟩ := hfa
    replace f0 : sv 0 = _ := f0; (try dsimp only at f0); replace f1 : sv 1 = _ := f1; (try dsimp only at f1); replace f2 : sv 2 = _ := f2; (try dsimp only at f2); replace f3 : sv 3 = _ := f3; (try dsimp only at f3)
    have hk9 := (Ext.refl W).drew.trans hw'; obtain ⟨y1, -⟩ := (hX.ext hk9).walk; obtain ⟨y2, -⟩ := (hY.ext hk9).walk
    refine ⟨rfl, ?_⟩
    simp only [putsL]
    change quietTo _ _ _ _ (Sem.run _ (execOp (Act.eval (Act.put (Act.put (Act.put (Act.put _ (some 8) (sv 3)) (some 7) (sv 2)) (some 6) (sv 1)) (some 5) (sv 0))) _) _)
    try simp only [Act.put, sIA, sCS, sCZ]
    simp [go_sem, quietTo, Ext.refl, ↓IntWalk.iteOmega, f1, f3]
    all_goals try simp (disch := omega) only [IntWalk.i64_in]
    all_goals first
      | rfl
      | (exact cmpInt_any _ _ _)
  refine fac_quiet 5 rfl rfl rfl (fun _ _ h _ => h) rfl rfl ?_
  apply Exists.intro
  refine ⟨fun sv w' hw' hfa => ?_, ?_⟩
  · refine ⟨rfl, ?_⟩
    simp only [putsL]
    change quietTo _ _ _ _ (Sem.run _ (execOp (Act.eval _) _) _)
    try simp only [Act.put, sIA, sCS, sCZ]
    simp [go_sem, quietTo, Ext.refl]
    all_goals first
      | rfl
  refine fac_quiet 6 rfl rfl rfl (fun _ _ h _ => h) rfl rfl ?_
  apply Exists.intro
  refine ⟨fun sv w' hw' hfa => ?_, ?_⟩
  · obtain ⟨f5, -⟩ := hfa
    replace f5 : sv 5 = _ := f5; (try dsimp only at f5)
    have hk9 := (Ext.refl W).drew.trans hw'; obtain ⟨y1, -⟩ := (hX.ext hk9).walk; obtain ⟨y2, -⟩ := (hY.ext hk9).walk
    refine ⟨rfl, ?_⟩
    simp only [putsL]
    change quietTo _ _ _ _ (Sem.run _ (execOp (Act.eval (Act.put _ (some 10) (sv 5))) _) _)
    try simp only [Act.put, sIA, sCS, sCZ]
    simp [go_sem, quietTo, Ext.refl, ↓IntWalk.iteOmega, f5, y1]
    all_goals try simp (disch := omega) only [IntWalk.i64_in]
    all_goals first
      | rfl
  refine fac_quiet 7 rfl rfl rfl (fun _ _ h _ => h) rfl rfl ?_
  apply Exists.intro
  refine ⟨fun sv w' hw' hfa => ?_, ?_⟩
  · refine ⟨rfl, ?_⟩
    simp only [putsL]
    change quietTo _ _ _ _ (Sem.run _ (execOp (Act.eval _) _) _)
    try simp only [Act.put, sIA, sCS, sCZ]
    simp [go_sem, quietTo, Ext.refl]
    all_goals first
      | rfl
  refine fac_quiet 8 rfl rfl rfl (fun _ _ h _ => h) rfl rfl ?_
  apply Exists.intro
  refine ⟨fun sv w' hw' hfa => ?_, ?_⟩
  · obtain ⟨f7, -⟩ := hfa
    replace f7 : sv 7 = _ := f7; (try dsimp only at f7)
    have hk9 := (Ext.refl W).drew.trans hw'; obtain ⟨y1, -⟩ := (hX.ext hk9).walk; obtain ⟨y2, -⟩ := (hY.ext hk9).walk
    refine ⟨rfl, ?_⟩
    simp only [putsL]
    change quietTo _ _ _ _ (Sem.run _ (execOp (Act.eval (Act.put _ (some 12) (sv 7))) _) _)
    try simp only [Act.put, sIA, sCS, sCZ]
    simp [go_sem, quietTo, Ext.refl, ↓IntWalk.iteOmega, f7, y2]
    all_goals try simp (disch := omega) only [IntWalk.i64_in]
    all_goals first
      | rfl
  refine fac_quiet 9 rfl rfl rfl (fun _ _ h _ => h) rfl rfl ?_
  apply Exists.intro
  refine ⟨fun sv w' hw' hfa => ?_, ?_⟩
  · obtain ⟨f5, f6, f7, f8, -⟩ := hfa
    replace f5 : sv 5 = _ := f5; (try dsimp only at f5); replace f6 : sv 6 = _ := f6; (try dsimp only at f6); replace f7 : sv 7 = _ := f7; (try dsimp only at f7); replace f8 : sv 8 = _ := f8; (try dsimp only at f8)
    have hk9 := (Ext.refl W).drew.trans hw'; obtain ⟨y1, -⟩ := (hX.ext hk9).walk; obtain ⟨y2, -⟩ := (hY.ext hk9).walk
    refine ⟨rfl, ?_⟩
    simp only [putsL]
    change quietTo _ _ _ _ (Sem.run _ (execOp (Act.eval (Act.put (Act.put (Act.put (Act.put _ (some 13) (sv 8)) (some 12) (sv 7)) (some 11) (sv 6)) (some 10) (sv 5))) _) _)
    try simp only [Act.put, sIA, sCS, sCZ]
    simp [go_sem, quietTo, Ext.refl, ↓IntWalk.iteOmega, f6, f8]
    all_goals try simp (disch := omega) only [IntWalk.i64_in]
    all_goals first
      | rfl
      | (exact cmpInt_any _ _ _)
  refine fac_row 10 rfl rfl rfl (fun _ _ h _ => h) (fun _ _ h => h.size) (fun _ _ _ _ _ he _ hb => hb.ext he) ?_
  apply Exists.intro
  apply Exists.intro
  apply Exists.intro
  apply Exists.intro
  refine ⟨fun sv w' hw' hfa => ?_, ?_⟩
  · obtain ⟨_, _, _, _, f4, _, _, _, _, f9, -⟩ := hfa
    replace f4 : sv 4 = _ := f4; (try dsimp only at f4); replace f9 : sv 9 = _ := f9; (try dsimp only at f9)
    refine ⟨rfl, ?_⟩
    simp only [putsL]
    change rowTo _ _ _ _ _ (Sem.run _ (execOp (Act.eval (Act.put (Act.put (Act.put (Act.put (Act.put (Act.put (Act.put (Act.put (Act.put (Act.put _ (some 14) (sv 9)) (some 13) (sv 8)) (some 12) (sv 7)) (some 11) (sv 6)) (some 10) (sv 5)) (some 9) (sv 4)) (some 8) (sv 3)) (some 7) (sv 2)) (some 6) (sv 1)) (some 5) (sv 0))) _) _)
    try simp only [Act.put, sIA, sCS, sCZ]
    simp [go_sem, rowTo, Ext.refl, f4, f9]
    all_goals try simp (disch := omega) only [IntWalk.i64_in]
    all_goals first
      | rfl
      | exact ⟨rfl, rfl⟩
      | exact ⟨⟨rfl, rfl⟩, rfl⟩
  refine fac_quiet 11 rfl rfl rfl (fun _ _ h _ => h) rfl rfl ?_
  apply Exists.intro
  refine ⟨fun sv w' hw' hfa => ?_, ?_⟩
  · obtain ⟨f0, f1, f2, f3, f4, f5, f6, f7, f8, f9, f10, -⟩ := hfa
    replace f0 : sv 0 = _ := f0; (try dsimp only at f0); replace f1 : sv 1 = _ := f1; (try dsimp only at f1); replace f2 : sv 2 = _ := f2; (try dsimp only at f2); replace f3 : sv 3 = _ := f3; (try dsimp only at f3); replace f4 : sv 4 = _ := f4; (try dsimp only at f4); replace f5 : sv 5 = _ := f5; (try dsimp only at f5); replace f6 : sv 6 = _ := f6; (try dsimp only at f6)
    replace f7 : sv 7 = _ := f7; (try dsimp only at f7); replace f8 : sv 8 = _ := f8; (try dsimp only at f8); replace f9 : sv 9 = _ := f9; (try dsimp only at f9); obtain ⟨g10, f10, l10, b10⟩ := f10; replace f10 : sv 10 = _ := f10; obtain ⟨p10, q10⟩ := b10.walk
    have hk9 := (Ext.refl W).drew.trans hw'; obtain ⟨y1, -⟩ := (hX.ext hk9).walk; obtain ⟨y2, -⟩ := (hY.ext hk9).walk
    refine ⟨rfl, ?_⟩
    simp only [putsL]
    change quietTo _ _ _ _ (Sem.run _ (execOp (Act.eval (Act.put (Act.put (Act.put (Act.put (Act.put (Act.put (Act.put (Act.put (Act.put (Act.put (Act.put _ (some 15) (sv 10)) (some 14) (sv 9)) (some 13) (sv 8)) (some 12) (sv 7)) (some 11) (sv 6)) (some 10) (sv 5)) (some 9) (sv 4)) (some 8) (sv 3)) (some 7) (sv 2)) (some 6) (sv 1)) (some 5) (sv 0))) _) _)
    try simp only [Act.put, sIA, sCS, sCZ]
    simp [go_sem, quietTo, Ext.refl, ↓IntWalk.iteOmega, f10, p10, q10]
    all_goals try simp (disch := omega) only [IntWalk.i64_in]
    all_goals first
      | rfl
      | (exact (orInt_blk _ _ 2 [cmpZ a.row b.row, cmpZ a.place b.place] _ (by simp) b10).mono fun _ _ h => ⟨h.1, h.2 ▸ Ext.refl _⟩)
  refine fac_nil fun xq wrq herq hfrq hcrq holdq hapq => ?_
  obtain ⟨f0, f1, f2, f3, f4, f5, f6, f7, f8, f9, f10, f11, -⟩ := hfrq
  replace f0 : xq 0 = _ := f0
  (try dsimp only at f0)
  replace f1 : xq 1 = _ := f1
  (try dsimp only at f1)
  replace f2 : xq 2 = _ := f2
  (try dsimp only at f2)
  replace f3 : xq 3 = _ := f3
  (try dsimp only at f3)
  replace f4 : xq 4 = _ := f4
  (try dsimp only at f4)
  replace f5 : xq 5 = _ := f5
  (try dsimp only at f5)
  replace f6 : xq 6 = _ := f6
  (try dsimp only at f6)
  replace f7 : xq 7 = _ := f7
  (try dsimp only at f7)
  replace f8 : xq 8 = _ := f8
  (try dsimp only at f8)
  replace f9 : xq 9 = _ := f9
  (try dsimp only at f9); obtain ⟨g10, f10, l10, b10⟩ := f10
  replace f10 : xq 10 = _ := f10
  obtain ⟨p10, q10⟩ := b10.walk
  replace f11 : xq 11 = _ := f11
  (try dsimp only at f11)
  change wpList _ _ _ _ (Act.put (Act.put (Act.put (Act.put (Act.put (Act.put (Act.put (Act.put (Act.put (Act.put (Act.put (Act.put _ (some 5) (xq 0)) (some 6) (xq 1)) (some 7) (xq 2)) (some 8) (xq 3)) (some 9) (xq 4)) (some 10) (xq 5)) (some 11) (xq 6)) (some 12) (xq 7)) (some 13) (xq 8)) (some 14) (xq 9)) (some 15) (xq 10)) (some 16) (xq 11)) _
  simp only [putsL, Nat.reduceAdd, List.drop_succ_cons, List.drop_zero, List.drop_nil, Act.put, sIA, sCS, sCZ]
  try simp only [f0, f1, f2, f3, f4, f5, f6, f7, f8, f9, f10, f11]
  clear f0 f1 f2 f3 f4 f5 f6 f7 f8 f9 f11; clear holdq hapq
  go_wp2
  go_ret
  exact ⟨rfl, hE.trans ((Ext.refl _).drew.trans herq)⟩
end Go.Proofs.YtdehmioobkneiaaGreatDoor
