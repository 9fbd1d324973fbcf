/- Legs that the stream makes. Conditions: as each theorem says. -/
import Derived.Test.YtlmbpgjdepmlcaaDoorWayI
import Derived.Test.YtlmbpgjdepmlcaaDoorStreamC
namespace Go.Proofs.YtlmbpgjdepmlcaaDoor
open Go Go.RowKit

theorem legInfo : (Tryd.prog.info? 37).map (fun i => (i.zero, i.size, i.bytes)) = some (some (.agg #[.string ⟨#[]⟩, .string ⟨#[]⟩, .int .i64 0]), 3, 40) := by kernel_rfl
theorem leg_flat_len : ∀ (xs : List LegV), (xs.flatMap legC).length = xs.length * 3
  | [] => rfl
  | x :: l => by rw [List.flatMap_cons, List.length_append, leg_flat_len l, legC_len, List.length_cons]; omega
theorem leg_mod3 {w : World} {base g n cap : Nat} {xs : List LegV} (h : w.ownsRow base 37 3 (.slice (some ⟨g, 0, none⟩) n cap) n (xs.flatMap legC)) {i : Nat} {x : LegV} (hx : xs[i]? = some x) (fr t1 : ByteArray) (m : Int) :
    (((w.setCell ⟨g, i * 3, none⟩ (.string fr)).setCell ⟨g, i * 3 + 1, none⟩ (.string t1)).setCell ⟨g, i * 3 + 2, none⟩ (.int .i64 m)).ownsRow base 37 3 (.slice (some ⟨g, 0, none⟩) n cap) n ((xs.set i ⟨fr, t1, m⟩).flatMap legC) := by
  have hi := (List.getElem?_eq_some_iff.1 hx).1
  have hs : ∀ y : LegV, (xs.set i y)[i]? = some y := fun y => List.getElem?_set_self hi
  have h1 := own_set1 legC_len h ⟨fr, x.to, x.m⟩ hx 0 (by decide) (.string fr) rfl
  have h2 := own_set1 legC_len h1 ⟨fr, t1, x.m⟩ (hs _) 1 (by decide) (.string t1) rfl
  rw [List.set_set] at h2
  have h3 := own_set1 legC_len h2 ⟨fr, t1, m⟩ (hs _) 2 (by decide) (.int .i64 m) rfl
  rw [List.set_set] at h3
  exact h3
def fourS : Array Value := #[.string ⟨#[98, 111, 110, 110]⟩, .string ⟨#[106, 101, 110, 97]⟩, .string ⟨#[107, 105, 101, 108]⟩, .string ⟨#[117, 108, 109]⟩]
theorem four_cell {w : World} {b : Nat} (h : Blk w b 9 fourS) {j : Nat} (hj : j < 4) : ∃ nm : ByteArray, nm.size ≤ 1000 ∧ w.cell? ⟨b, j, none⟩ = some (.string nm) := by
  have h3 : j = 0 ∨ j = 1 ∨ j = 2 ∨ j = 3 := by omega
  rcases h3 with rfl | rfl | rfl | rfl
  · exact ⟨_, by decide, h.cell 0⟩
  · exact ⟨_, by decide, h.cell 1⟩
  · exact ⟨_, by decide, h.cell 2⟩
  · exact ⟨_, by decide, h.cell 3⟩
/-- The legs so far. -/
def LegsAt (s k : Nat) (w : World) (base n : Nat) (v : Value) (xs : List LegV) (wr : World) : Prop := n ≤ 16 ∧ wr.ownsRow base 37 3 v n (xs.flatMap legC) ∧ (∀ x ∈ xs, x.Small) ∧ Str wr s k ∧ ExtS s w wr

set_option maxRecDepth 100000 in
set_option maxHeartbeats 6400000 in
theorem legList_any (s k : Nat) (w : World) (hk : k ≤ 990000) (h : Str w s k) :
    Calls Tryd.prog 6 #[.pointer (some ⟨s, 0, none⟩)] w fun e w' => ∃ (p : Option Addr) (n c : Nat) (L : List LegV), e = .returned (.slice p n c) ∧ n ≤ 16 ∧ Slc 3 legC w' p n c L ∧ (∀ a, p = some a → w.heap.size < a.block) ∧ (∀ x ∈ L, x.Small) ∧ Str w' s (k + 60) ∧ ExtS s w w' := by
  have l0 := h.lt
  go_enter Tryd.func6, Tryd.ntmps6
  go_wp2
  have hN : Blk (w.alloc (.cells fourS 9)) w.heap.size 9 fourS := Blk.new' rfl
  have hE0 : ExtS s w (w.alloc (.cells fourS 9)) := (ExtS.refl s w).alloc _
  have hS0 : Str (w.alloc (.cells fourS 9)) s k := h.ext (Ext.alloc (Ext.refl _) _)
  clear h
  go_loopw [3, 11] (fun v i wr => ∃ (j n : Nat) (xs : List LegV), j ≤ 4 ∧ i = .int .i64 j ∧ n ≤ 4 * j ∧ wr.ownsRow (w.heap.size + 1) 37 3 v n (xs.flatMap legC) ∧ (∀ x ∈ xs, x.Small) ∧ Blk wr w.heap.size 9 fourS ∧ Str wr s (k + 8 * j) ∧ ExtS s w wr) (fun _ i _ => 4 - (intOf i).toNat)
  case atStart => exact ⟨0, 0, [], by omega, rfl, by omega, World.ownsRow_nil _ _ _ _, (fun x hx => by cases hx), hN, hS0, hE0⟩
  case round =>
    clear hN hS0 hE0
    obtain ⟨j, n, xs, hj, rfl, hn, hown, hf, hN, hS, hE⟩ := hrel
    by_cases hlt : j < 4
    · obtain ⟨nm, hnm, hcell⟩ := four_cell hN hlt
      have hNl := hN.lt
      replace hf := Lib.hid hf
      have hsz0 := hE.2.2.2.1
      go_wp2
      have hN1 : Blk (wr.alloc (.cells fourS 9)) w.heap.size 9 fourS := hN.alloc _
      have hG1 : Blk (wr.alloc (.cells fourS 9)) wr.heap.size 9 fourS := Blk.new' rfl
      have hS1 : Str (wr.alloc (.cells fourS 9)) s (k + 8 * j) := hS.ext (Ext.alloc (Ext.refl _) _)
      have hE1 : ExtS s w (wr.alloc (.cells fourS 9)) := hE.alloc _
      have hown1 := hown.alloc (.cells fourS 9)
      have hsG : wr.heap.size ≠ s := by have := hS.lt; omega
      generalize hGG : wr.heap.size = G at *
      rw [show decide ((j : Int) < 4) = true from decide_eq_true (by omega)]
      go_loopw [3, 17] (fun v i wq => ∃ (q n : Nat) (xs : List LegV), q ≤ 4 ∧ i = .int .i64 q ∧ n ≤ 4 * j + q ∧ wq.ownsRow (w.heap.size + 1) 37 3 v n (xs.flatMap legC) ∧ (∀ x ∈ xs, x.Small) ∧ Blk wq w.heap.size 9 fourS ∧ Blk wq G 9 fourS ∧ Str wq s (k + 8 * j + 2 * q) ∧ ExtS s w wq) (fun _ i _ => 4 - (intOf i).toNat)
      case atStart => exact ⟨0, n, xs, by omega, rfl, by omega, hown1, hf.out, hN1, hG1, hS1, hE1⟩
      case round =>
        clear hN1 hG1 hS1 hE1 hown1 hown hN hS hE hcell hsz0
        obtain ⟨q, n, xs, hq, rfl, hn, hown, hf, hN, hG, hS, hE⟩ := hrel
        by_cases hqt : q < 4
        · obtain ⟨nq, hnq, hcell⟩ := four_cell hG hqt
          have hNl := hN.lt
          have hGl := hG.lt
          replace hf := Lib.hid hf
          have hsz0 := hE.2.2.2.1
          cases hab : (nm.toList == nq.toList)
          · go_upto_if 28 with (go_at_call 27; (with_reducible refine Calls.mono (flip_any s (k + 8 * j + 2 * q) 3 _ (by omega) (by omega) (by omega) hS) ?_); rintro e w2 ⟨bb, rfl, hS2, hE2⟩)
            have hE2' := hE.trans hE2
            have ho2 := own_extS hE2 (by omega) hown
            have hN2 := hN.extS (by omega) hE2
            have hG2 := hG.extS hsG hE2
            clear hS hE hE2 hown hN hG
            cases bb
            · go_wp2_with (first
                | (go_at_call 19; have l1 := hS2.lt; refine (pick_in s (k + 8 * j + 2 * q + 1) _ _ 6 [1, 2, 3, 3, 5, 9] 1 9 _ (by omega) (by simp) (by simp) (by exact hS2.ext (Ext.alloc (Ext.refl _) _)) (by exact Nat.ne_of_gt l1) (by exact Blk.new' rfl) (by decide)).mono ?_; rintro e w3 ⟨mm, m1, m2, rfl, hS3, hE3⟩; have hE3' := (hE2'.alloc _).trans hE3; have ho3 := own_extS hE3 (by omega) (ho2.alloc _); have hN3 := (hN2.alloc _).extS (by omega) hE3; have hG3 := (hG2.alloc _).extS hsG hE3; clear hS2 hE2' hE3 ho2 hN2 hG2)
                | (at_builtin; go_loud (refine wp_app1 _ (.tmp 29) (.tmp 36) 26 37 3 40 _ rfl rfl Tryd.underlying26 legInfo rfl (by decide) (by decide) (w.heap.size + 1) _ n _ rfl (ho3.alloc _) w3.heap.size (legC ⟨nm, nq, mm⟩) rfl rfl (Blk.new' rfl) (leg_one _) (by omega) (by have := hE3'.2.2.2.1; have := hN3.lt; simp; omega) ?_; intro v' w6 hown6 hgrow6 _)))
              go_roundw
              case rel =>
                exact ⟨q + 1, n + 1, xs ++ [⟨nm, nq, mm⟩], by omega, by go_num, by omega, by rw [flat_snoc]; exact hown6, (fun x hx => by
                  rcases List.mem_append.1 hx with h1 | h1
                  · exact hf.out x h1
                  · obtain rfl : x = ⟨nm, nq, mm⟩ := by simpa using h1
                    exact ⟨hnm, hnq, by simp only; omega, by simp only; omega⟩), (hN3.alloc _).appN (ho3.alloc _) (by decide) hgrow6, (hG3.alloc _).appN (ho3.alloc _) (by decide) hgrow6, ((hS3.ext (Ext.alloc (Ext.refl _) _)).app (ho3.alloc _) (by omega) hgrow6).more (by omega), (hE3'.alloc _).app (ho3.alloc _) (by omega) hgrow6⟩
              case measure => simp [intOf]; omega
            · go_wp2
              go_roundw
              case rel => exact ⟨q + 1, n, xs, by omega, by go_num, by omega, ho2, hf.out, hN2, hG2, hS2.more (by omega), hE2'⟩
              case measure => simp [intOf]; omega
          · go_wp2
            go_roundw
            case rel => exact ⟨q + 1, n, xs, by omega, by go_num, by omega, hown, hf.out, hN, hG, hS.more (by omega), hE⟩
            case measure => simp [intOf]; omega
        · obtain rfl : q = 4 := by omega
          rw [show ((4 : Nat) : Int) = 4 from rfl]
          replace hf := Lib.hid hf
          go_wp2
          go_roundw
          case rel => exact ⟨j + 1, n, xs, by omega, by go_num, by omega, hown, hf.out, hN, hS.more (by omega), hE⟩
          case measure => simp [intOf]; omega
    · obtain rfl : j = 4 := by omega
      clear hN hlt hj
      rw [show ((4 : Nat) : Int) = 4 from rfl]
      rcases Nat.eq_zero_or_pos n with h0 | h0
      · subst h0
        obtain ⟨p, c, rfl, hSl⟩ := slc_of_own legC_len hown (by decide) (by omega)
        have hpa : ∀ a, p = some a → w.heap.size < a.block := fun a ha => by
          subst ha
          exact (hown.lt a.block rfl).1
        replace hpa := Lib.hid hpa
        replace hown := Lib.hid hown
        replace hf := Lib.hid hf
        replace hSl := Lib.hid hSl
        go_wp2
        go_ret
        exact ⟨p, 0, c, xs, rfl, by omega, hSl.out, hpa.out, hf.out, hS.more (by omega), hE⟩
      · obtain ⟨g, cap, rfl, hg, hgl⟩ := hown.form h0
        have hxl : xs.length = n := by
          have := hown.1
          rw [leg_flat_len] at this
          omega
        replace hown := Lib.hid hown
        replace hf := Lib.hid hf
        replace hxl := Lib.hid hxl
        go_upto_if 46 with (go_at_call 27; (with_reducible refine Calls.mono (flip_any s (k + 8 * 4) 15 _ (by omega) (by omega) (by omega) hS) ?_); rintro e w2 ⟨bb, rfl, hS2, hE2⟩)
        have hE2' := hE.trans hE2
        have ho2 := own_extS hE2 (by omega) hown.out
        clear hS hE hE2 hown
        replace ho2 := Lib.hid ho2
        cases bb
        · obtain ⟨p, c, hpc, hSl⟩ := slc_of_own legC_len ho2.out (by decide) (by omega)
          cases hpc
          replace hSl := Lib.hid hSl
          go_wp2
          go_ret
          exact ⟨_, n, _, xs, rfl, by omega, hSl.out, (fun a ha => by cases ha; exact hg), hf.out, hS2.more (by omega), hE2'⟩
        · go_upto_region 14 with (go_at_call 28; (with_reducible refine Calls.mono (next_any s (k + 8 * 4 + 1) n _ (by omega) (by omega) (by omega) hS2) ?_); rintro e w3 ⟨i, rfl, hi, hS3, hE3⟩)
          have hE3' := hE2'.trans hE3
          have ho3 := own_extS hE3 (by omega) ho2.out
          clear hS2 hE2' hE3 ho2 hgl
          obtain ⟨x, hx⟩ := getD_some hxl.out hi
          obtain ⟨s1, s2, s3, s4⟩ := hf.out x (List.mem_of_getElem? hx)
          have hgl : g < w3.heap.size := (ho3.lt g rfl).2
          have hgs : g ≠ s := by omega
          have hsl : s < w3.heap.size := hS3.lt
          have c0 : w3.cell? ⟨g, i * 3, none⟩ = some (.string x.fr) := own_cell legC_len ho3 hx 0 rfl hi
          have c1 : w3.cell? ⟨g, i * 3 + 1, none⟩ = some (.string x.to) := own_cell legC_len ho3 hx 1 rfl hi
          have hsl' : s < w3.drew.heap.size := hsl
          have hS3d : Str w3.drew s (k + 8 * 4 + 1 + 1) := hS3.ext (Ext.drew (Ext.refl _))
          replace ho3 := Lib.hid ho3
          replace hx := Lib.hid hx
          refine wp_region_facts [1, 2] [([], false, false), ([], false, false), ([], false, false), ([], false, false), ([], false, false), ([4], false, false), ([4, 5], false, false), ([4, 5, 6], false, false), ([4, 5, 6, 7], false, true), ([3, 4, 5, 6, 7, 8], true, false), ([], false, false), ([], false, false), ([11], false, false), ([11, 12], false, false), ([11, 12, 13], false, false), ([], false, false), ([15], false, false), ([15, 16], false, false), ([15, 16, 17], false, false), ([11, 12, 13, 14, 15, 16, 17, 18], false, true), ([10, 11, 12, 13, 14, 15, 16, 17, 18, 19], true, false), ([], false, false), ([21], true, false), ([0], false, false), ([0, 23], false, false)] (ExtS s) Ext (fun w => Str w s (k + 8 * 4 + 1 + 1)) (by kernel_rfl) (by kernel_rfl) Ext.refl (fun _ _ _ => ExtS.trans) (fun _ _ h => h.extS) (fun _ _ h => h.2.2.2.1) (fun _ _ h he => h.ext he) hS3d ?_
          dsimp only [List.length_cons, List.length_nil, List.drop_succ_cons, List.drop_zero, List.drop_nil]
          refine fac_quiet 0 rfl rfl rfl (fun _ _ h he => h.ext he) rfl rfl ?_
          apply Exists.intro
          refine ⟨fun sv w' hw' hfa => ?_, ?_⟩
          · have d0 : w'.cell? ⟨g, i * 3, none⟩ = some (.string x.fr) := (hw'.cell hgl hgs _).trans c0
            have d1 : w'.cell? ⟨g, i * 3 + 1, none⟩ = some (.string x.to) := (hw'.cell hgl hgs _).trans c1
            refine ⟨rfl, ?_⟩
            simp only [putsL]
            change quietTo _ _ _ _ (Sem.run _ (execOp (Act.eval _) _) _)
            try simp only [Act.put, List.setIfInBounds_toArray, List.set_cons_succ, List.set_cons_zero]
            simp [go_sem, quietTo, Ext.refl]
            all_goals try simp (disch := omega) only [IntWalk.i64_in]
            all_goals first
              | rfl
          refine fac_late 1 rfl rfl Ext.refl (fun _ _ h he => h.ext he) rfl rfl (fun _ _ _ _ h => h) ?_
          apply Exists.intro
          refine ⟨fun sv w' hw' hfa => ?_, ?_⟩
          · refine ⟨rfl, fun w2 => ?_⟩
            simp only [putsL]
            change pureTo _ _ (Sem.run _ (execOp (Act.eval _) _) _)
            try simp only [Act.put, List.setIfInBounds_toArray, List.set_cons_succ, List.set_cons_zero]
            simp [go_sem, pureTo]
            all_goals try simp (disch := omega) only [IntWalk.i64_in]
            all_goals first
              | rfl
          refine fac_late 2 rfl rfl Ext.refl (fun _ _ h he => h.ext he) rfl rfl (fun _ _ _ _ h => h) ?_
          apply Exists.intro
          refine ⟨fun sv w' hw' hfa => ?_, ?_⟩
          · refine ⟨rfl, fun w2 => ?_⟩
            simp only [putsL]
            change pureTo _ _ (Sem.run _ (execOp (Act.eval _) _) _)
            try simp only [Act.put, List.setIfInBounds_toArray, List.set_cons_succ, List.set_cons_zero]
            simp [go_sem, pureTo]
            all_goals try simp (disch := omega) only [IntWalk.i64_in]
            all_goals first
              | rfl
          refine fac_quiet 3 rfl rfl rfl (fun _ _ h he => h.ext he) rfl rfl ?_
          apply Exists.intro
          refine ⟨fun sv w' hw' hfa => ?_, ?_⟩
          · have d0 : w'.cell? ⟨g, i * 3, none⟩ = some (.string x.fr) := (hw'.cell hgl hgs _).trans c0
            have d1 : w'.cell? ⟨g, i * 3 + 1, none⟩ = some (.string x.to) := (hw'.cell hgl hgs _).trans c1
            refine ⟨rfl, ?_⟩
            simp only [putsL]
            change quietTo _ _ _ _ (Sem.run _ (execOp (Act.eval _) _) _)
            try simp only [Act.put, List.setIfInBounds_toArray, List.set_cons_succ, List.set_cons_zero]
            simp [go_sem, quietTo, Ext.refl]
            all_goals try simp (disch := omega) only [IntWalk.i64_in]
            all_goals first
              | rfl
          refine fac_quiet 4 rfl rfl rfl (fun _ _ h he => h.ext he) rfl rfl ?_
          apply Exists.intro
          refine ⟨fun sv w' hw' hfa => ?_, ?_⟩
          · have d0 : w'.cell? ⟨g, i * 3, none⟩ = some (.string x.fr) := (hw'.cell hgl hgs _).trans c0
            have d1 : w'.cell? ⟨g, i * 3 + 1, none⟩ = some (.string x.to) := (hw'.cell hgl hgs _).trans c1
            refine ⟨rfl, ?_⟩
            simp only [putsL]
            change quietTo _ _ _ _ (Sem.run _ (execOp (Act.eval _) _) _)
            try simp only [Act.put, List.setIfInBounds_toArray, List.set_cons_succ, List.set_cons_zero]
            simp [go_sem, quietTo, Ext.refl]
            all_goals try simp (disch := omega) only [IntWalk.i64_in]
            all_goals first
              | rfl
          refine fac_quiet 5 rfl rfl rfl (fun _ _ h he => h.ext he) rfl rfl ?_
          apply Exists.intro
          refine ⟨fun sv w' hw' hfa => ?_, ?_⟩
          · obtain ⟨f4, -⟩ := hfa
            replace f4 : sv 4 = _ := f4
            try dsimp only at f4
            have d0 : w'.cell? ⟨g, i * 3, none⟩ = some (.string x.fr) := (hw'.cell hgl hgs _).trans c0
            have d1 : w'.cell? ⟨g, i * 3 + 1, none⟩ = some (.string x.to) := (hw'.cell hgl hgs _).trans c1
            refine ⟨rfl, ?_⟩
            simp only [putsL]
            change quietTo _ _ _ _ (Sem.run _ (execOp (Act.eval (Act.put _ (some 57) (sv 4))) _) _)
            try simp only [Act.put, List.setIfInBounds_toArray, List.set_cons_succ, List.set_cons_zero]
            simp [go_sem, quietTo, Ext.refl, f4]
            all_goals try simp (disch := omega) only [IntWalk.i64_in]
            all_goals first
              | rfl
          refine fac_quiet 6 rfl rfl rfl (fun _ _ h he => h.ext he) rfl rfl ?_
          apply Exists.intro
          refine ⟨fun sv w' hw' hfa => ?_, ?_⟩
          · obtain ⟨f4, f5, -⟩ := hfa
            replace f4 : sv 4 = _ := f4
            try dsimp only at f4
            replace f5 : sv 5 = _ := f5
            try dsimp only at f5
            have d0 : w'.cell? ⟨g, i * 3, none⟩ = some (.string x.fr) := (hw'.cell hgl hgs _).trans c0
            have d1 : w'.cell? ⟨g, i * 3 + 1, none⟩ = some (.string x.to) := (hw'.cell hgl hgs _).trans c1
            refine ⟨rfl, ?_⟩
            simp only [putsL]
            change quietTo _ _ _ _ (Sem.run _ (execOp (Act.eval (Act.put (Act.put _ (some 58) (sv 5)) (some 57) (sv 4))) _) _)
            try simp only [Act.put, List.setIfInBounds_toArray, List.set_cons_succ, List.set_cons_zero]
            simp [go_sem, quietTo, Ext.refl, f5]
            all_goals try simp (disch := omega) only [IntWalk.i64_in]
            all_goals first
              | rfl
          refine fac_quiet 7 rfl rfl rfl (fun _ _ h he => h.ext he) rfl rfl ?_
          apply Exists.intro
          refine ⟨fun sv w' hw' hfa => ?_, ?_⟩
          · obtain ⟨f4, f5, f6, -⟩ := hfa
            replace f4 : sv 4 = _ := f4
            try dsimp only at f4
            replace f5 : sv 5 = _ := f5
            try dsimp only at f5
            replace f6 : sv 6 = _ := f6
            try dsimp only at f6
            have d0 : w'.cell? ⟨g, i * 3, none⟩ = some (.string x.fr) := (hw'.cell hgl hgs _).trans c0
            have d1 : w'.cell? ⟨g, i * 3 + 1, none⟩ = some (.string x.to) := (hw'.cell hgl hgs _).trans c1
            refine ⟨rfl, ?_⟩
            simp only [putsL]
            change quietTo _ _ _ _ (Sem.run _ (execOp (Act.eval (Act.put (Act.put (Act.put _ (some 59) (sv 6)) (some 58) (sv 5)) (some 57) (sv 4))) _) _)
            try simp only [Act.put, List.setIfInBounds_toArray, List.set_cons_succ, List.set_cons_zero]
            simp [go_sem, quietTo, Ext.refl, ↓IntWalk.iteOmega, f6, d0, d1]
            all_goals try simp (disch := omega) only [IntWalk.i64_in]
            all_goals first
              | rfl
          refine fac_row 8 rfl rfl rfl (fun _ _ h he => h.ext he) (fun _ _ h => h.2.2.2.1) (fun _ _ _ _ _ he hg hb => hb.extS (Nat.ne_of_gt (Nat.lt_of_lt_of_le hsl hg)) he) ?_
          apply Exists.intro
          apply Exists.intro
          apply Exists.intro
          apply Exists.intro
          refine ⟨fun sv w' hw' hfa => ?_, ?_⟩
          · obtain ⟨f4, f5, f6, f7, -⟩ := hfa
            replace f4 : sv 4 = _ := f4
            try dsimp only at f4
            replace f5 : sv 5 = _ := f5
            try dsimp only at f5
            replace f6 : sv 6 = _ := f6
            try dsimp only at f6
            replace f7 : sv 7 = _ := f7
            try dsimp only at f7
            have d0 : w'.cell? ⟨g, i * 3, none⟩ = some (.string x.fr) := (hw'.cell hgl hgs _).trans c0
            have d1 : w'.cell? ⟨g, i * 3 + 1, none⟩ = some (.string x.to) := (hw'.cell hgl hgs _).trans c1
            refine ⟨rfl, ?_⟩
            simp only [putsL]
            change rowTo _ _ _ _ _ (Sem.run _ (execOp (Act.eval (Act.put (Act.put (Act.put (Act.put _ (some 60) (sv 7)) (some 59) (sv 6)) (some 58) (sv 5)) (some 57) (sv 4))) _) _)
            try simp only [Act.put, List.setIfInBounds_toArray, List.set_cons_succ, List.set_cons_zero]
            simp [go_sem, rowTo, Ext.refl, f7]
            all_goals try simp (disch := omega) only [IntWalk.i64_in]
            all_goals first
              | rfl
              | exact ⟨rfl, rfl⟩
              | exact ⟨⟨rfl, rfl⟩, rfl⟩
          refine fac_loud 9 rfl rfl rfl ?_
          refine ⟨(fun y _ => ∃ nm : ByteArray, nm.size ≤ 1000 ∧ y 9 = .string nm), (fun w => Str w s (k + 8 * 4 + 1 + 1 + 1)), fun sv w' hw' hfa hcc => ?_, ?_, ?_, ?_⟩
          · obtain ⟨f3, f4, f5, f6, f7, f8, -⟩ := hfa
            replace f3 : sv 3 = _ := f3
            try dsimp only at f3
            replace f4 : sv 4 = _ := f4
            try dsimp only at f4
            replace f5 : sv 5 = _ := f5
            try dsimp only at f5
            replace f6 : sv 6 = _ := f6
            try dsimp only at f6
            replace f7 : sv 7 = _ := f7
            try dsimp only at f7
            obtain ⟨g8, f8, l8, b8⟩ := f8
            replace f8 : sv 8 = _ := f8
            obtain ⟨p8, q8⟩ := b8.walk
            have d0 : w'.cell? ⟨g, i * 3, none⟩ = some (.string x.fr) := (hw'.cell hgl hgs _).trans c0
            have d1 : w'.cell? ⟨g, i * 3 + 1, none⟩ = some (.string x.to) := (hw'.cell hgl hgs _).trans c1
            refine ⟨rfl, ?_⟩
            simp only [putsL]
            change outc _ _ (Sem.run _ (execOp (Act.eval (Act.put (Act.put (Act.put (Act.put (Act.put (Act.put _ (some 61) (sv 8)) (some 60) (sv 7)) (some 59) (sv 6)) (some 58) (sv 5)) (some 57) (sv 4)) (some 56) (sv 3))) _) _)
            try simp only [Act.put, List.setIfInBounds_toArray, List.set_cons_succ, List.set_cons_zero]
            simp [go_sem, outc, f3, f8, p8, q8, d0, d1]
            refine (somes_any s (k + 8 * 4 + 1 + 1) _ _ 2 [x.fr, ⟨#[]⟩] _ (by omega) (by simp) (by simp) hcc (by omega) b8).mono ?_
            rintro e w4 ⟨y, hy, rfl, hS4, hE4⟩
            refine ⟨_, rfl, ⟨hE4, hS4⟩, y, ?_, rfl⟩
            rcases (by simpa using hy : y = x.fr ∨ y = ⟨#[]⟩) with rfl | rfl
            · exact s1
            · decide
          · intro x w w' h he; exact h
          · exact fun _ _ h he => h.ext he
          refine fac_quiet 10 rfl rfl rfl (fun _ _ h he => h.ext he) rfl rfl ?_
          apply Exists.intro
          refine ⟨fun sv w' hw' hfa => ?_, ?_⟩
          · have d0 : w'.cell? ⟨g, i * 3, none⟩ = some (.string x.fr) := (hw'.cell hgl hgs _).trans c0
            have d1 : w'.cell? ⟨g, i * 3 + 1, none⟩ = some (.string x.to) := (hw'.cell hgl hgs _).trans c1
            refine ⟨rfl, ?_⟩
            simp only [putsL]
            change quietTo _ _ _ _ (Sem.run _ (execOp (Act.eval _) _) _)
            try simp only [Act.put, List.setIfInBounds_toArray, List.set_cons_succ, List.set_cons_zero]
            simp [go_sem, quietTo, Ext.refl]
            all_goals try simp (disch := omega) only [IntWalk.i64_in]
            all_goals first
              | rfl
          refine fac_quiet 11 rfl rfl rfl (fun _ _ h he => h.ext he) rfl rfl ?_
          apply Exists.intro
          refine ⟨fun sv w' hw' hfa => ?_, ?_⟩
          · have d0 : w'.cell? ⟨g, i * 3, none⟩ = some (.string x.fr) := (hw'.cell hgl hgs _).trans c0
            have d1 : w'.cell? ⟨g, i * 3 + 1, none⟩ = some (.string x.to) := (hw'.cell hgl hgs _).trans c1
            refine ⟨rfl, ?_⟩
            simp only [putsL]
            change quietTo _ _ _ _ (Sem.run _ (execOp (Act.eval _) _) _)
            try simp only [Act.put, List.setIfInBounds_toArray, List.set_cons_succ, List.set_cons_zero]
            simp [go_sem, quietTo, Ext.refl]
            all_goals try simp (disch := omega) only [IntWalk.i64_in]
            all_goals first
              | rfl
          refine fac_quiet 12 rfl rfl rfl (fun _ _ h he => h.ext he) rfl rfl ?_
          apply Exists.intro
          refine ⟨fun sv w' hw' hfa => ?_, ?_⟩
          · obtain ⟨f11, -⟩ := hfa
            replace f11 : sv 11 = _ := f11
            try dsimp only at f11
            have d0 : w'.cell? ⟨g, i * 3, none⟩ = some (.string x.fr) := (hw'.cell hgl hgs _).trans c0
            have d1 : w'.cell? ⟨g, i * 3 + 1, none⟩ = some (.string x.to) := (hw'.cell hgl hgs _).trans c1
            refine ⟨rfl, ?_⟩
            simp only [putsL]
            change quietTo _ _ _ _ (Sem.run _ (execOp (Act.eval (Act.put _ (some 64) (sv 11))) _) _)
            try simp only [Act.put, List.setIfInBounds_toArray, List.set_cons_succ, List.set_cons_zero]
            simp [go_sem, quietTo, Ext.refl, f11]
            all_goals try simp (disch := omega) only [IntWalk.i64_in]
            all_goals first
              | rfl
          refine fac_quiet 13 rfl rfl rfl (fun _ _ h he => h.ext he) rfl rfl ?_
          apply Exists.intro
          refine ⟨fun sv w' hw' hfa => ?_, ?_⟩
          · obtain ⟨f11, f12, -⟩ := hfa
            replace f11 : sv 11 = _ := f11
            try dsimp only at f11
            replace f12 : sv 12 = _ := f12
            try dsimp only at f12
            have d0 : w'.cell? ⟨g, i * 3, none⟩ = some (.string x.fr) := (hw'.cell hgl hgs _).trans c0
            have d1 : w'.cell? ⟨g, i * 3 + 1, none⟩ = some (.string x.to) := (hw'.cell hgl hgs _).trans c1
            refine ⟨rfl, ?_⟩
            simp only [putsL]
            change quietTo _ _ _ _ (Sem.run _ (execOp (Act.eval (Act.put (Act.put _ (some 65) (sv 12)) (some 64) (sv 11))) _) _)
            try simp only [Act.put, List.setIfInBounds_toArray, List.set_cons_succ, List.set_cons_zero]
            simp [go_sem, quietTo, Ext.refl, f12]
            all_goals try simp (disch := omega) only [IntWalk.i64_in]
            all_goals first
              | rfl
          refine fac_quiet 14 rfl rfl rfl (fun _ _ h he => h.ext he) rfl rfl ?_
          apply Exists.intro
          refine ⟨fun sv w' hw' hfa => ?_, ?_⟩
          · obtain ⟨f11, f12, f13, -⟩ := hfa
            replace f11 : sv 11 = _ := f11
            try dsimp only at f11
            replace f12 : sv 12 = _ := f12
            try dsimp only at f12
            replace f13 : sv 13 = _ := f13
            try dsimp only at f13
            have d0 : w'.cell? ⟨g, i * 3, none⟩ = some (.string x.fr) := (hw'.cell hgl hgs _).trans c0
            have d1 : w'.cell? ⟨g, i * 3 + 1, none⟩ = some (.string x.to) := (hw'.cell hgl hgs _).trans c1
            refine ⟨rfl, ?_⟩
            simp only [putsL]
            change quietTo _ _ _ _ (Sem.run _ (execOp (Act.eval (Act.put (Act.put (Act.put _ (some 66) (sv 13)) (some 65) (sv 12)) (some 64) (sv 11))) _) _)
            try simp only [Act.put, List.setIfInBounds_toArray, List.set_cons_succ, List.set_cons_zero]
            simp [go_sem, quietTo, Ext.refl, ↓IntWalk.iteOmega, f13, d0, d1]
            all_goals try simp (disch := omega) only [IntWalk.i64_in]
            all_goals first
              | rfl
          refine fac_quiet 15 rfl rfl rfl (fun _ _ h he => h.ext he) rfl rfl ?_
          apply Exists.intro
          refine ⟨fun sv w' hw' hfa => ?_, ?_⟩
          · have d0 : w'.cell? ⟨g, i * 3, none⟩ = some (.string x.fr) := (hw'.cell hgl hgs _).trans c0
            have d1 : w'.cell? ⟨g, i * 3 + 1, none⟩ = some (.string x.to) := (hw'.cell hgl hgs _).trans c1
            refine ⟨rfl, ?_⟩
            simp only [putsL]
            change quietTo _ _ _ _ (Sem.run _ (execOp (Act.eval _) _) _)
            try simp only [Act.put, List.setIfInBounds_toArray, List.set_cons_succ, List.set_cons_zero]
            simp [go_sem, quietTo, Ext.refl]
            all_goals try simp (disch := omega) only [IntWalk.i64_in]
            all_goals first
              | rfl
          refine fac_quiet 16 rfl rfl rfl (fun _ _ h he => h.ext he) rfl rfl ?_
          apply Exists.intro
          refine ⟨fun sv w' hw' hfa => ?_, ?_⟩
          · obtain ⟨f15, -⟩ := hfa
            replace f15 : sv 15 = _ := f15
            try dsimp only at f15
            have d0 : w'.cell? ⟨g, i * 3, none⟩ = some (.string x.fr) := (hw'.cell hgl hgs _).trans c0
            have d1 : w'.cell? ⟨g, i * 3 + 1, none⟩ = some (.string x.to) := (hw'.cell hgl hgs _).trans c1
            refine ⟨rfl, ?_⟩
            simp only [putsL]
            change quietTo _ _ _ _ (Sem.run _ (execOp (Act.eval (Act.put _ (some 68) (sv 15))) _) _)
            try simp only [Act.put, List.setIfInBounds_toArray, List.set_cons_succ, List.set_cons_zero]
            simp [go_sem, quietTo, Ext.refl, f15]
            all_goals try simp (disch := omega) only [IntWalk.i64_in]
            all_goals first
              | rfl
          refine fac_quiet 17 rfl rfl rfl (fun _ _ h he => h.ext he) rfl rfl ?_
          apply Exists.intro
          refine ⟨fun sv w' hw' hfa => ?_, ?_⟩
          · obtain ⟨f15, f16, -⟩ := hfa
            replace f15 : sv 15 = _ := f15
            try dsimp only at f15
            replace f16 : sv 16 = _ := f16
            try dsimp only at f16
            have d0 : w'.cell? ⟨g, i * 3, none⟩ = some (.string x.fr) := (hw'.cell hgl hgs _).trans c0
            have d1 : w'.cell? ⟨g, i * 3 + 1, none⟩ = some (.string x.to) := (hw'.cell hgl hgs _).trans c1
            refine ⟨rfl, ?_⟩
            simp only [putsL]
            change quietTo _ _ _ _ (Sem.run _ (execOp (Act.eval (Act.put (Act.put _ (some 69) (sv 16)) (some 68) (sv 15))) _) _)
            try simp only [Act.put, List.setIfInBounds_toArray, List.set_cons_succ, List.set_cons_zero]
            simp [go_sem, quietTo, Ext.refl, f16]
            all_goals try simp (disch := omega) only [IntWalk.i64_in]
            all_goals first
              | rfl
          refine fac_quiet 18 rfl rfl rfl (fun _ _ h he => h.ext he) rfl rfl ?_
          apply Exists.intro
          refine ⟨fun sv w' hw' hfa => ?_, ?_⟩
          · obtain ⟨f15, f16, f17, -⟩ := hfa
            replace f15 : sv 15 = _ := f15
            try dsimp only at f15
            replace f16 : sv 16 = _ := f16
            try dsimp only at f16
            replace f17 : sv 17 = _ := f17
            try dsimp only at f17
            have d0 : w'.cell? ⟨g, i * 3, none⟩ = some (.string x.fr) := (hw'.cell hgl hgs _).trans c0
            have d1 : w'.cell? ⟨g, i * 3 + 1, none⟩ = some (.string x.to) := (hw'.cell hgl hgs _).trans c1
            refine ⟨rfl, ?_⟩
            simp only [putsL]
            change quietTo _ _ _ _ (Sem.run _ (execOp (Act.eval (Act.put (Act.put (Act.put _ (some 70) (sv 17)) (some 69) (sv 16)) (some 68) (sv 15))) _) _)
            try simp only [Act.put, List.setIfInBounds_toArray, List.set_cons_succ, List.set_cons_zero]
            simp [go_sem, quietTo, Ext.refl, ↓IntWalk.iteOmega, f17, d0, d1]
            all_goals try simp (disch := omega) only [IntWalk.i64_in]
            all_goals first
              | rfl
          refine fac_row 19 rfl rfl rfl (fun _ _ h he => h.ext he) (fun _ _ h => h.2.2.2.1) (fun _ _ _ _ _ he hg hb => hb.extS (Nat.ne_of_gt (Nat.lt_of_lt_of_le hsl hg)) he) ?_
          apply Exists.intro
          apply Exists.intro
          apply Exists.intro
          apply Exists.intro
          refine ⟨fun sv w' hw' hfa => ?_, ?_⟩
          · obtain ⟨f11, f12, f13, f14, f15, f16, f17, f18, -⟩ := hfa
            replace f11 : sv 11 = _ := f11
            try dsimp only at f11
            replace f12 : sv 12 = _ := f12
            try dsimp only at f12
            replace f13 : sv 13 = _ := f13
            try dsimp only at f13
            replace f14 : sv 14 = _ := f14
            try dsimp only at f14
            replace f15 : sv 15 = _ := f15
            try dsimp only at f15
            replace f16 : sv 16 = _ := f16
            try dsimp only at f16
            replace f17 : sv 17 = _ := f17
            try dsimp only at f17
            replace f18 : sv 18 = _ := f18
            try dsimp only at f18
            have d0 : w'.cell? ⟨g, i * 3, none⟩ = some (.string x.fr) := (hw'.cell hgl hgs _).trans c0
            have d1 : w'.cell? ⟨g, i * 3 + 1, none⟩ = some (.string x.to) := (hw'.cell hgl hgs _).trans c1
            refine ⟨rfl, ?_⟩
            simp only [putsL]
            change rowTo _ _ _ _ _ (Sem.run _ (execOp (Act.eval (Act.put (Act.put (Act.put (Act.put (Act.put (Act.put (Act.put (Act.put _ (some 71) (sv 18)) (some 70) (sv 17)) (some 69) (sv 16)) (some 68) (sv 15)) (some 67) (sv 14)) (some 66) (sv 13)) (some 65) (sv 12)) (some 64) (sv 11))) _) _)
            try simp only [Act.put, List.setIfInBounds_toArray, List.set_cons_succ, List.set_cons_zero]
            simp [go_sem, rowTo, Ext.refl, f14, f18]
            all_goals try simp (disch := omega) only [IntWalk.i64_in]
            all_goals first
              | rfl
              | exact ⟨rfl, rfl⟩
              | exact ⟨⟨rfl, rfl⟩, rfl⟩
          refine fac_loud 20 rfl rfl rfl ?_
          refine ⟨(fun y _ => ∃ nm : ByteArray, nm.size ≤ 1000 ∧ y 20 = .string nm), (fun w => Str w s (k + 8 * 4 + 1 + 1 + 1 + 1)), fun sv w' hw' hfa hcc => ?_, ?_, ?_, ?_⟩
          · obtain ⟨f10, f11, f12, f13, f14, f15, f16, f17, f18, f19, -⟩ := hfa
            replace f10 : sv 10 = _ := f10
            try dsimp only at f10
            replace f11 : sv 11 = _ := f11
            try dsimp only at f11
            replace f12 : sv 12 = _ := f12
            try dsimp only at f12
            replace f13 : sv 13 = _ := f13
            try dsimp only at f13
            replace f14 : sv 14 = _ := f14
            try dsimp only at f14
            replace f15 : sv 15 = _ := f15
            try dsimp only at f15
            replace f16 : sv 16 = _ := f16
            try dsimp only at f16
            replace f17 : sv 17 = _ := f17
            try dsimp only at f17
            replace f18 : sv 18 = _ := f18
            try dsimp only at f18
            obtain ⟨g19, f19, l19, b19⟩ := f19
            replace f19 : sv 19 = _ := f19
            obtain ⟨p19, q19⟩ := b19.walk
            have d0 : w'.cell? ⟨g, i * 3, none⟩ = some (.string x.fr) := (hw'.cell hgl hgs _).trans c0
            have d1 : w'.cell? ⟨g, i * 3 + 1, none⟩ = some (.string x.to) := (hw'.cell hgl hgs _).trans c1
            refine ⟨rfl, ?_⟩
            simp only [putsL]
            change outc _ _ (Sem.run _ (execOp (Act.eval (Act.put (Act.put (Act.put (Act.put (Act.put (Act.put (Act.put (Act.put (Act.put (Act.put _ (some 72) (sv 19)) (some 71) (sv 18)) (some 70) (sv 17)) (some 69) (sv 16)) (some 68) (sv 15)) (some 67) (sv 14)) (some 66) (sv 13)) (some 65) (sv 12)) (some 64) (sv 11)) (some 63) (sv 10))) _) _)
            try simp only [Act.put, List.setIfInBounds_toArray, List.set_cons_succ, List.set_cons_zero]
            simp [go_sem, outc, f10, f19, p19, q19, d0, d1]
            refine (somes_any s (k + 8 * 4 + 1 + 1 + 1) _ _ 2 [x.to, x.fr] _ (by omega) (by simp) (by simp) hcc (by omega) b19).mono ?_
            rintro e w4 ⟨y, hy, rfl, hS4, hE4⟩
            refine ⟨_, rfl, ⟨hE4, hS4⟩, y, ?_, rfl⟩
            rcases (by simpa using hy : y = x.to ∨ y = x.fr) with rfl | rfl
            · exact s2
            · exact s1
          · intro x w w' h he; exact h
          · exact fun _ _ h he => h.ext he
          refine fac_quiet 21 rfl rfl rfl (fun _ _ h he => h.ext he) rfl rfl ?_
          apply Exists.intro
          refine ⟨fun sv w' hw' hfa => ?_, ?_⟩
          · have d0 : w'.cell? ⟨g, i * 3, none⟩ = some (.string x.fr) := (hw'.cell hgl hgs _).trans c0
            have d1 : w'.cell? ⟨g, i * 3 + 1, none⟩ = some (.string x.to) := (hw'.cell hgl hgs _).trans c1
            refine ⟨rfl, ?_⟩
            simp only [putsL]
            change quietTo _ _ _ _ (Sem.run _ (execOp (Act.eval _) _) _)
            try simp only [Act.put, List.setIfInBounds_toArray, List.set_cons_succ, List.set_cons_zero]
            simp [go_sem, quietTo, Ext.refl]
            all_goals try simp (disch := omega) only [IntWalk.i64_in]
            all_goals first
              | rfl
          refine fac_loud 22 rfl rfl rfl ?_
          refine ⟨(fun y _ => ∃ z : Int, (-1099511627776 ≤ z ∧ z ≤ 1099511627776) ∧ y 22 = .int .i64 z), (fun w => Str w s (k + 8 * 4 + 1 + 1 + 1 + 1 + 2)), fun sv w' hw' hfa hcc => ?_, ?_, ?_, ?_⟩
          · obtain ⟨f21, -⟩ := hfa
            replace f21 : sv 21 = _ := f21
            try dsimp only at f21
            have d0 : w'.cell? ⟨g, i * 3, none⟩ = some (.string x.fr) := (hw'.cell hgl hgs _).trans c0
            have d1 : w'.cell? ⟨g, i * 3 + 1, none⟩ = some (.string x.to) := (hw'.cell hgl hgs _).trans c1
            refine ⟨rfl, ?_⟩
            simp only [putsL]
            change outc _ _ (Sem.run _ (execOp (Act.eval (Act.put _ (some 74) (sv 21))) _) _)
            try simp only [Act.put, List.setIfInBounds_toArray, List.set_cons_succ, List.set_cons_zero]
            simp [go_sem, outc, f21, d0, d1]
            refine (odd_any s (k + 8 * 4 + 1 + 1 + 1 + 1) 1 100000000 _ (by omega) (by omega) (by omega) (by omega) (by omega) hcc).mono ?_
            rintro e w4 ⟨y, rfl, ya, yb, hS4, hE4⟩
            exact ⟨_, rfl, ⟨hE4, hS4⟩, y, ⟨ya, yb⟩, rfl⟩
          · intro x w w' h he; exact h
          · exact fun _ _ h he => h.ext he
          refine fac_quiet 23 rfl rfl rfl (fun _ _ h he => h.ext he) rfl rfl ?_
          apply Exists.intro
          refine ⟨fun sv w' hw' hfa => ?_, ?_⟩
          · obtain ⟨f0, -⟩ := hfa
            replace f0 : sv 0 = _ := f0
            try dsimp only at f0
            have d0 : w'.cell? ⟨g, i * 3, none⟩ = some (.string x.fr) := (hw'.cell hgl hgs _).trans c0
            have d1 : w'.cell? ⟨g, i * 3 + 1, none⟩ = some (.string x.to) := (hw'.cell hgl hgs _).trans c1
            refine ⟨rfl, ?_⟩
            simp only [putsL]
            change quietTo _ _ _ _ (Sem.run _ (execOp (Act.eval (Act.put _ (some 53) (sv 0))) _) _)
            try simp only [Act.put, List.setIfInBounds_toArray, List.set_cons_succ, List.set_cons_zero]
            simp [go_sem, quietTo, Ext.refl, f0]
            all_goals try simp (disch := omega) only [IntWalk.i64_in]
            all_goals first
              | rfl
          refine fac_quiet 24 rfl rfl rfl (fun _ _ h he => h.ext he) rfl rfl ?_
          apply Exists.intro
          refine ⟨fun sv w' hw' hfa => ?_, ?_⟩
          · obtain ⟨f0, f23, -⟩ := hfa
            replace f0 : sv 0 = _ := f0
            try dsimp only at f0
            replace f23 : sv 23 = _ := f23
            try dsimp only at f23
            have d0 : w'.cell? ⟨g, i * 3, none⟩ = some (.string x.fr) := (hw'.cell hgl hgs _).trans c0
            have d1 : w'.cell? ⟨g, i * 3 + 1, none⟩ = some (.string x.to) := (hw'.cell hgl hgs _).trans c1
            refine ⟨rfl, ?_⟩
            simp only [putsL]
            change quietTo _ _ _ _ (Sem.run _ (execOp (Act.eval (Act.put (Act.put _ (some 76) (sv 23)) (some 53) (sv 0))) _) _)
            try simp only [Act.put, List.setIfInBounds_toArray, List.set_cons_succ, List.set_cons_zero]
            simp [go_sem, quietTo, Ext.refl, f23]
            all_goals try simp (disch := omega) only [IntWalk.i64_in]
            all_goals first
              | rfl
          refine fac_nil fun xq wrq herq hfrq hcrq holdq hapq => ?_
          obtain ⟨f0, f1, f2, f3, f4, f5, f6, f7, f8, f9, f10, f11, f12, f13, f14, f15, f16, f17, f18, f19, f20, f21, f22, f23, f24, -⟩ := hfrq
          replace f0 : xq 0 = _ := f0
          try dsimp only at f0
          replace f1 : xq 1 = _ := f1
          try dsimp only at f1
          replace f2 : xq 2 = _ := f2
          try dsimp only at f2
          replace f3 : xq 3 = _ := f3
          try dsimp only at f3
          replace f4 : xq 4 = _ := f4
          try dsimp only at f4
          replace f5 : xq 5 = _ := f5
          try dsimp only at f5
          replace f6 : xq 6 = _ := f6
          try dsimp only at f6
          replace f7 : xq 7 = _ := f7
          try dsimp only at f7
          obtain ⟨g8, f8, l8, b8⟩ := f8
          replace f8 : xq 8 = _ := f8
          obtain ⟨p8, q8⟩ := b8.walk
          obtain ⟨nm, hnm, f9⟩ := f9
          replace f9 : xq 9 = _ := f9
          replace f10 : xq 10 = _ := f10
          try dsimp only at f10
          replace f11 : xq 11 = _ := f11
          try dsimp only at f11
          replace f12 : xq 12 = _ := f12
          try dsimp only at f12
          replace f13 : xq 13 = _ := f13
          try dsimp only at f13
          replace f14 : xq 14 = _ := f14
          try dsimp only at f14
          replace f15 : xq 15 = _ := f15
          try dsimp only at f15
          replace f16 : xq 16 = _ := f16
          try dsimp only at f16
          replace f17 : xq 17 = _ := f17
          try dsimp only at f17
          replace f18 : xq 18 = _ := f18
          try dsimp only at f18
          obtain ⟨g19, f19, l19, b19⟩ := f19
          replace f19 : xq 19 = _ := f19
          obtain ⟨p19, q19⟩ := b19.walk
          obtain ⟨n2, hn2, f20⟩ := f20
          replace f20 : xq 20 = _ := f20
          replace f21 : xq 21 = _ := f21
          try dsimp only at f21
          obtain ⟨z2, hz2, f22⟩ := f22
          replace f22 : xq 22 = _ := f22
          replace f23 : xq 23 = _ := f23
          try dsimp only at f23
          replace f24 : xq 24 = _ := f24
          try dsimp only at f24
          change wpList _ _ _ _ (Act.put (Act.put (Act.put (Act.put (Act.put (Act.put (Act.put (Act.put (Act.put (Act.put (Act.put (Act.put (Act.put (Act.put (Act.put (Act.put (Act.put (Act.put (Act.put (Act.put (Act.put (Act.put (Act.put (Act.put (Act.put _ (some 53) (xq 0)) (some 54) (xq 1)) (some 55) (xq 2)) (some 56) (xq 3)) (some 57) (xq 4)) (some 58) (xq 5)) (some 59) (xq 6)) (some 60) (xq 7)) (some 61) (xq 8)) (some 62) (xq 9)) (some 63) (xq 10)) (some 64) (xq 11)) (some 65) (xq 12)) (some 66) (xq 13)) (some 67) (xq 14)) (some 68) (xq 15)) (some 69) (xq 16)) (some 70) (xq 17)) (some 71) (xq 18)) (some 72) (xq 19)) (some 73) (xq 20)) (some 74) (xq 21)) (some 75) (xq 22)) (some 76) (xq 23)) (some 77) (xq 24)) _
          simp only [putsL, Nat.reduceAdd, List.drop_succ_cons, List.drop_zero, List.drop_nil, Act.put, List.setIfInBounds_toArray, List.set_cons_succ, List.set_cons_zero]
          try simp only [f0, f1, f2, f3, f4, f5, f6, f7, f8, f9, f10, f11, f12, f13, f14, f15, f16, f17, f18, f19, f20, f21, f22, f23, f24]
          clear f0 f1 f2 f3 f4 f5 f6 f7 f10 f11 f12 f13 f14 f15 f16 f17 f18 f21 f23 f24
          clear holdq hapq
          have hoq := own_extS herq (by omega) (World.ownsRow.drew ho3.out)
          have hEq : ExtS s w wrq := ((hE3'.drew).trans herq)
          clear ho3 hE3' herq c0 c1 b8 p8 q8 b19 p19 q19 l8 l19 hS3 hS3d hsl hsl' hgl
          have c0 : wrq.cell? ⟨g, i * 3, none⟩ = some (.string x.fr) := own_cell legC_len hoq hx.out 0 rfl hi
          have c1 : wrq.cell? ⟨g, i * 3 + 1, none⟩ = some (.string x.to) := own_cell legC_len hoq hx.out 1 rfl hi
          have c2 : wrq.cell? ⟨g, i * 3 + 2, none⟩ = some (.int .i64 x.m) := own_cell legC_len hoq hx.out 2 rfl hi
          have z0 : ∀ o, wrq.frozen? ⟨g, o, none⟩ = false := fun o => hoq.frozenAt o
          have hsg : s < g := by omega
          have hwg : w.heap.size ≤ g := by omega
          have hwl : w.heap.size < g := by omega
          have hset := leg_mod3 hoq hx.out nm n2 z2
          obtain ⟨p, c, hpc, hSl⟩ := slc_of_own legC_len hset (by decide) (by omega)
          cases hpc
          replace hoq := Lib.hid hoq
          replace hset := Lib.hid hset
          replace hSl := Lib.hid hSl
          clear hg
          go_wp2
          go_ret
          exact ⟨_, n, _, xs.set i ⟨nm, n2, z2⟩, rfl, by omega, hSl.out, (fun a ha => by cases ha; exact hwl), (fun y hy => by
            rcases List.mem_or_eq_of_mem_set hy with h1 | h1
            · exact hf.out y h1
            · subst h1
              exact ⟨hnm, hn2, hz2.1, hz2.2⟩), (((hcrq.set hsg _).set hsg _).set hsg _).more (by omega), ((hEq.setCell (.inr hwg) _).setCell (.inr hwg) _).setCell (.inr hwg) _⟩
end Go.Proofs.YtlmbpgjdepmlcaaDoor
