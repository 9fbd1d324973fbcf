/- By how much rows would have to be higher, by the document's text: the walk. Conditions: people, stage and stands are right. -/
import Derived.Test.YtfmkmnnmckbljaaGreatDoorLsStT
import Derived.Test.YtfmkmnnmckbljaaGreatDoorLsStL
set_option linter.unusedSimpArgs false
set_option linter.unusedVariables false
namespace Go.Proofs.YtfmkmnnmckbljaaGreatDoor
open Go Go.RowKit

theorem foldl_same {α β : Type} {f : β → α → β} (b : β) : ∀ (l : List α), (∀ x ∈ l, f b x = b) → l.foldl f b = b
  | [], _ => rfl
  | x :: l, h => by
    rw [List.foldl_cons, h x List.mem_cons_self]
    exact foldl_same b l fun y hy => h y (List.mem_cons_of_mem _ hy)
theorem liftR_first {P : List PersonV} {wide high : List Int} {S : List StandV} (hon : ∀ x ∈ S, OnStage wide x) (u : List Int) (acc : Int) : liftR P wide high u 0 S acc = acc := by
  unfold liftR
  refine foldl_same _ _ fun b hb => ?_
  unfold liftB
  refine foldl_same _ _ fun a ha => ?_
  have h0 := (hon a ha).1
  unfold beforeS
  by_cases h1 : b.row = ((0 : Nat) : Int)
  · rw [show decide (a.row < b.row) = false from decide_eq_false (by omega)]; simp
  · rw [decide_eq_false h1]; simp

set_option maxRecDepth 100000 in
set_option maxHeartbeats 6400000 in
theorem rlift_any (pp : Option Addr) (pc : Nat) (P : List PersonV) (wp : Option Addr) (wcap : Nat) (wide : List Int) (hp : Option Addr) (hc : Nat) (high : List Int) (lp : Option Addr) (lc : Nat) (S : List StandV) (w : World) (h : PsM w pp pc P wp wcap wide hp hc high lp lc S) (hok : StandsOk P wide high S) (hwn : 1 ≤ wide.length) :
    Calls Tryz.prog 20 #[.slice pp P.length pc, .agg #[.slice wp wide.length wcap, .slice hp high.length hc], .slice lp S.length lc] w fun e w' => ∃ b, e = .returned (.slice (some ⟨b, 0, none⟩) wide.length wide.length) ∧ Blk w' b 3 (rowI (liftL P wide high S wide.length)) ∧ Ext w w' := by
  have hX0 : Blk (w.alloc (.cells #[.slice wp wide.length wcap, .slice hp high.length hc] 28)) w.heap.size 28 #[.slice wp wide.length wcap, .slice hp high.length hc] := Blk.new' rfl
  have hE0 : Ext w (w.alloc (.cells #[.slice wp wide.length wcap, .slice hp high.length hc] 28)) := (Ext.refl _).alloc _
  have hlen := hok.len
  have hw10 := hok.wo.1
  have hmk := make_int wide.length (by omega)
  replace h := Lib.hid h
  replace hok := Lib.hid hok
  go_enter Tryz.func20, Tryz.ntmps20
  go_upto_region 2 with fail
  have hs0 : (w.alloc (.cells #[.slice wp wide.length wcap, .slice hp high.length hc] 28)).heap.size = w.heap.size + 1 := by simp
  generalize (w.alloc (.cells #[.slice wp wide.length wcap, .slice hp high.length hc] 28)) = W0 at *
  have hB0 : Blk (W0.alloc (.cells (rowI (List.replicate wide.length 0)) 3)) (w.heap.size + 1) 3 (rowI (liftL P wide high S 0 ++ List.replicate (wide.length - 0) 0)) := Blk.new' hs0.symm
  have hE2 : Ext W0 (W0.alloc (.cells (rowI (List.replicate wide.length 0)) 3)) := (Ext.refl _).alloc _
  clear hmk
  generalize (W0.alloc (.cells (rowI (List.replicate wide.length 0)) 3)) = W at *
  generalize hog : w.heap.size + 1 = og at *
  replace hog := Lib.hid hog
  go_wp2
  go_loopw [19] (fun v19 wr => ∃ r : Nat, v19 = .int .i64 r ∧ r ≤ wide.length ∧ Blk wr og 3 (rowI (liftL P wide high S r ++ List.replicate (wide.length - r) 0)) ∧ Ext W0 wr ∧ ∀ v ∈ liftL P wide high S r, 0 ≤ v ∧ v ≤ 2000001 * r) (fun v19 _ => wide.length - (intOf v19).toNat)
  case atStart => exact ⟨0, rfl, by omega, hB0, hE2, fun v hv => by cases hv⟩
  case round =>
    clear hB0 hE2
    obtain ⟨r, rfl, hr, hB, hE, hbd⟩ := hrel
    by_cases hlt : r < wide.length
    · have hll : (liftL P wide high S r).length = r := liftL_len r
      obtain ⟨v0, hv0b, hv0q, hsuc⟩ : ∃ v0 : Int, (0 ≤ v0 ∧ v0 ≤ 2000001 * r) ∧ (r = 0 ∧ v0 = 0 ∨ ∃ q, r = q + 1 ∧ (liftL P wide high S r)[q]? = some v0) ∧ liftL P wide high S (r + 1) = liftL P wide high S r ++ [liftR P wide high (liftL P wide high S r) r S v0] := by
        cases r with
        | zero => exact ⟨0, by omega, .inl ⟨rfl, rfl⟩, by rw [liftR_first hok.out.on]; rfl⟩
        | succ q =>
          obtain ⟨v, hv⟩ : ∃ v, (liftL P wide high S (q + 1))[q]? = some v := ⟨_, List.getElem?_eq_getElem (by omega)⟩
          refine ⟨v, hbd v (List.mem_of_getElem? hv), .inr ⟨q, rfl, hv⟩, ?_⟩
          have : liftL P wide high S (q + 1 + 1) = liftL P wide high S (q + 1) ++ [liftR P wide high (liftL P wide high S (q + 1)) (q + 1) S ((liftL P wide high S (q + 1)).getD q 0)] := rfl
          rw [List.getD_eq_getElem?_getD, hv, Option.getD_some] at this
          exact this
      obtain ⟨m, hm⟩ : ∃ m, wide.length - r = m + 1 := ⟨wide.length - r - 1, by omega⟩
      have hm1 : wide.length - (r + 1) = m := by omega
      have harr : liftL P wide high S r ++ List.replicate (wide.length - r) 0 = arrL (liftL P wide high S r) 0 m := by rw [hm]; rfl
      have harr2 : ∀ x, liftL P wide high S r ++ [x] ++ List.replicate (wide.length - (r + 1)) 0 = arrL (liftL P wide high S r) x m := by intro x; rw [hm1]; simp [arrL]
      rw [harr] at hB
      replace hbd := Lib.hid hbd
      replace hsuc := Lib.hid hsuc
      replace harr2 := Lib.hid harr2
      replace hv0q := Lib.hid hv0q
      clear hm hm1 harr
      have hrI : (r : Int) < wide.length := by omega
      go_upto_if 23 with fail
      generalize hfr : decide (0 < r) = fr
      go_cut [24, 25, 26, 27, 28, 29, 30, 31] (fun _ _ _ _ _ _ _ _ wq => Blk wq og 3 (rowI (arrL (liftL P wide high S r) v0 m)) ∧ Ext W0 wq)
      case first =>
        cases fr
        · rcases hv0q.out with ⟨h0, h1⟩ | ⟨q, h0, -⟩
          · subst h1
            replace h0 := Lib.hid h0
            clear hfr
            go_wp2
            go_meet
            exact ⟨hB, hE⟩
          · exfalso
            have := of_decide_eq_false hfr
            omega
        · rcases hv0q.out with ⟨h0, h1⟩ | ⟨q, h0, hq⟩
          · exfalso
            have := of_decide_eq_true hfr
            omega
          · have hc0 := rowI_cell hB (arrL_low (acc := 0) (m := m) hq)
            have hc1 := rowI_cell hB (arrL_at (acc := 0) (m := m) hll)
            have hfz := hB.frozen
            have hBv := rowI_set hB r v0
            rw [arrL_set hll] at hBv
            have hEv : Ext W0 (wr.setCell ⟨og, r, none⟩ (.int .i64 v0)) := hE.setCell (by simp only [hs0]; exact Nat.le_refl _) _
            have hrq : IntKind.i64.wrap ((r : Int) - 1) = q := by rw [IntWalk.i64_in _ (by omega)]; omega
            have hrq2 : (r : Int) - 1 = q := by omega
            have hqI : (q : Int) < wide.length := by omega
            clear hfr
            replace h0 := Lib.hid h0
            go_wp2
            go_meet
            exact ⟨hBv, hEv⟩
      case rest =>
        clear hB hE
        obtain ⟨hB, hE⟩ := hcut
        clear hfr
        generalize wc = W1 at *
        go_wp2
        go_loopw [34] (fun v34 wq => ∃ k : Nat, v34 = .int .i64 k ∧ k ≤ S.length ∧ Blk wq og 3 (rowI (arrL (liftL P wide high S r) (accK P wide high (liftL P wide high S r) r S v0 k) m)) ∧ Ext W0 wq ∧ 0 ≤ accK P wide high (liftL P wide high S r) r S v0 k ∧ accK P wide high (liftL P wide high S r) r S v0 k ≤ 2000001 * (r + 1)) (fun v34 _ => S.length - (intOf v34).toNat)
        case atStart => exact ⟨0, rfl, Nat.zero_le _, hB, hE, by have := hv0b.1; simpa [accK] using this, by simp only [accK, List.take_zero, List.foldl_nil]; omega⟩
        case round =>
          clear hB hE
          obtain ⟨k, rfl, hk, hB, hE, hb0, hb1'⟩ := hrel
          by_cases hkl : k < S.length
          · obtain ⟨b, hb⟩ := getD_some (rfl : S.length = S.length) hkl
            have hkI : (k : Int) < S.length := by omega
            have hnx := accK_succ (P := P) (wide := wide) (high := high) (u := liftL P wide high S r) (r := r) (acc := v0) hb
            generalize accK P wide high (liftL P wide high S r) r S v0 k = a0 at *
            rcases (slcC h.out.sta).2 with ⟨-, e⟩ | ⟨sb, so, rfl, hsb, hEl⟩
            · rw [e] at hb; cases hb
            have hEw := hE0.trans hE
            obtain ⟨c0, c1, c2⟩ := (hEl.ext hEw hsb).sta hb
            have hbw := Nat.lt_of_lt_of_le hsb hEw.size
            have hY := Blk.new' (w := wr) (t := 61) (cs := #[.string b.name, .int .i64 b.row, .int .i64 b.place]) rfl
            have hE2 := hE.alloc (.cells #[.string b.name, .int .i64 b.row, .int .i64 b.place] 61)
            have hB2 := hB.alloc (.cells #[.string b.name, .int .i64 b.row, .int .i64 b.place] 61)
            have hog2 : og ≠ wr.heap.size := Nat.ne_of_lt hB.lt
            replace hb := Lib.hid hb
            replace hnx := Lib.hid hnx
            replace hEl := Lib.hid hEl
            go_wp2
            try rw [show decide ((k : Int) < (S.length : Int)) = true from decide_eq_true hkI]
            clear c0 c1 c2 hB
            generalize wr.alloc (.cells #[.string b.name, .int .i64 b.row, .int .i64 b.place] 61) = W2 at *
            generalize wr.heap.size = gb at *
            go_loopw [40] (fun v40 wq => ∃ i : Nat, v40 = .int .i64 i ∧ i ≤ S.length ∧ Blk wq og 3 (rowI (arrL (liftL P wide high S r) (accI P wide high (liftL P wide high S r) r S b a0 i) m)) ∧ Ext W0 wq ∧ (0 ≤ accI P wide high (liftL P wide high S r) r S b a0 i ∧ accI P wide high (liftL P wide high S r) r S b a0 i ≤ 2000001 * (r + 1)) ∧ Blk wq gb 61 #[.string b.name, .int .i64 b.row, .int .i64 b.place]) (fun v40 _ => S.length - (intOf v40).toNat)
            case atStart => exact ⟨0, rfl, Nat.zero_le _, hB2, hE2, ⟨hb0, hb1'⟩, hY⟩
            case round =>
              clear hB2 hE2 hb0 hb1' hY
              obtain ⟨i, rfl, hi, hB, hE, hbi, hY⟩ := hrel
              by_cases hil : i < S.length
              · obtain ⟨a, ha⟩ := getD_some (rfl : S.length = S.length) hil
                have hiI : (i : Int) < S.length := by omega
                have hnx2 := accI_succ (P := P) (wide := wide) (high := high) (u := liftL P wide high S r) (r := r) (b := b) (acc := a0) ha
                generalize accI P wide high (liftL P wide high S r) r S b a0 i = ai at *
                have hEq := hE0.trans hE
                obtain ⟨c0, c1, c2⟩ := (hEl.out.ext hEq hsb).sta ha
                have hbq := Nat.lt_of_lt_of_le hsb hEq.size
                have hE3 := hE.alloc (.cells #[.string a.name, .int .i64 a.row, .int .i64 a.place] 61)
                have hY3 := hY.alloc (.cells #[.string a.name, .int .i64 a.row, .int .i64 a.place] 61)
                have hB3 := hB.alloc (.cells #[.string a.name, .int .i64 a.row, .int .i64 a.place] 61)
                have hZ := Blk.new' (w := wr) (t := 61) (cs := #[.string a.name, .int .i64 a.row, .int .i64 a.place]) rfl
                have hX3 := hX0.ext hE3
                have ham := List.mem_of_getElem? ha
                have hbm := List.mem_of_getElem? hb.out
                have hnr := rnear_any wp wcap hp high.length hc wide a b _ (h.out.wid.ext (hE0.trans hE3)) hok.out.wo (hok.out.on a ham) (hok.out.on b hbm)
                obtain ⟨x1, -⟩ := hX3.walk
                obtain ⟨y1, -⟩ := hY3.walk
                have ly := hY.lt
                have lx := hX0.lt
                have lo := hB.lt
                have hWw := hE.size
                have hcond : (b.row = r && beforeS wide a b) = (decide (b.row = r) && (decide (a.row < r) && nearS wide a b)) := by
                  unfold beforeS
                  by_cases h1 : b.row = r
                  · rw [h1]
                  · rw [decide_eq_false h1]; rfl
                rw [hcond] at hnx2
                clear hcond
                have ha0 := (hok.out.on a ham).1
                replace ha := Lib.hid ha
                by_cases hbr : b.row = r
                · have hbr' : (b.row == (r : Int)) = true := by simp [hbr]
                  replace hbr := Lib.hid hbr
                  by_cases har : a.row < r
                  · cases hnn : nearS wide a b
                    · rw [hnn] at hnr hnx2
                      simp only [Bool.and_false, Bool.false_eq_true, if_false] at hnx2
                      replace hnr := Lib.hid hnr
                      replace hnx2 := Lib.hid hnx2
                      go_wp2_with (go_at_call 47; (with_reducible refine Calls.mono hnr.out ?_); rintro e w2 ⟨rfl, hb2⟩)
                      go_roundw
                      case rel => exact ⟨i + 1, by go_num, by omega, by rw [hnx2.out]; exact hB3.ext hb2, hE3.trans hb2, by rw [hnx2.out]; exact hbi, hY3.ext hb2⟩
                      case measure => simp [intOf]; omega
                    · rw [hnn] at hnr hnx2
                      rw [decide_eq_true hbr.out, decide_eq_true har] at hnx2
                      simp only [Bool.and_self, if_true] at hnx2
                      obtain ⟨ra, hra⟩ : ∃ ra : Nat, a.row = ra := ⟨a.row.toNat, by omega⟩
                      rw [hra] at hnx2 hnr
                      rw [Int.toNat_natCast] at hnx2
                      obtain ⟨ua, hua⟩ : ∃ v, (liftL P wide high S r)[ra]? = some v := ⟨_, List.getElem?_eq_getElem (by omega)⟩
                      have huab := hbd.out ua (List.mem_of_getElem? hua)
                      rw [List.getD_eq_getElem?_getD, hua, Option.getD_some] at hnx2
                      have hraI : (ra : Int) < wide.length := by omega
                      have bt1 := top_bound hok.out.po hok.out.ho hok.out.all ham
                      have bt2 := top_bound hok.out.po hok.out.ho hok.out.all hbm
                      have ht1 := fun x (hx : Ext w x) => rtop_any pp pc P wp wcap wide hp hc high _ lc S x (h.out.more hx) hok.out ham
                      have ht2 := fun x (hx : Ext w x) => rtop_any pp pc P wp wcap wide hp hc high _ lc S x (h.out.more hx) hok.out hbm
                      rw [hra] at ht1 hZ c1 hE3 hY3 hB3 hX3 x1 y1
                      generalize topS P high a = ta at *
                      generalize topS P high b = tb at *
                      have hwr1 : IntKind.i64.wrap (ta + ua) = ta + ua := IntWalk.i64_in _ (by omega)
                      have hwr2 : IntKind.i64.wrap (ta + ua - tb) = ta + ua - tb := IntWalk.i64_in _ (by omega)
                      have hwr3 : IntKind.i64.wrap (ta + ua - tb + 1) = ta + ua - tb + 1 := IntWalk.i64_in _ (by omega)
                      have hbn : 0 ≤ max ai (ta + ua - tb + 1) ∧ max ai (ta + ua - tb + 1) ≤ 2000001 * (r + 1) := by omega
                      have hraR : ra < r := by omega
                      replace hnx2 := Lib.hid hnx2
                      replace ht1 := Lib.hid ht1
                      replace ht2 := Lib.hid ht2
                      replace hbn := Lib.hid hbn
                      replace hnr := Lib.hid hnr
                      clear huab
                      go_upto_region 14 with (go_at_call 47; (with_reducible refine Calls.mono hnr.out ?_); rintro e w2 ⟨rfl, hb2⟩)
                      have hX4 := hX3.ext hb2
                      have hY4 := hY3.ext hb2
                      have hZ4 := hZ.ext hb2
                      have hB4 := hB3.ext hb2
                      have hE4 := hE3.trans hb2
                      clear hX3 hY3 hZ hB3 hE3 hb2 x1 y1 c0 c1 c2
                      refine wp_region_facts [] [([], false, false), ([], false, false), ([], false, false), ([], false, false), ([2, 3], false, false), ([2, 3, 4], false, false), ([], false, false), ([], false, false), ([], false, false), ([6, 7, 8], false, false), ([], false, false), ([], false, false), ([11], false, false), ([10, 11, 12], false, false), ([10, 11, 12, 13], false, false), ([6, 7, 8, 9, 10, 11, 12, 13, 14], false, false), ([], false, false), ([], false, false), ([], false, false), ([16, 17, 18], false, false), ([6, 7, 8, 9, 10, 11, 12, 13, 14, 15, 16, 17, 18, 19], false, false), ([6, 7, 8, 9, 10, 11, 12, 13, 14, 15, 16, 17, 18, 19, 20], false, false), ([2, 3, 4, 5, 6, 7, 8, 9, 10, 11, 12, 13, 14, 15, 16, 17, 18, 19, 20, 21], false, false)] (Ext) Ext (fun _ => True) (by kernel_rfl) (by kernel_rfl) Ext.refl (fun _ _ _ => Ext.trans) (fun _ _ h => h) (fun _ _ h => h.size) (fun _ _ h _ => h) trivial ?_
                      dsimp only [List.length_cons, List.length_nil, List.drop_succ_cons, List.drop_zero, List.drop_nil]
                      refine fac_quiet 0 rfl rfl rfl (fun _ _ h _ => h) rfl rfl ?_
                      apply Exists.intro
                      refine ⟨fun sv w' hw' hfa => ?_, ?_⟩
                      · refine ⟨rfl, ?_⟩
                        simp only [putsL]
                        change quietTo _ _ _ _ (Sem.run _ (execOp (Act.eval _) _) _)
                        try simp only [Act.put, List.setIfInBounds_toArray, List.set_cons_succ, List.set_cons_zero]
                        simp [go_sem, quietTo, Ext.refl]
                        all_goals first
                          | rfl
                      refine fac_quiet 1 rfl rfl rfl (fun _ _ h _ => h) rfl rfl ?_
                      apply Exists.intro
                      refine ⟨fun sv w' hw' hfa => ?_, ?_⟩
                      · refine ⟨rfl, ?_⟩
                        simp only [putsL]
                        change quietTo _ _ _ _ (Sem.run _ (execOp (Act.eval _) _) _)
                        try simp only [Act.put, List.setIfInBounds_toArray, List.set_cons_succ, List.set_cons_zero]
                        simp [go_sem, quietTo, Ext.refl]
                        all_goals first
                          | rfl
                      refine fac_quiet 2 rfl rfl rfl (fun _ _ h _ => h) rfl rfl ?_
                      apply Exists.intro
                      refine ⟨fun sv w' hw' hfa => ?_, ?_⟩
                      · refine ⟨rfl, ?_⟩
                        simp only [putsL]
                        change quietTo _ _ _ _ (Sem.run _ (execOp (Act.eval _) _) _)
                        try simp only [Act.put, List.setIfInBounds_toArray, List.set_cons_succ, List.set_cons_zero]
                        simp [go_sem, quietTo, Ext.refl]
                        all_goals first
                          | rfl
                      refine fac_quiet 3 rfl rfl rfl (fun _ _ h _ => h) rfl rfl ?_
                      apply Exists.intro
                      refine ⟨fun sv w' hw' hfa => ?_, ?_⟩
                      · refine ⟨rfl, ?_⟩
                        simp only [putsL]
                        change quietTo _ _ _ _ (Sem.run _ (execOp (Act.eval _) _) _)
                        try simp only [Act.put, List.setIfInBounds_toArray, List.set_cons_succ, List.set_cons_zero]
                        simp [go_sem, quietTo, Ext.refl]
                        all_goals first
                          | rfl
                      refine fac_quiet 4 rfl rfl rfl (fun _ _ h _ => h) rfl rfl ?_
                      apply Exists.intro
                      refine ⟨fun sv w' hw' hfa => ?_, ?_⟩
                      · obtain ⟨f2, f3, -⟩ := hfa
                        replace f2 : sv 2 = _ := f2
                        try dsimp only at f2
                        replace f3 : sv 3 = _ := f3
                        try dsimp only at f3
                        have hk9 := (Ext.refl w2).drew.trans hw'; have y9 := (hB4.ext hk9); have y1 := rowI_cell y9 (arrL_at (acc := ai) (m := m) hll); have y2 := rowI_cell y9 (arrL_low (acc := ai) (m := m) hua); obtain ⟨yx, -⟩ := (hX4.ext hk9).walk; obtain ⟨yb, -⟩ := (hY4.ext hk9).walk; obtain ⟨z1, -⟩ := (hZ4.ext hk9).walk
                        refine ⟨rfl, ?_⟩
                        simp only [putsL]
                        change quietTo _ _ _ _ (Sem.run _ (execOp (Act.eval (Act.put (Act.put _ (some 63) (sv 3)) (some 62) (sv 2))) _) _)
                        try simp only [Act.put, List.setIfInBounds_toArray, List.set_cons_succ, List.set_cons_zero]
                        simp [go_sem, quietTo, Ext.refl, ↓IntWalk.iteOmega, f2, f3, hrI]
                        all_goals try simp (disch := omega) only [IntWalk.i64_in]
                        all_goals first
                          | rfl
                      refine fac_quiet 5 rfl rfl rfl (fun _ _ h _ => h) rfl rfl ?_
                      apply Exists.intro
                      refine ⟨fun sv w' hw' hfa => ?_, ?_⟩
                      · obtain ⟨_, _, f4, -⟩ := hfa
                        replace f4 : sv 4 = _ := f4
                        try dsimp only at f4
                        have hk9 := (Ext.refl w2).drew.trans hw'; have y9 := (hB4.ext hk9); have y1 := rowI_cell y9 (arrL_at (acc := ai) (m := m) hll); have y2 := rowI_cell y9 (arrL_low (acc := ai) (m := m) hua); obtain ⟨yx, -⟩ := (hX4.ext hk9).walk; obtain ⟨yb, -⟩ := (hY4.ext hk9).walk; obtain ⟨z1, -⟩ := (hZ4.ext hk9).walk
                        refine ⟨rfl, ?_⟩
                        simp only [putsL]
                        change quietTo _ _ _ _ (Sem.run _ (execOp (Act.eval (Act.put (Act.put (Act.put _ (some 64) (sv 4)) (some 63) (sv 3)) (some 62) (sv 2))) _) _)
                        try simp only [Act.put, List.setIfInBounds_toArray, List.set_cons_succ, List.set_cons_zero]
                        simp [go_sem, quietTo, Ext.refl, ↓IntWalk.iteOmega, f4, y1]
                        all_goals try simp (disch := omega) only [IntWalk.i64_in]
                        all_goals first
                          | rfl
                      refine fac_quiet 6 rfl rfl rfl (fun _ _ h _ => h) rfl rfl ?_
                      apply Exists.intro
                      refine ⟨fun sv w' hw' hfa => ?_, ?_⟩
                      · refine ⟨rfl, ?_⟩
                        simp only [putsL]
                        change quietTo _ _ _ _ (Sem.run _ (execOp (Act.eval _) _) _)
                        try simp only [Act.put, List.setIfInBounds_toArray, List.set_cons_succ, List.set_cons_zero]
                        simp [go_sem, quietTo, Ext.refl]
                        all_goals first
                          | rfl
                      refine fac_quiet 7 rfl rfl rfl (fun _ _ h _ => h) rfl rfl ?_
                      apply Exists.intro
                      refine ⟨fun sv w' hw' hfa => ?_, ?_⟩
                      · have hk9 := (Ext.refl w2).drew.trans hw'; have y9 := (hB4.ext hk9); have y1 := rowI_cell y9 (arrL_at (acc := ai) (m := m) hll); have y2 := rowI_cell y9 (arrL_low (acc := ai) (m := m) hua); obtain ⟨yx, -⟩ := (hX4.ext hk9).walk; obtain ⟨yb, -⟩ := (hY4.ext hk9).walk; obtain ⟨z1, -⟩ := (hZ4.ext hk9).walk
                        refine ⟨rfl, ?_⟩
                        simp only [putsL]
                        change quietTo _ _ _ _ (Sem.run _ (execOp (Act.eval _) _) _)
                        try simp only [Act.put, List.setIfInBounds_toArray, List.set_cons_succ, List.set_cons_zero]
                        simp [go_sem, quietTo, Ext.refl, ↓IntWalk.iteOmega, yx]
                        all_goals try simp (disch := omega) only [IntWalk.i64_in]
                        all_goals first
                          | rfl
                      refine fac_quiet 8 rfl rfl rfl (fun _ _ h _ => h) rfl rfl ?_
                      apply Exists.intro
                      refine ⟨fun sv w' hw' hfa => ?_, ?_⟩
                      · have hk9 := (Ext.refl w2).drew.trans hw'; have y9 := (hB4.ext hk9); have y1 := rowI_cell y9 (arrL_at (acc := ai) (m := m) hll); have y2 := rowI_cell y9 (arrL_low (acc := ai) (m := m) hua); obtain ⟨yx, -⟩ := (hX4.ext hk9).walk; obtain ⟨yb, -⟩ := (hY4.ext hk9).walk; obtain ⟨z1, -⟩ := (hZ4.ext hk9).walk
                        refine ⟨rfl, ?_⟩
                        simp only [putsL]
                        change quietTo _ _ _ _ (Sem.run _ (execOp (Act.eval _) _) _)
                        try simp only [Act.put, List.setIfInBounds_toArray, List.set_cons_succ, List.set_cons_zero]
                        simp [go_sem, quietTo, Ext.refl, ↓IntWalk.iteOmega, z1]
                        all_goals try simp (disch := omega) only [IntWalk.i64_in]
                        all_goals first
                          | rfl
                      refine fac_quiet 9 rfl rfl rfl (fun _ _ h _ => h) rfl rfl ?_
                      apply Exists.intro
                      refine ⟨fun sv w' hw' hfa => ?_, ?_⟩
                      · obtain ⟨f6, f7, f8, -⟩ := hfa
                        replace f6 : sv 6 = _ := f6
                        try dsimp only at f6
                        replace f7 : sv 7 = _ := f7
                        try dsimp only at f7
                        replace f8 : sv 8 = _ := f8
                        try dsimp only at f8
                        have hk9 := (Ext.refl w2).drew.trans hw'; have y9 := (hB4.ext hk9); have y1 := rowI_cell y9 (arrL_at (acc := ai) (m := m) hll); have y2 := rowI_cell y9 (arrL_low (acc := ai) (m := m) hua); obtain ⟨yx, -⟩ := (hX4.ext hk9).walk; obtain ⟨yb, -⟩ := (hY4.ext hk9).walk; obtain ⟨z1, -⟩ := (hZ4.ext hk9).walk
                        refine ⟨rfl, ?_⟩
                        simp only [putsL]
                        change quietTo _ _ _ _ (Sem.run _ (execOp (Act.eval (Act.put (Act.put (Act.put _ (some 68) (sv 8)) (some 67) (sv 7)) (some 66) (sv 6))) _) _)
                        try simp only [Act.put, List.setIfInBounds_toArray, List.set_cons_succ, List.set_cons_zero]
                        simp [go_sem, quietTo, Ext.refl, ↓IntWalk.iteOmega, f6, f7, f8]
                        all_goals try simp (disch := omega) only [IntWalk.i64_in]
                        all_goals first
                          | rfl
                          | (exact ht1.out _ (hE0.trans (hE4.trans hk9)))
                      refine fac_quiet 10 rfl rfl rfl (fun _ _ h _ => h) rfl rfl ?_
                      apply Exists.intro
                      refine ⟨fun sv w' hw' hfa => ?_, ?_⟩
                      · refine ⟨rfl, ?_⟩
                        simp only [putsL]
                        change quietTo _ _ _ _ (Sem.run _ (execOp (Act.eval _) _) _)
                        try simp only [Act.put, List.setIfInBounds_toArray, List.set_cons_succ, List.set_cons_zero]
                        simp [go_sem, quietTo, Ext.refl]
                        all_goals first
                          | rfl
                      refine fac_quiet 11 rfl rfl rfl (fun _ _ h _ => h) rfl rfl ?_
                      apply Exists.intro
                      refine ⟨fun sv w' hw' hfa => ?_, ?_⟩
                      · refine ⟨rfl, ?_⟩
                        simp only [putsL]
                        change quietTo _ _ _ _ (Sem.run _ (execOp (Act.eval _) _) _)
                        try simp only [Act.put, List.setIfInBounds_toArray, List.set_cons_succ, List.set_cons_zero]
                        simp [go_sem, quietTo, Ext.refl]
                        all_goals first
                          | rfl
                      refine fac_quiet 12 rfl rfl rfl (fun _ _ h _ => h) rfl rfl ?_
                      apply Exists.intro
                      refine ⟨fun sv w' hw' hfa => ?_, ?_⟩
                      · obtain ⟨f11, -⟩ := hfa
                        replace f11 : sv 11 = _ := f11
                        try dsimp only at f11
                        have hk9 := (Ext.refl w2).drew.trans hw'; have y9 := (hB4.ext hk9); have y1 := rowI_cell y9 (arrL_at (acc := ai) (m := m) hll); have y2 := rowI_cell y9 (arrL_low (acc := ai) (m := m) hua); obtain ⟨yx, -⟩ := (hX4.ext hk9).walk; obtain ⟨yb, -⟩ := (hY4.ext hk9).walk; obtain ⟨z1, -⟩ := (hZ4.ext hk9).walk
                        refine ⟨rfl, ?_⟩
                        simp only [putsL]
                        change quietTo _ _ _ _ (Sem.run _ (execOp (Act.eval (Act.put _ (some 71) (sv 11))) _) _)
                        try simp only [Act.put, List.setIfInBounds_toArray, List.set_cons_succ, List.set_cons_zero]
                        simp [go_sem, quietTo, Ext.refl, ↓IntWalk.iteOmega, f11, z1]
                        all_goals try simp (disch := omega) only [IntWalk.i64_in]
                        all_goals first
                          | rfl
                      refine fac_quiet 13 rfl rfl rfl (fun _ _ h _ => h) rfl rfl ?_
                      apply Exists.intro
                      refine ⟨fun sv w' hw' hfa => ?_, ?_⟩
                      · obtain ⟨f10, _, f12, -⟩ := hfa
                        replace f10 : sv 10 = _ := f10
                        try dsimp only at f10
                        replace f12 : sv 12 = _ := f12
                        try dsimp only at f12
                        have hk9 := (Ext.refl w2).drew.trans hw'; have y9 := (hB4.ext hk9); have y1 := rowI_cell y9 (arrL_at (acc := ai) (m := m) hll); have y2 := rowI_cell y9 (arrL_low (acc := ai) (m := m) hua); obtain ⟨yx, -⟩ := (hX4.ext hk9).walk; obtain ⟨yb, -⟩ := (hY4.ext hk9).walk; obtain ⟨z1, -⟩ := (hZ4.ext hk9).walk
                        refine ⟨rfl, ?_⟩
                        simp only [putsL]
                        change quietTo _ _ _ _ (Sem.run _ (execOp (Act.eval (Act.put (Act.put (Act.put _ (some 72) (sv 12)) (some 71) (sv 11)) (some 70) (sv 10))) _) _)
                        try simp only [Act.put, List.setIfInBounds_toArray, List.set_cons_succ, List.set_cons_zero]
                        simp [go_sem, quietTo, Ext.refl, ↓IntWalk.iteOmega, f10, f12, hraI]
                        all_goals try simp (disch := omega) only [IntWalk.i64_in]
                        all_goals first
                          | rfl
                      refine fac_quiet 14 rfl rfl rfl (fun _ _ h _ => h) rfl rfl ?_
                      apply Exists.intro
                      refine ⟨fun sv w' hw' hfa => ?_, ?_⟩
                      · obtain ⟨_, _, _, f13, -⟩ := hfa
                        replace f13 : sv 13 = _ := f13
                        try dsimp only at f13
                        have hk9 := (Ext.refl w2).drew.trans hw'; have y9 := (hB4.ext hk9); have y1 := rowI_cell y9 (arrL_at (acc := ai) (m := m) hll); have y2 := rowI_cell y9 (arrL_low (acc := ai) (m := m) hua); obtain ⟨yx, -⟩ := (hX4.ext hk9).walk; obtain ⟨yb, -⟩ := (hY4.ext hk9).walk; obtain ⟨z1, -⟩ := (hZ4.ext hk9).walk
                        refine ⟨rfl, ?_⟩
                        simp only [putsL]
                        change quietTo _ _ _ _ (Sem.run _ (execOp (Act.eval (Act.put (Act.put (Act.put (Act.put _ (some 73) (sv 13)) (some 72) (sv 12)) (some 71) (sv 11)) (some 70) (sv 10))) _) _)
                        try simp only [Act.put, List.setIfInBounds_toArray, List.set_cons_succ, List.set_cons_zero]
                        simp [go_sem, quietTo, Ext.refl, ↓IntWalk.iteOmega, f13, y2]
                        all_goals try simp (disch := omega) only [IntWalk.i64_in]
                        all_goals first
                          | rfl
                      refine fac_quiet 15 rfl rfl rfl (fun _ _ h _ => h) rfl rfl ?_
                      apply Exists.intro
                      refine ⟨fun sv w' hw' hfa => ?_, ?_⟩
                      · obtain ⟨_, _, _, f9, _, _, _, _, f14, -⟩ := hfa
                        replace f9 : sv 9 = _ := f9
                        try dsimp only at f9
                        replace f14 : sv 14 = _ := f14
                        try dsimp only at f14
                        have hk9 := (Ext.refl w2).drew.trans hw'; have y9 := (hB4.ext hk9); have y1 := rowI_cell y9 (arrL_at (acc := ai) (m := m) hll); have y2 := rowI_cell y9 (arrL_low (acc := ai) (m := m) hua); obtain ⟨yx, -⟩ := (hX4.ext hk9).walk; obtain ⟨yb, -⟩ := (hY4.ext hk9).walk; obtain ⟨z1, -⟩ := (hZ4.ext hk9).walk
                        refine ⟨rfl, ?_⟩
                        simp only [putsL]
                        change quietTo _ _ _ _ (Sem.run _ (execOp (Act.eval (Act.put (Act.put (Act.put (Act.put (Act.put (Act.put (Act.put (Act.put (Act.put _ (some 74) (sv 14)) (some 73) (sv 13)) (some 72) (sv 12)) (some 71) (sv 11)) (some 70) (sv 10)) (some 69) (sv 9)) (some 68) (sv 8)) (some 67) (sv 7)) (some 66) (sv 6))) _) _)
                        try simp only [Act.put, List.setIfInBounds_toArray, List.set_cons_succ, List.set_cons_zero]
                        simp [go_sem, quietTo, Ext.refl, ↓IntWalk.iteOmega, f9, f14, hwr1]
                        all_goals try simp (disch := omega) only [IntWalk.i64_in]
                        all_goals first
                          | rfl
                      refine fac_quiet 16 rfl rfl rfl (fun _ _ h _ => h) rfl rfl ?_
                      apply Exists.intro
                      refine ⟨fun sv w' hw' hfa => ?_, ?_⟩
                      · refine ⟨rfl, ?_⟩
                        simp only [putsL]
                        change quietTo _ _ _ _ (Sem.run _ (execOp (Act.eval _) _) _)
                        try simp only [Act.put, List.setIfInBounds_toArray, List.set_cons_succ, List.set_cons_zero]
                        simp [go_sem, quietTo, Ext.refl]
                        all_goals first
                          | rfl
                      refine fac_quiet 17 rfl rfl rfl (fun _ _ h _ => h) rfl rfl ?_
                      apply Exists.intro
                      refine ⟨fun sv w' hw' hfa => ?_, ?_⟩
                      · have hk9 := (Ext.refl w2).drew.trans hw'; have y9 := (hB4.ext hk9); have y1 := rowI_cell y9 (arrL_at (acc := ai) (m := m) hll); have y2 := rowI_cell y9 (arrL_low (acc := ai) (m := m) hua); obtain ⟨yx, -⟩ := (hX4.ext hk9).walk; obtain ⟨yb, -⟩ := (hY4.ext hk9).walk; obtain ⟨z1, -⟩ := (hZ4.ext hk9).walk
                        refine ⟨rfl, ?_⟩
                        simp only [putsL]
                        change quietTo _ _ _ _ (Sem.run _ (execOp (Act.eval _) _) _)
                        try simp only [Act.put, List.setIfInBounds_toArray, List.set_cons_succ, List.set_cons_zero]
                        simp [go_sem, quietTo, Ext.refl, ↓IntWalk.iteOmega, yx]
                        all_goals try simp (disch := omega) only [IntWalk.i64_in]
                        all_goals first
                          | rfl
                      refine fac_quiet 18 rfl rfl rfl (fun _ _ h _ => h) rfl rfl ?_
                      apply Exists.intro
                      refine ⟨fun sv w' hw' hfa => ?_, ?_⟩
                      · have hk9 := (Ext.refl w2).drew.trans hw'; have y9 := (hB4.ext hk9); have y1 := rowI_cell y9 (arrL_at (acc := ai) (m := m) hll); have y2 := rowI_cell y9 (arrL_low (acc := ai) (m := m) hua); obtain ⟨yx, -⟩ := (hX4.ext hk9).walk; obtain ⟨yb, -⟩ := (hY4.ext hk9).walk; obtain ⟨z1, -⟩ := (hZ4.ext hk9).walk
                        refine ⟨rfl, ?_⟩
                        simp only [putsL]
                        change quietTo _ _ _ _ (Sem.run _ (execOp (Act.eval _) _) _)
                        try simp only [Act.put, List.setIfInBounds_toArray, List.set_cons_succ, List.set_cons_zero]
                        simp [go_sem, quietTo, Ext.refl, ↓IntWalk.iteOmega, yb]
                        all_goals try simp (disch := omega) only [IntWalk.i64_in]
                        all_goals first
                          | rfl
                      refine fac_quiet 19 rfl rfl rfl (fun _ _ h _ => h) rfl rfl ?_
                      apply Exists.intro
                      refine ⟨fun sv w' hw' hfa => ?_, ?_⟩
                      · obtain ⟨f16, f17, f18, -⟩ := hfa
                        replace f16 : sv 16 = _ := f16
                        try dsimp only at f16
                        replace f17 : sv 17 = _ := f17
                        try dsimp only at f17
                        replace f18 : sv 18 = _ := f18
                        try dsimp only at f18
                        have hk9 := (Ext.refl w2).drew.trans hw'; have y9 := (hB4.ext hk9); have y1 := rowI_cell y9 (arrL_at (acc := ai) (m := m) hll); have y2 := rowI_cell y9 (arrL_low (acc := ai) (m := m) hua); obtain ⟨yx, -⟩ := (hX4.ext hk9).walk; obtain ⟨yb, -⟩ := (hY4.ext hk9).walk; obtain ⟨z1, -⟩ := (hZ4.ext hk9).walk
                        refine ⟨rfl, ?_⟩
                        simp only [putsL]
                        change quietTo _ _ _ _ (Sem.run _ (execOp (Act.eval (Act.put (Act.put (Act.put _ (some 78) (sv 18)) (some 77) (sv 17)) (some 76) (sv 16))) _) _)
                        try simp only [Act.put, List.setIfInBounds_toArray, List.set_cons_succ, List.set_cons_zero]
                        simp [go_sem, quietTo, Ext.refl, ↓IntWalk.iteOmega, f16, f17, f18]
                        all_goals try simp (disch := omega) only [IntWalk.i64_in]
                        all_goals first
                          | rfl
                          | (exact ht2.out _ (hE0.trans (hE4.trans hk9)))
                      refine fac_quiet 20 rfl rfl rfl (fun _ _ h _ => h) rfl rfl ?_
                      apply Exists.intro
                      refine ⟨fun sv w' hw' hfa => ?_, ?_⟩
                      · obtain ⟨_, _, _, _, _, _, _, _, _, f15, _, _, _, f19, -⟩ := hfa
                        replace f15 : sv 15 = _ := f15
                        try dsimp only at f15
                        replace f19 : sv 19 = _ := f19
                        try dsimp only at f19
                        have hk9 := (Ext.refl w2).drew.trans hw'; have y9 := (hB4.ext hk9); have y1 := rowI_cell y9 (arrL_at (acc := ai) (m := m) hll); have y2 := rowI_cell y9 (arrL_low (acc := ai) (m := m) hua); obtain ⟨yx, -⟩ := (hX4.ext hk9).walk; obtain ⟨yb, -⟩ := (hY4.ext hk9).walk; obtain ⟨z1, -⟩ := (hZ4.ext hk9).walk
                        refine ⟨rfl, ?_⟩
                        simp only [putsL]
                        change quietTo _ _ _ _ (Sem.run _ (execOp (Act.eval (Act.put (Act.put (Act.put (Act.put (Act.put (Act.put (Act.put (Act.put (Act.put (Act.put (Act.put (Act.put (Act.put (Act.put _ (some 79) (sv 19)) (some 78) (sv 18)) (some 77) (sv 17)) (some 76) (sv 16)) (some 75) (sv 15)) (some 74) (sv 14)) (some 73) (sv 13)) (some 72) (sv 12)) (some 71) (sv 11)) (some 70) (sv 10)) (some 69) (sv 9)) (some 68) (sv 8)) (some 67) (sv 7)) (some 66) (sv 6))) _) _)
                        try simp only [Act.put, List.setIfInBounds_toArray, List.set_cons_succ, List.set_cons_zero]
                        simp [go_sem, quietTo, Ext.refl, ↓IntWalk.iteOmega, f15, f19, hwr2]
                        all_goals try simp (disch := omega) only [IntWalk.i64_in]
                        all_goals first
                          | rfl
                      refine fac_quiet 21 rfl rfl rfl (fun _ _ h _ => h) rfl rfl ?_
                      apply Exists.intro
                      refine ⟨fun sv w' hw' hfa => ?_, ?_⟩
                      · obtain ⟨_, _, _, _, _, _, _, _, _, _, _, _, _, _, f20, -⟩ := hfa
                        replace f20 : sv 20 = _ := f20
                        try dsimp only at f20
                        have hk9 := (Ext.refl w2).drew.trans hw'; have y9 := (hB4.ext hk9); have y1 := rowI_cell y9 (arrL_at (acc := ai) (m := m) hll); have y2 := rowI_cell y9 (arrL_low (acc := ai) (m := m) hua); obtain ⟨yx, -⟩ := (hX4.ext hk9).walk; obtain ⟨yb, -⟩ := (hY4.ext hk9).walk; obtain ⟨z1, -⟩ := (hZ4.ext hk9).walk
                        refine ⟨rfl, ?_⟩
                        simp only [putsL]
                        change quietTo _ _ _ _ (Sem.run _ (execOp (Act.eval (Act.put (Act.put (Act.put (Act.put (Act.put (Act.put (Act.put (Act.put (Act.put (Act.put (Act.put (Act.put (Act.put (Act.put (Act.put _ (some 80) (sv 20)) (some 79) (sv 19)) (some 78) (sv 18)) (some 77) (sv 17)) (some 76) (sv 16)) (some 75) (sv 15)) (some 74) (sv 14)) (some 73) (sv 13)) (some 72) (sv 12)) (some 71) (sv 11)) (some 70) (sv 10)) (some 69) (sv 9)) (some 68) (sv 8)) (some 67) (sv 7)) (some 66) (sv 6))) _) _)
                        try simp only [Act.put, List.setIfInBounds_toArray, List.set_cons_succ, List.set_cons_zero]
                        simp [go_sem, quietTo, Ext.refl, ↓IntWalk.iteOmega, f20, hwr3]
                        all_goals try simp (disch := omega) only [IntWalk.i64_in]
                        all_goals first
                          | rfl
                      refine fac_quiet 22 rfl rfl rfl (fun _ _ h _ => h) rfl rfl ?_
                      apply Exists.intro
                      refine ⟨fun sv w' hw' hfa => ?_, ?_⟩
                      · obtain ⟨_, _, _, f5, _, _, _, _, _, _, _, _, _, _, _, _, _, _, _, f21, -⟩ := hfa
                        replace f5 : sv 5 = _ := f5
                        try dsimp only at f5
                        replace f21 : sv 21 = _ := f21
                        try dsimp only at f21
                        refine ⟨rfl, ?_⟩
                        simp only [putsL]
                        change quietTo _ _ _ _ (Sem.run _ (execOp (Act.eval (Act.put (Act.put (Act.put (Act.put (Act.put (Act.put (Act.put (Act.put (Act.put (Act.put (Act.put (Act.put (Act.put (Act.put (Act.put (Act.put (Act.put (Act.put (Act.put (Act.put _ (some 81) (sv 21)) (some 80) (sv 20)) (some 79) (sv 19)) (some 78) (sv 18)) (some 77) (sv 17)) (some 76) (sv 16)) (some 75) (sv 15)) (some 74) (sv 14)) (some 73) (sv 13)) (some 72) (sv 12)) (some 71) (sv 11)) (some 70) (sv 10)) (some 69) (sv 9)) (some 68) (sv 8)) (some 67) (sv 7)) (some 66) (sv 6)) (some 65) (sv 5)) (some 64) (sv 4)) (some 63) (sv 3)) (some 62) (sv 2))) _) _)
                        try simp only [Act.put, List.setIfInBounds_toArray, List.set_cons_succ, List.set_cons_zero]
                        simp [go_sem, quietTo, Ext.refl, ↓IntWalk.iteOmega, f5, f21]
                        all_goals try simp (disch := omega) only [IntWalk.i64_in]
                        all_goals first
                          | rfl
                      refine fac_nil fun xq wrq herq hfrq hcrq holdq hapq => ?_
                      obtain ⟨f0, f1, f2, f3, f4, f5, f6, f7, f8, f9, f10, f11, f12, f13, f14, f15, f16, f17, f18, f19, f20, f21, f22, -⟩ := hfrq
                      replace f0 : xq 0 = _ := f0
                      try dsimp only at f0
                      replace f1 : xq 1 = _ := f1
                      try dsimp only at f1
                      replace f2 : xq 2 = _ := f2
                      try dsimp only at f2
                      replace f3 : xq 3 = _ := f3
                      try dsimp only at f3
                      replace f4 : xq 4 = _ := f4
                      try dsimp only at f4
                      replace f5 : xq 5 = _ := f5
                      try dsimp only at f5
                      replace f6 : xq 6 = _ := f6
                      try dsimp only at f6
                      replace f7 : xq 7 = _ := f7
                      try dsimp only at f7
                      replace f8 : xq 8 = _ := f8
                      try dsimp only at f8
                      replace f9 : xq 9 = _ := f9
                      try dsimp only at f9
                      replace f10 : xq 10 = _ := f10
                      try dsimp only at f10
                      replace f11 : xq 11 = _ := f11
                      try dsimp only at f11
                      replace f12 : xq 12 = _ := f12
                      try dsimp only at f12
                      replace f13 : xq 13 = _ := f13
                      try dsimp only at f13
                      replace f14 : xq 14 = _ := f14
                      try dsimp only at f14
                      replace f15 : xq 15 = _ := f15
                      try dsimp only at f15
                      replace f16 : xq 16 = _ := f16
                      try dsimp only at f16
                      replace f17 : xq 17 = _ := f17
                      try dsimp only at f17
                      replace f18 : xq 18 = _ := f18
                      try dsimp only at f18
                      replace f19 : xq 19 = _ := f19
                      try dsimp only at f19
                      replace f20 : xq 20 = _ := f20
                      try dsimp only at f20
                      replace f21 : xq 21 = _ := f21
                      try dsimp only at f21
                      replace f22 : xq 22 = _ := f22
                      try dsimp only at f22
                      change wpList _ _ _ _ (Act.put (Act.put (Act.put (Act.put (Act.put (Act.put (Act.put (Act.put (Act.put (Act.put (Act.put (Act.put (Act.put (Act.put (Act.put (Act.put (Act.put (Act.put (Act.put (Act.put (Act.put (Act.put (Act.put _ (some 60) (xq 0)) (some 61) (xq 1)) (some 62) (xq 2)) (some 63) (xq 3)) (some 64) (xq 4)) (some 65) (xq 5)) (some 66) (xq 6)) (some 67) (xq 7)) (some 68) (xq 8)) (some 69) (xq 9)) (some 70) (xq 10)) (some 71) (xq 11)) (some 72) (xq 12)) (some 73) (xq 13)) (some 74) (xq 14)) (some 75) (xq 15)) (some 76) (xq 16)) (some 77) (xq 17)) (some 78) (xq 18)) (some 79) (xq 19)) (some 80) (xq 20)) (some 81) (xq 21)) (some 82) (xq 22)) _
                      simp only [putsL, Nat.reduceAdd, List.drop_succ_cons, List.drop_zero, List.drop_nil, Act.put, List.setIfInBounds_toArray, List.set_cons_succ, List.set_cons_zero]
                      try simp only [f0, f1, f2, f3, f4, f5, f6, f7, f8, f9, f10, f11, f12, f13, f14, f15, f16, f17, f18, f19, f20, f21, f22]
                      clear f0 f1 f2 f3 f4 f5 f6 f7 f8 f9 f10 f11 f12 f13 f14 f15 f16 f17 f18 f19 f20 f21 f22
                      clear holdq hapq
                      have hkq := (Ext.refl w2).drew.trans herq
                      have hBq := hB4.ext hkq
                      have hcq := rowI_cell hBq (arrL_at (acc := ai) (m := m) hll)
                      have hfq := hBq.frozen
                      have hYq := (hY4.ext hkq).far (p := ⟨og, r, none⟩) (Ne.symm hog2) (.int .i64 (max ai (ta + ua - tb + 1)))
                      go_wp2
                      have hset := rowI_set hBq r (max ai (ta + ua - tb + 1))
                      rw [arrL_set hll] at hset
                      go_roundw
                      case rel => exact ⟨i + 1, by go_num, by omega, by rw [hnx2.out]; exact hset, (hE4.trans hkq).setCell (by simp only [hs0]; exact Nat.le_refl _) _, by rw [hnx2.out]; exact hbn.out, hYq⟩
                      case measure => simp [intOf]; omega
                  · rw [decide_eq_false har] at hnx2
                    simp only [Bool.false_and, Bool.and_false, Bool.false_eq_true, if_false] at hnx2
                    replace hnx2 := Lib.hid hnx2
                    clear hnr
                    go_wp2
                    go_roundw
                    case rel => exact ⟨i + 1, by go_num, by omega, by rw [hnx2.out]; exact hB3, hE3, by rw [hnx2.out]; exact hbi, hY3⟩
                    case measure => simp [intOf]; omega
                · rw [decide_eq_false hbr] at hnx2
                  simp only [Bool.false_and, Bool.false_eq_true, if_false] at hnx2
                  replace hnx2 := Lib.hid hnx2
                  clear hnr
                  go_wp2
                  go_roundw
                  case rel => exact ⟨i + 1, by go_num, by omega, by rw [hnx2.out]; exact hB3, hE3, by rw [hnx2.out]; exact hbi, hY3⟩
                  case measure => simp [intOf]; omega
              · obtain rfl : i = S.length := by omega
                rw [accI_all, ← hnx.out] at hB hbi
                replace hB := Lib.hid hB
                go_wp2
                go_roundw
                case rel => exact ⟨k + 1, by go_num, by omega, hB.out, hE, hbi.1, hbi.2⟩
                case measure => simp [intOf]; omega
          · obtain rfl : k = S.length := by omega
            rw [accK_all] at hB hb0 hb1'
            have hfin := harr2.out (liftR P wide high (liftL P wide high S r) r S v0)
            rw [← hfin, ← hsuc.out] at hB
            replace hB := Lib.hid hB
            replace hfin := Lib.hid hfin
            go_wp2
            go_roundw
            case rel =>
              refine ⟨r + 1, by go_num, hlt, hB.out, hE, fun v hv => ?_⟩
              rw [hsuc.out] at hv
              rcases List.mem_append.1 hv with h | h
              · have := hbd.out v h
                omega
              · rw [List.mem_singleton] at h
                subst h
                exact ⟨hb0, by omega⟩
            case measure => simp [intOf]; omega
    · obtain rfl : r = wide.length := by omega
      have hrI : ¬ ((wide.length : Nat) : Int) < wide.length := by omega
      rw [Nat.sub_self, List.replicate_zero, List.append_nil] at hB
      replace hB := Lib.hid hB
      replace hbd := Lib.hid hbd
      go_wp2
      go_ret
      exact ⟨_, rfl, hB.out, hE0.trans hE⟩
end Go.Proofs.YtfmkmnnmckbljaaGreatDoor
