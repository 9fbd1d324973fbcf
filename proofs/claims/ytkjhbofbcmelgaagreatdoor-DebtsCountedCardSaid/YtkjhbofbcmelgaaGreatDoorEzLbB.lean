/- What is wrong with titles, by both texts: the walks; a title by its piece. Conditions: sizes. -/
import Derived.Test.YtkjhbofbcmelgaaGreatDoorEzJ14
import Derived.Test.YtkjhbofbcmelgaaGreatDoorEzJ3
set_option linter.unusedSimpArgs false
set_option linter.unusedVariables false
namespace Go.Proofs.YtkjhbofbcmelgaaGreatDoor
open Go Go.RowKit
set_option maxRecDepth 100000 in
set_option maxHeartbeats 1600000 in
theorem checkTitles_any (p : Option Addr) (n c : Nat) (xs : List TitleV) (w : World) (h : Sl 3 titleC w p n xs) (hs : ∀ x ∈ xs, x.Small) (hn : n ≤ 1000) :
 Calls Tryz.prog 116 #[.slice p n c] w fun e w' => e = .returned (.int .i64 (titlesF xs)) ∧ Ext w w' := by
 have hl := h.1
 have hF : titlesF xs = if 300 < n then 2 else scanF n (chkTi xs) := by unfold titlesF; rw [hl]
 replace hF := Lib.hid hF
 by_cases h12 : 300 < n
 ·clear h hl hs
  go_enter Tryz.func116, Tryz.ntmps116
  go_wp2
  go_ret
  exact ⟨ret_int (by rw [hF.out, if_pos h12]), Ext.refl _⟩
 by_cases h0 : n = 0
 ·subst h0
  clear h hs
  go_enter Tryz.func116, Tryz.ntmps116
  go_wp2
  refine wp_loop_rounds 1 ?_
  rw [rounds_succ]
  go_wp2
  go_ret
  exact ⟨ret_int (by rw [hF.out]; rfl), Ext.refl _⟩
 ·obtain ⟨b, off, rfl, hb, hE⟩ := h.2.2 h0
  clear h; replace hl := Lib.hid hl; replace h0 := Lib.hid h0
  have hd : decide (300 < (n : Int)) = false := by simp; omega
  go_enter Tryz.func116, Tryz.ntmps116
  go_wp2
  go_loopw [10] (fun i w' => ∃ k : Nat, k ≤ n ∧ i = .int .i64 k ∧ Zeros (chkTi xs) k ∧ Ext w w') (fun i _ => n - (intOf i).toNat)
  case atStart => exact ⟨0, Nat.zero_le _, rfl, (fun j hj => by omega), Ext.refl _⟩
  case round =>
   obtain ⟨k, hk, rfl, hz, he⟩ := hrel
   have hbw := Nat.lt_of_lt_of_le hb he.size
   by_cases hlt : k < n
   ·obtain ⟨x, hx⟩ := getD_some hl.out hlt
    obtain ⟨s1, s3, s4, s5, s6⟩ := hs x (List.mem_of_getElem? hx)
    obtain ⟨c0, c1, c2⟩ := (hE.ext he hb).title hx
    have hv : chkTi xs k = if keyB x.piece then (if (inB x.owned 1 500 && inB x.cost 0 10000) = true then (if 0 < k && leB x.piece (atL default xs (k - 1)).piece then 7 else 0) else 1) else 5 := by
     unfold chkTi; rw [atL_of hx]
    have hprev : ∀ j y, k = j + 1 → xs[j]? = some y → wr.cell? ⟨b, off + j * 3, none⟩ = some (.string y.piece) := fun j y _ hy => ((hE.ext he hb).title hy).1
    replace hx := Lib.hid hx; replace hv := Lib.hid hv; replace hprev := Lib.hid hprev
    have hX := Blk.new' (w := wr) (t := 97) (cs := #[.string x.piece, .int .i64 x.owned, .int .i64 x.cost]) rfl
    replace hX := Lib.hid hX; replace hs := Lib.hid hs
    cases hk1 : keyB x.piece
    ·go_wp2_with (go_at_call 132; (with_reducible refine Calls.mono (isKey_is hk1 (by omega) _) ?_); rintro e w1 ⟨rfl, hb1⟩; obtain ⟨p1, q1⟩ := (hX.out.ext hb1).walk; have lt1 := (hX.out.ext hb1).lt)
     go_ret
     exact ⟨ret_int (by rw [hF.out, if_neg h12]; exact scan_is hz hlt (by rw [hv.out, hk1]; rfl) (by decide)), (he.alloc _).trans hb1⟩
    have hk4 : ∃ v, (inB x.owned 1 500 && inB x.cost 0 10000) = v := ⟨_, rfl⟩
    obtain ⟨v4, hk4⟩ := hk4
    have ho1 := fun u => sOut_is (show outB x.owned 1 500 = !inB x.owned 1 500 from outB_inB _ _ _) u
    have ho2 := fun u => sOut_is (show outB x.cost 0 10000 = !inB x.cost 0 10000 from outB_inB _ _ _) u
    cases hq1 : inB x.owned 1 500
    all_goals cases hq2 : inB x.cost 0 10000
    all_goals
     rw [hq1, hq2] at hk4
     rw [hq1] at ho1
     rw [hq2] at ho2
     replace ho1 := Lib.hid ho1; replace ho2 := Lib.hid ho2
     simp only [Bool.and_true, Bool.and_false, Bool.false_and, Bool.true_and] at hk4
     subst hk4
    iterate 3
     (go_wp2_with (first
       | (go_at_call 132; (with_reducible refine Calls.mono (isKey_is hk1 (by omega) _) ?_); rintro e w1 ⟨rfl, hb1⟩; obtain ⟨p1, q1⟩ := (hX.out.ext hb1).walk; have lt1 := (hX.out.ext hb1).lt)
       | (go_at_call 159; (with_reducible refine Calls.mono (ho1.out _) ?_); rintro e w4 ⟨rfl, rfl⟩)
       | (go_at_call 159; (with_reducible refine Calls.mono (ho2.out _) ?_); rintro e w4 ⟨rfl, rfl⟩))
      go_ret
      exact ⟨ret_int (by rw [hF.out, if_neg h12]; exact scan_is hz hlt (by rw [hv.out, hk1, hq1, hq2]; rfl) (by decide)), (he.alloc _).trans hb1⟩)
    go_upto_region 10 with (first
     | (go_at_call 132; (with_reducible refine Calls.mono (isKey_is hk1 (by omega) _) ?_); rintro e w1 ⟨rfl, hb1⟩; obtain ⟨p1, q1⟩ := (hX.out.ext hb1).walk; have lt1 := (hX.out.ext hb1).lt)
     | (go_at_call 159; (with_reducible refine Calls.mono (ho1.out _) ?_); rintro e w4 ⟨rfl, rfl⟩)
     | (go_at_call 159; (with_reducible refine Calls.mono (ho2.out _) ?_); rintro e w4 ⟨rfl, rfl⟩))
    have hX2 := hX.out.ext hb1
    have he2 : Ext w w1 := (he.alloc _).trans hb1
    have hbk : Ext wr w1 := ((Ext.refl wr).alloc _).trans hb1
    rcases Nat.eq_zero_or_pos k with hk0 | hk0
    ·subst hk0
     have hz0 : ((0 : Nat) : Int) = 0 := rfl
     refine wp_region_facts [] [([],false,false),([0],false,false),([0,1],false,false),([0,1,2],false,false),([0,1,2,3],false,false),([0,1,2],false,false),([0,1,2],false,false),([0,1,2,6],false,false),([0,1,2,5,6,7],false,false),([0,1,2,5,6,7,8],false,false),([0,1,2,5,6,7,8,9],false,false),([0,1,2,3,4,5,6,7,8,9,10],false,false),([0,1,2,3,4,5,6,7,8,9,10,11],false,false),([0,1,2,3,4,5,6,7,8,9,10,11,12],false,false)] (Ext) Ext (fun _ => True) (by kernel_rfl) (by kernel_rfl) Ext.refl (fun _ _ _ => Ext.trans) (fun _ _ h => h) (fun _ _ h => h.size) (fun _ _ h _ => h) trivial ?_
     dsimp only [List.length_cons, List.length_nil, List.drop_succ_cons, List.drop_zero, List.drop_nil]
     refine fq 0 rfl rfl rfl cK rfl rfl ?_; apply Exists.intro; constructor
     ·intro sv w' hw' hfa
      refine ⟨rfl, ?_⟩; simp only [putsL]; change qT _; simp only [qT, Act.put, sIA, sCS, sCZ]; simp [go_sem, quietTo, Ext.refl]; all_goals rfl
     refine fq 1 rfl rfl rfl cK rfl rfl ?_; apply Exists.intro; constructor
     ·rintro sv w' hw' ⟨(f0 : sv 0 = _), -⟩; (try dsimp only at f0)
      refine ⟨rfl, ?_⟩; simp only [putsL]; change qT (pT _ 30 (sv 0)); simp only [qT, pT, Act.put, sIA, sCS, sCZ]; simp [go_sem, quietTo, Ext.refl, ↓IntWalk.iteOmega, f0, hz0]; (all_goals try simp (disch := omega) only [IntWalk.i64_in]); all_goals rfl
     refine fq 2 rfl rfl rfl cK rfl rfl ?_; apply Exists.intro; constructor
     ·rintro sv w' hw' ⟨_, (f1 : sv 1 = _), -⟩; (try dsimp only at f1)
      refine ⟨rfl, ?_⟩; simp only [putsL]; change qT (pT (pT _ 31 (sv 1)) 30 (sv 0)); simp only [qT, pT, Act.put, sIA, sCS, sCZ]; simp [go_sem, quietTo, Ext.refl, f1]; all_goals rfl
     refine fac_skip 3 rfl rfl rfl cK Ext.refl ?_ ?_
     ·intro sv w' hw' hfa
      obtain ⟨(f0 : sv 0 = _), (f1 : sv 1 = _), (f2 : sv 2 = _), -⟩ := hfa; (try dsimp only at f0 f1 f2)
      simp [Region.wanted, yielded, putsL, Act.put, f2]
     refine fac_skip 4 rfl rfl rfl cK Ext.refl ?_ ?_
     ·intro sv w' hw' hfa
      obtain ⟨(f0 : sv 0 = _), (f1 : sv 1 = _), (f2 : sv 2 = _), (f3 : sv 3 = _), -⟩ := hfa; (try dsimp only at f0 f1 f2 f3)
      simp [Region.wanted, yielded, putsL, Act.put, f2, f3]
     refine fac_skip 5 rfl rfl rfl cK Ext.refl ?_ ?_
     ·intro sv w' hw' hfa
      obtain ⟨(f0 : sv 0 = _), (f1 : sv 1 = _), (f2 : sv 2 = _), -⟩ := hfa; (try dsimp only at f0 f1 f2)
      simp [Region.wanted, yielded, putsL, Act.put, f2]
     refine fac_skip 6 rfl rfl rfl cK Ext.refl ?_ ?_
     ·intro sv w' hw' hfa
      obtain ⟨(f0 : sv 0 = _), (f1 : sv 1 = _), (f2 : sv 2 = _), -⟩ := hfa; (try dsimp only at f0 f1 f2)
      simp [Region.wanted, yielded, putsL, Act.put, f2]
     refine fac_skip 7 rfl rfl rfl cK Ext.refl ?_ ?_
     ·intro sv w' hw' hfa
      obtain ⟨(f0 : sv 0 = _), (f1 : sv 1 = _), (f2 : sv 2 = _), (f6 : sv 6 = _), -⟩ := hfa; (try dsimp only at f0 f1 f2 f6)
      simp [Region.wanted, yielded, putsL, Act.put, f2, f6]
     refine fac_skip 8 rfl rfl rfl cK Ext.refl ?_ ?_
     ·intro sv w' hw' hfa
      obtain ⟨(f0 : sv 0 = _), (f1 : sv 1 = _), (f2 : sv 2 = _), (f5 : sv 5 = _), (f6 : sv 6 = _), (f7 : sv 7 = _), -⟩ := hfa; (try dsimp only at f0 f1 f2 f5 f6 f7)
      simp [Region.wanted, yielded, putsL, Act.put, f2, f5, f7]
     refine fac_skip 9 rfl rfl rfl cK Ext.refl ?_ ?_
     ·intro sv w' hw' hfa
      obtain ⟨(f0 : sv 0 = _), (f1 : sv 1 = _), (f2 : sv 2 = _), (f5 : sv 5 = _), (f6 : sv 6 = _), (f7 : sv 7 = _), (f8 : sv 8 = _), -⟩ := hfa; (try dsimp only at f0 f1 f2 f5 f6 f7 f8)
      simp [Region.wanted, yielded, putsL, Act.put, f2, f8]
     refine fac_skip 10 rfl rfl rfl cK Ext.refl ?_ ?_
     ·intro sv w' hw' hfa
      obtain ⟨(f0 : sv 0 = _), (f1 : sv 1 = _), (f2 : sv 2 = _), (f5 : sv 5 = _), (f6 : sv 6 = _), (f7 : sv 7 = _), (f8 : sv 8 = _), (f9 : sv 9 = _), -⟩ := hfa; (try dsimp only at f0 f1 f2 f5 f6 f7 f8 f9)
      simp [Region.wanted, yielded, putsL, Act.put, f2, f9]
     refine fac_skip 11 rfl rfl rfl cK Ext.refl ?_ ?_
     ·intro sv w' hw' hfa
      obtain ⟨(f0 : sv 0 = _), (f1 : sv 1 = _), (f2 : sv 2 = _), (f3 : sv 3 = _), (f4 : sv 4 = _), (f5 : sv 5 = _), (f6 : sv 6 = _), (f7 : sv 7 = _), (f8 : sv 8 = _), (f9 : sv 9 = _), (f10 : sv 10 = _), -⟩ := hfa; (try dsimp only at f0 f1 f2 f3 f4 f5 f6 f7 f8 f9 f10)
      simp [Region.wanted, yielded, putsL, Act.put, f2, f4, f10]
     refine fq 12 rfl rfl rfl cK rfl rfl ?_; apply Exists.intro; constructor
     ·rintro sv w' hw' ⟨_, _, (f2 : sv 2 = _), _, _, _, _, _, _, _, _, (f11 : sv 11 = _), -⟩; (try dsimp only at f2 f11)
      refine ⟨rfl, ?_⟩; simp only [putsL]; change qT (pT (pT (pT (pT (pT (pT (pT (pT (pT (pT (pT (pT _ 41 (sv 11)) 40 (sv 10)) 39 (sv 9)) 38 (sv 8)) 37 (sv 7)) 36 (sv 6)) 35 (sv 5)) 34 (sv 4)) 33 (sv 3)) 32 (sv 2)) 31 (sv 1)) 30 (sv 0)); simp only [qT, pT, Act.put, sIA, sCS, sCZ]; simp [go_sem, quietTo, Ext.refl, ↓IntWalk.iteOmega, f2, f11, hz0]; (all_goals try simp (disch := omega) only [IntWalk.i64_in]); all_goals rfl
     refine fq 13 rfl rfl rfl cK rfl rfl ?_; apply Exists.intro; constructor
     ·rintro sv w' hw' ⟨_, _, _, _, _, _, _, _, _, _, _, _, (f12 : sv 12 = _), -⟩; (try dsimp only at f12)
      refine ⟨rfl, ?_⟩; simp only [putsL]; change qT (pT (pT (pT (pT (pT (pT (pT (pT (pT (pT (pT (pT (pT _ 42 (sv 12)) 41 (sv 11)) 40 (sv 10)) 39 (sv 9)) 38 (sv 8)) 37 (sv 7)) 36 (sv 6)) 35 (sv 5)) 34 (sv 4)) 33 (sv 3)) 32 (sv 2)) 31 (sv 1)) 30 (sv 0)); simp only [qT, pT, Act.put, sIA, sCS, sCZ]; simp [go_sem, quietTo, Ext.refl, f12]; all_goals rfl
     refine fac_nil fun xa wra hera hfra hcra holda hapa => ?_
     obtain ⟨(f0 : xa 0 = _), (f1 : xa 1 = _), (f2 : xa 2 = _), (f3 : xa 3 = _), (f4 : xa 4 = _), (f5 : xa 5 = _), (f6 : xa 6 = _), (f7 : xa 7 = _), (f8 : xa 8 = _), (f9 : xa 9 = _), (f10 : xa 10 = _), (f11 : xa 11 = _), (f12 : xa 12 = _), (f13 : xa 13 = _), -⟩ := hfra; (try dsimp only at f0 f1 f2 f3 f4 f5 f6 f7 f8 f9 f10 f11 f12 f13)
     change wpList _ _ _ _ (pT (pT (pT (pT (pT (pT (pT (pT (pT (pT (pT (pT (pT (pT _ 30 (xa 0)) 31 (xa 1)) 32 (xa 2)) 33 (xa 3)) 34 (xa 4)) 35 (xa 5)) 36 (xa 6)) 37 (xa 7)) 38 (xa 8)) 39 (xa 9)) 40 (xa 10)) 41 (xa 11)) 42 (xa 12)) 29 (xa 13)) _
     simp only [putsL, Nat.reduceAdd, List.drop_succ_cons, List.drop_zero, List.drop_nil, pT, Act.put, sIA, sCS, sCZ]
     try simp only [f0, f1, f2, f3, f4, f5, f6, f7, f8, f9, f10, f11, f12, f13]
     clear f0 f1 f2 f3 f4 f5 f6 f7 f8 f9 f10 f11 f12 f13; clear holda hapa; clear p1 q1 hb1 hX hX2 hprev c0 c1
     go_wp2
     go_roundw
     case rel => exact ⟨1, by omega, rfl, hz.succ (by rw [hv.out, hk1, hq1, hq2]; rfl), he2.trans ((Ext.refl _).drew.trans hera)⟩
     case measure => simp [intOf]; omega
    ·obtain ⟨j, rfl⟩ : ∃ j, k = j + 1 := ⟨k - 1, by omega⟩
     obtain ⟨y, hy⟩ := getD_some hl.out (show j < n by omega)
     have d0 := hprev.out j y rfl hy
     have hat : atL default xs (j + 1 - 1) = y := by rw [Nat.add_sub_cancel]; exact atL_of hy
     rw [hat] at hv
     have hwj : IntKind.i64.wrap (j : Int) = j := IntWalk.i64_in _ (by omega)
     have hjl : (j : Int) < n := by omega
     have hj0 : 0 < (j : Int) + 1 := by omega
     clear hat hy hprev
     cases hlb : leB x.piece y.piece
     all_goals
      have hlc := hlb
      unfold leB at hlc
      refine wp_region_facts [] [([],false,false),([0],false,false),([0,1],false,false),([0,1,2],false,false),([0,1,2,3],false,false),([0,1,2],false,false),([0,1,2],false,false),([0,1,2,6],false,false),([0,1,2,5,6,7],false,false),([0,1,2,5,6,7,8],false,false),([0,1,2,5,6,7,8,9],false,false),([0,1,2,3,4,5,6,7,8,9,10],false,false),([0,1,2,3,4,5,6,7,8,9,10,11],false,false),([0,1,2,3,4,5,6,7,8,9,10,11,12],false,false)] (Ext) Ext (fun _ => True) (by kernel_rfl) (by kernel_rfl) Ext.refl (fun _ _ _ => Ext.trans) (fun _ _ h => h) (fun _ _ h => h.size) (fun _ _ h _ => h) trivial ?_
      dsimp only [List.length_cons, List.length_nil, List.drop_succ_cons, List.drop_zero, List.drop_nil]
      refine fq 0 rfl rfl rfl cK rfl rfl ?_; apply Exists.intro; constructor
      ·intro sv w' hw' hfa
       refine ⟨rfl, ?_⟩; simp only [putsL]; change qT _; simp only [qT, Act.put, sIA, sCS, sCZ]; simp [go_sem, quietTo, Ext.refl]; all_goals rfl
      refine fq 1 rfl rfl rfl cK rfl rfl ?_; apply Exists.intro; constructor
      ·rintro sv w' hw' ⟨(f0 : sv 0 = _), -⟩; (try dsimp only at f0)
       refine ⟨rfl, ?_⟩; simp only [putsL]; change qT (pT _ 30 (sv 0)); simp only [qT, pT, Act.put, sIA, sCS, sCZ]; simp [go_sem, quietTo, Ext.refl, ↓IntWalk.iteOmega, f0, hj0]; (all_goals try simp (disch := omega) only [IntWalk.i64_in]); all_goals rfl
      refine fq 2 rfl rfl rfl cK rfl rfl ?_; apply Exists.intro; constructor
      ·rintro sv w' hw' ⟨_, (f1 : sv 1 = _), -⟩; (try dsimp only at f1)
       refine ⟨rfl, ?_⟩; simp only [putsL]; change qT (pT (pT _ 31 (sv 1)) 30 (sv 0)); simp only [qT, pT, Act.put, sIA, sCS, sCZ]; simp [go_sem, quietTo, Ext.refl, f1]; all_goals rfl
      refine fq 3 rfl rfl rfl cK rfl rfl ?_; apply Exists.intro; constructor
      ·rintro sv w' hw' ⟨_, _, (f2 : sv 2 = _), -⟩; (try dsimp only at f2)
       refine ⟨by simp [Region.wanted, yielded, putsL, Act.put, f2], ?_⟩; simp only [putsL]; change qT (pT (pT (pT _ 32 (sv 2)) 31 (sv 1)) 30 (sv 0)); simp only [qT, pT, Act.put, sIA, sCS, sCZ]; simp [go_sem, quietTo, Ext.refl, f2]; all_goals rfl
      refine fq 4 rfl rfl rfl cK rfl rfl ?_; apply Exists.intro; constructor
      ·rintro sv w' hw' ⟨_, _, (f2 : sv 2 = _), (f3 : sv 3 = _), -⟩; (try dsimp only at f2 f3)
       obtain ⟨hc2, hf2, hz8⟩ := ((Ext.refl w1).drew.trans hw').walk; have x0 := (hc2 _ 0 hX2.lt).trans (hX2.cell 0)
       refine ⟨by simp [Region.wanted, yielded, putsL, Act.put, f2, f3], ?_⟩; simp only [putsL]; change qT (pT (pT (pT (pT _ 33 (sv 3)) 32 (sv 2)) 31 (sv 1)) 30 (sv 0)); simp only [qT, pT, Act.put, sIA, sCS, sCZ]; simp [go_sem, quietTo, Ext.refl, ↓IntWalk.iteOmega, f2, f3, x0]; (all_goals try simp (disch := omega) only [IntWalk.i64_in]); all_goals rfl
      refine fq 5 rfl rfl rfl cK rfl rfl ?_; apply Exists.intro; constructor
      ·rintro sv w' hw' ⟨_, _, (f2 : sv 2 = _), -⟩; (try dsimp only at f2)
       refine ⟨by simp [Region.wanted, yielded, putsL, Act.put, f2], ?_⟩; simp only [putsL]; change qT (pT (pT (pT _ 32 (sv 2)) 31 (sv 1)) 30 (sv 0)); simp only [qT, pT, Act.put, sIA, sCS, sCZ]; simp [go_sem, quietTo, Ext.refl, f2]; all_goals rfl
      refine fq 6 rfl rfl rfl cK rfl rfl ?_; apply Exists.intro; constructor
      ·rintro sv w' hw' ⟨_, _, (f2 : sv 2 = _), -⟩; (try dsimp only at f2)
       refine ⟨by simp [Region.wanted, yielded, putsL, Act.put, f2], ?_⟩; simp only [putsL]; change qT (pT (pT (pT _ 32 (sv 2)) 31 (sv 1)) 30 (sv 0)); simp only [qT, pT, Act.put, sIA, sCS, sCZ]; simp [go_sem, quietTo, Ext.refl, f2]; all_goals rfl
      refine fq 7 rfl rfl rfl cK rfl rfl ?_; apply Exists.intro; constructor
      ·rintro sv w' hw' ⟨_, _, (f2 : sv 2 = _), (f6 : sv 6 = _), -⟩; (try dsimp only at f2 f6)
       refine ⟨by simp [Region.wanted, yielded, putsL, Act.put, f2, f6], ?_⟩; simp only [putsL]; change qT (pT (pT (pT (pT _ 36 (sv 6)) 32 (sv 2)) 31 (sv 1)) 30 (sv 0)); simp only [qT, pT, Act.put, sIA, sCS, sCZ]; simp [go_sem, quietTo, Ext.refl, ↓IntWalk.iteOmega, f2, f6, hwj]; (all_goals try simp (disch := omega) only [IntWalk.i64_in]); all_goals rfl
      refine fq 8 rfl rfl rfl cK rfl rfl ?_; apply Exists.intro; constructor
      ·rintro sv w' hw' ⟨_, _, (f2 : sv 2 = _), (f5 : sv 5 = _), _, (f7 : sv 7 = _), -⟩; (try dsimp only at f2 f5 f7)
       refine ⟨by simp [Region.wanted, yielded, putsL, Act.put, f2, f5, f7], ?_⟩; simp only [putsL]; change qT (pT (pT (pT (pT (pT (pT _ 37 (sv 7)) 36 (sv 6)) 35 (sv 5)) 32 (sv 2)) 31 (sv 1)) 30 (sv 0)); simp only [qT, pT, Act.put, sIA, sCS, sCZ]; simp [go_sem, quietTo, Ext.refl, ↓IntWalk.iteOmega, f2, f5, f7, hjl]; (all_goals try simp (disch := omega) only [IntWalk.i64_in]); all_goals rfl
      refine fq 9 rfl rfl rfl cK rfl rfl ?_; apply Exists.intro; constructor
      ·rintro sv w' hw' ⟨_, _, (f2 : sv 2 = _), _, _, _, (f8 : sv 8 = _), -⟩; (try dsimp only at f2 f8)
       refine ⟨by simp [Region.wanted, yielded, putsL, Act.put, f2, f8], ?_⟩; simp only [putsL]; change qT (pT (pT (pT (pT (pT (pT (pT _ 38 (sv 8)) 37 (sv 7)) 36 (sv 6)) 35 (sv 5)) 32 (sv 2)) 31 (sv 1)) 30 (sv 0)); simp only [qT, pT, Act.put, sIA, sCS, sCZ]; simp [go_sem, quietTo, Ext.refl, f2, f8]; all_goals rfl
      refine fq 10 rfl rfl rfl cK rfl rfl ?_; apply Exists.intro; constructor
      ·rintro sv w' hw' ⟨_, _, (f2 : sv 2 = _), _, _, _, _, (f9 : sv 9 = _), -⟩; (try dsimp only at f2 f9)
       obtain ⟨hc, hf, hz9⟩ := (hbk.drew.trans hw').walk; have y0 := (hc _ (off + j * 3) hbw).trans d0
       refine ⟨by simp [Region.wanted, yielded, putsL, Act.put, f2, f9], ?_⟩; simp only [putsL]; change qT (pT (pT (pT (pT (pT (pT (pT (pT _ 39 (sv 9)) 38 (sv 8)) 37 (sv 7)) 36 (sv 6)) 35 (sv 5)) 32 (sv 2)) 31 (sv 1)) 30 (sv 0)); simp only [qT, pT, Act.put, sIA, sCS, sCZ]; simp [go_sem, quietTo, Ext.refl, ↓IntWalk.iteOmega, f2, f9, y0]; (all_goals try simp (disch := omega) only [IntWalk.i64_in]); all_goals rfl
      refine fq 11 rfl rfl rfl cK rfl rfl ?_; apply Exists.intro; constructor
      ·rintro sv w' hw' ⟨_, _, (f2 : sv 2 = _), _, (f4 : sv 4 = _), _, _, _, _, _, (f10 : sv 10 = _), -⟩; (try dsimp only at f2 f4 f10)
       refine ⟨by simp [Region.wanted, yielded, putsL, Act.put, f2, f4, f10], ?_⟩; simp only [putsL]; change qT (pT (pT (pT (pT (pT (pT (pT (pT (pT (pT (pT _ 40 (sv 10)) 39 (sv 9)) 38 (sv 8)) 37 (sv 7)) 36 (sv 6)) 35 (sv 5)) 34 (sv 4)) 33 (sv 3)) 32 (sv 2)) 31 (sv 1)) 30 (sv 0)); simp only [qT, pT, Act.put, sIA, sCS, sCZ]; simp [go_sem, quietTo, Ext.refl, ↓IntWalk.iteOmega, f2, f4, f10, hlc]; (all_goals try simp (disch := omega) only [IntWalk.i64_in]); all_goals rfl
      refine fq 12 rfl rfl rfl cK rfl rfl ?_; apply Exists.intro; constructor
      ·rintro sv w' hw' ⟨_, _, (f2 : sv 2 = _), _, _, _, _, _, _, _, _, (f11 : sv 11 = _), -⟩; (try dsimp only at f2 f11)
       refine ⟨rfl, ?_⟩; simp only [putsL]; change qT (pT (pT (pT (pT (pT (pT (pT (pT (pT (pT (pT (pT _ 41 (sv 11)) 40 (sv 10)) 39 (sv 9)) 38 (sv 8)) 37 (sv 7)) 36 (sv 6)) 35 (sv 5)) 34 (sv 4)) 33 (sv 3)) 32 (sv 2)) 31 (sv 1)) 30 (sv 0)); simp only [qT, pT, Act.put, sIA, sCS, sCZ]; simp [go_sem, quietTo, Ext.refl, ↓IntWalk.iteOmega, f2, f11]; (all_goals try simp (disch := omega) only [IntWalk.i64_in]); all_goals rfl
      refine fq 13 rfl rfl rfl cK rfl rfl ?_; apply Exists.intro; constructor
      ·rintro sv w' hw' ⟨_, _, _, _, _, _, _, _, _, _, _, _, (f12 : sv 12 = _), -⟩; (try dsimp only at f12)
       refine ⟨rfl, ?_⟩; simp only [putsL]; change qT (pT (pT (pT (pT (pT (pT (pT (pT (pT (pT (pT (pT (pT _ 42 (sv 12)) 41 (sv 11)) 40 (sv 10)) 39 (sv 9)) 38 (sv 8)) 37 (sv 7)) 36 (sv 6)) 35 (sv 5)) 34 (sv 4)) 33 (sv 3)) 32 (sv 2)) 31 (sv 1)) 30 (sv 0)); simp only [qT, pT, Act.put, sIA, sCS, sCZ]; simp [go_sem, quietTo, Ext.refl, f12]; all_goals rfl
      refine fac_nil fun xb wrb herb hfrb hcrb holdb hapb => ?_
      obtain ⟨(f0 : xb 0 = _), (f1 : xb 1 = _), (f2 : xb 2 = _), (f3 : xb 3 = _), (f4 : xb 4 = _), (f5 : xb 5 = _), (f6 : xb 6 = _), (f7 : xb 7 = _), (f8 : xb 8 = _), (f9 : xb 9 = _), (f10 : xb 10 = _), (f11 : xb 11 = _), (f12 : xb 12 = _), (f13 : xb 13 = _), -⟩ := hfrb; (try dsimp only at f0 f1 f2 f3 f4 f5 f6 f7 f8 f9 f10 f11 f12 f13)
      change wpList _ _ _ _ (pT (pT (pT (pT (pT (pT (pT (pT (pT (pT (pT (pT (pT (pT _ 30 (xb 0)) 31 (xb 1)) 32 (xb 2)) 33 (xb 3)) 34 (xb 4)) 35 (xb 5)) 36 (xb 6)) 37 (xb 7)) 38 (xb 8)) 39 (xb 9)) 40 (xb 10)) 41 (xb 11)) 42 (xb 12)) 29 (xb 13)) _
      simp only [putsL, Nat.reduceAdd, List.drop_succ_cons, List.drop_zero, List.drop_nil, pT, Act.put, sIA, sCS, sCZ]
      try simp only [f0, f1, f2, f3, f4, f5, f6, f7, f8, f9, f10, f11, f12, f13]
      clear f0 f1 f2 f3 f4 f5 f6 f7 f8 f9 f10 f11 f12 f13; clear holdb hapb; clear p1 q1 hb1 hX hX2 c0 c1 d0
      go_wp2
      first
       | (go_ret
          exact ⟨ret_int (by rw [hF.out, if_neg h12]; exact scan_is hz hlt (by rw [hv.out, hk1, hq1, hq2, hlb]; simp) (by decide)), he2.trans ((Ext.refl _).drew.trans herb)⟩)
       | (go_roundw
          case rel => exact ⟨j + 1 + 1, by omega, by go_num, hz.succ (by rw [hv.out, hk1, hq1, hq2, hlb]; simp), he2.trans ((Ext.refl _).drew.trans herb)⟩
          case measure => simp [intOf]; omega)
   ·go_wp2
    go_ret
    exact ⟨ret_int (by rw [hF.out, if_neg h12]; exact (scan_zero (by rw [show n = k by omega]; exact hz)).symm), he⟩
set_option maxRecDepth 100000 in
set_option maxHeartbeats 1600000 in
theorem faultTitles_any (p : Option Addr) (n c : Nat) (xs : List TitleV) (w : World) (h : Sl 3 titleC w p n xs) (hs : ∀ x ∈ xs, x.Small) (hn : n ≤ 1000) :
 Calls Tryz.prog 57 #[.slice p n c] w fun e w' => e = .returned (.int .i64 (titlesF xs)) ∧ Ext w w' := by
 have hl := h.1
 have hF : titlesF xs = if 300 < n then 2 else scanF n (chkTi xs) := by unfold titlesF; rw [hl]
 replace hF := Lib.hid hF
 by_cases h12 : 300 < n
 ·clear h hl hs
  go_enter Tryz.func57, Tryz.ntmps57
  go_wp2
  go_ret
  exact ⟨ret_int (by rw [hF.out, if_pos h12]), Ext.refl _⟩
 by_cases h0 : n = 0
 ·subst h0
  clear h hs
  go_enter Tryz.func57, Tryz.ntmps57
  go_wp2
  refine wp_loop_rounds 1 ?_
  rw [rounds_succ]
  go_wp2
  go_ret
  exact ⟨ret_int (by rw [hF.out]; rfl), Ext.refl _⟩
 ·obtain ⟨b, off, rfl, hb, hE⟩ := h.2.2 h0
  clear h; replace hl := Lib.hid hl; replace h0 := Lib.hid h0
  have hd : decide (300 < (n : Int)) = false := by simp; omega
  go_enter Tryz.func57, Tryz.ntmps57
  go_wp2
  go_loopw [10] (fun i w' => ∃ k : Nat, k ≤ n ∧ i = .int .i64 k ∧ Zeros (chkTi xs) k ∧ Ext w w') (fun i _ => n - (intOf i).toNat)
  case atStart => exact ⟨0, Nat.zero_le _, rfl, (fun j hj => by omega), Ext.refl _⟩
  case round =>
   obtain ⟨k, hk, rfl, hz, he⟩ := hrel
   have hbw := Nat.lt_of_lt_of_le hb he.size
   by_cases hlt : k < n
   ·obtain ⟨x, hx⟩ := getD_some hl.out hlt
    obtain ⟨s1, s3, s4, s5, s6⟩ := hs x (List.mem_of_getElem? hx)
    obtain ⟨c0, c1, c2⟩ := (hE.ext he hb).title hx
    have hv : chkTi xs k = if keyB x.piece then (if (inB x.owned 1 500 && inB x.cost 0 10000) = true then (if 0 < k && leB x.piece (atL default xs (k - 1)).piece then 7 else 0) else 1) else 5 := by
     unfold chkTi; rw [atL_of hx]
    have hprev : ∀ j y, k = j + 1 → xs[j]? = some y → wr.cell? ⟨b, off + j * 3, none⟩ = some (.string y.piece) := fun j y _ hy => ((hE.ext he hb).title hy).1
    replace hx := Lib.hid hx; replace hv := Lib.hid hv; replace hprev := Lib.hid hprev
    have hX := Blk.new' (w := wr) (t := 97) (cs := #[.string x.piece, .int .i64 x.owned, .int .i64 x.cost]) rfl
    replace hX := Lib.hid hX; replace hs := Lib.hid hs
    cases hk1 : keyB x.piece
    ·go_wp2_with (go_at_call 76; (with_reducible refine Calls.mono (key_is hk1 (by omega) _) ?_); rintro e w1 ⟨rfl, hb1⟩; obtain ⟨p1, q1⟩ := (hX.out.ext hb1).walk; have lt1 := (hX.out.ext hb1).lt)
     go_ret
     exact ⟨ret_int (by rw [hF.out, if_neg h12]; exact scan_is hz hlt (by rw [hv.out, hk1]; rfl) (by decide)), (he.alloc _).trans hb1⟩
    have hk4 : ∃ v, (inB x.owned 1 500 && inB x.cost 0 10000) = v := ⟨_, rfl⟩
    obtain ⟨v4, hk4⟩ := hk4
    have ho1 := fun u => sIn_is (show outB x.owned 1 500 = !inB x.owned 1 500 from outB_inB _ _ _) u
    have ho2 := fun u => sIn_is (show outB x.cost 0 10000 = !inB x.cost 0 10000 from outB_inB _ _ _) u
    cases hq1 : inB x.owned 1 500
    all_goals cases hq2 : inB x.cost 0 10000
    all_goals
     rw [hq1, hq2] at hk4
     rw [hq1] at ho1
     rw [hq2] at ho2
     replace ho1 := Lib.hid ho1; replace ho2 := Lib.hid ho2
     simp only [Bool.and_true, Bool.and_false, Bool.false_and, Bool.true_and] at hk4
     subst hk4
    iterate 3
     (go_wp2_with (first
       | (go_at_call 76; (with_reducible refine Calls.mono (key_is hk1 (by omega) _) ?_); rintro e w1 ⟨rfl, hb1⟩; obtain ⟨p1, q1⟩ := (hX.out.ext hb1).walk; have lt1 := (hX.out.ext hb1).lt)
       | (go_at_call 74; (with_reducible refine Calls.mono (ho1.out _) ?_); rintro e w4 ⟨rfl, rfl⟩)
       | (go_at_call 74; (with_reducible refine Calls.mono (ho2.out _) ?_); rintro e w4 ⟨rfl, rfl⟩))
      go_ret
      exact ⟨ret_int (by rw [hF.out, if_neg h12]; exact scan_is hz hlt (by rw [hv.out, hk1, hq1, hq2]; rfl) (by decide)), (he.alloc _).trans hb1⟩)
    go_upto_region 10 with (first
     | (go_at_call 76; (with_reducible refine Calls.mono (key_is hk1 (by omega) _) ?_); rintro e w1 ⟨rfl, hb1⟩; obtain ⟨p1, q1⟩ := (hX.out.ext hb1).walk; have lt1 := (hX.out.ext hb1).lt)
     | (go_at_call 74; (with_reducible refine Calls.mono (ho1.out _) ?_); rintro e w4 ⟨rfl, rfl⟩)
     | (go_at_call 74; (with_reducible refine Calls.mono (ho2.out _) ?_); rintro e w4 ⟨rfl, rfl⟩))
    have hX2 := hX.out.ext hb1
    have he2 : Ext w w1 := (he.alloc _).trans hb1
    have hbk : Ext wr w1 := ((Ext.refl wr).alloc _).trans hb1
    rcases Nat.eq_zero_or_pos k with hk0 | hk0
    ·subst hk0
     have hz0 : ((0 : Nat) : Int) = 0 := rfl
     refine wp_region_facts [] [([],false,false),([0],false,false),([0,1],false,false),([0,1,2],false,false),([0,1,2,3],false,false),([0,1,2],false,false),([0,1,2],false,false),([0,1,2,6],false,false),([0,1,2,5,6,7],false,false),([0,1,2,5,6,7,8],false,false),([0,1,2,5,6,7,8,9],false,false),([0,1,2,3,4,5,6,7,8,9,10],false,false),([0,1,2,3,4,5,6,7,8,9,10,11],false,false),([0,1,2,3,4,5,6,7,8,9,10,11,12],false,false)] (Ext) Ext (fun _ => True) (by kernel_rfl) (by kernel_rfl) Ext.refl (fun _ _ _ => Ext.trans) (fun _ _ h => h) (fun _ _ h => h.size) (fun _ _ h _ => h) trivial ?_
     dsimp only [List.length_cons, List.length_nil, List.drop_succ_cons, List.drop_zero, List.drop_nil]
     refine fq 0 rfl rfl rfl cK rfl rfl ?_; apply Exists.intro; constructor
     ·intro sv w' hw' hfa
      refine ⟨rfl, ?_⟩; simp only [putsL]; change qT _; simp only [qT, Act.put, sIA, sCS, sCZ]; simp [go_sem, quietTo, Ext.refl]; all_goals rfl
     refine fq 1 rfl rfl rfl cK rfl rfl ?_; apply Exists.intro; constructor
     ·rintro sv w' hw' ⟨(f0 : sv 0 = _), -⟩; (try dsimp only at f0)
      refine ⟨rfl, ?_⟩; simp only [putsL]; change qT (pT _ 32 (sv 0)); simp only [qT, pT, Act.put, sIA, sCS, sCZ]; simp [go_sem, quietTo, Ext.refl, ↓IntWalk.iteOmega, f0, hz0]; (all_goals try simp (disch := omega) only [IntWalk.i64_in]); all_goals rfl
     refine fq 2 rfl rfl rfl cK rfl rfl ?_; apply Exists.intro; constructor
     ·rintro sv w' hw' ⟨_, (f1 : sv 1 = _), -⟩; (try dsimp only at f1)
      refine ⟨rfl, ?_⟩; simp only [putsL]; change qT (pT (pT _ 33 (sv 1)) 32 (sv 0)); simp only [qT, pT, Act.put, sIA, sCS, sCZ]; simp [go_sem, quietTo, Ext.refl, f1]; all_goals rfl
     refine fac_skip 3 rfl rfl rfl cK Ext.refl ?_ ?_
     ·intro sv w' hw' hfa
      obtain ⟨(f0 : sv 0 = _), (f1 : sv 1 = _), (f2 : sv 2 = _), -⟩ := hfa; (try dsimp only at f0 f1 f2)
      simp [Region.wanted, yielded, putsL, Act.put, f2]
     refine fac_skip 4 rfl rfl rfl cK Ext.refl ?_ ?_
     ·intro sv w' hw' hfa
      obtain ⟨(f0 : sv 0 = _), (f1 : sv 1 = _), (f2 : sv 2 = _), (f3 : sv 3 = _), -⟩ := hfa; (try dsimp only at f0 f1 f2 f3)
      simp [Region.wanted, yielded, putsL, Act.put, f2, f3]
     refine fac_skip 5 rfl rfl rfl cK Ext.refl ?_ ?_
     ·intro sv w' hw' hfa
      obtain ⟨(f0 : sv 0 = _), (f1 : sv 1 = _), (f2 : sv 2 = _), -⟩ := hfa; (try dsimp only at f0 f1 f2)
      simp [Region.wanted, yielded, putsL, Act.put, f2]
     refine fac_skip 6 rfl rfl rfl cK Ext.refl ?_ ?_
     ·intro sv w' hw' hfa
      obtain ⟨(f0 : sv 0 = _), (f1 : sv 1 = _), (f2 : sv 2 = _), -⟩ := hfa; (try dsimp only at f0 f1 f2)
      simp [Region.wanted, yielded, putsL, Act.put, f2]
     refine fac_skip 7 rfl rfl rfl cK Ext.refl ?_ ?_
     ·intro sv w' hw' hfa
      obtain ⟨(f0 : sv 0 = _), (f1 : sv 1 = _), (f2 : sv 2 = _), (f6 : sv 6 = _), -⟩ := hfa; (try dsimp only at f0 f1 f2 f6)
      simp [Region.wanted, yielded, putsL, Act.put, f2, f6]
     refine fac_skip 8 rfl rfl rfl cK Ext.refl ?_ ?_
     ·intro sv w' hw' hfa
      obtain ⟨(f0 : sv 0 = _), (f1 : sv 1 = _), (f2 : sv 2 = _), (f5 : sv 5 = _), (f6 : sv 6 = _), (f7 : sv 7 = _), -⟩ := hfa; (try dsimp only at f0 f1 f2 f5 f6 f7)
      simp [Region.wanted, yielded, putsL, Act.put, f2, f5, f7]
     refine fac_skip 9 rfl rfl rfl cK Ext.refl ?_ ?_
     ·intro sv w' hw' hfa
      obtain ⟨(f0 : sv 0 = _), (f1 : sv 1 = _), (f2 : sv 2 = _), (f5 : sv 5 = _), (f6 : sv 6 = _), (f7 : sv 7 = _), (f8 : sv 8 = _), -⟩ := hfa; (try dsimp only at f0 f1 f2 f5 f6 f7 f8)
      simp [Region.wanted, yielded, putsL, Act.put, f2, f8]
     refine fac_skip 10 rfl rfl rfl cK Ext.refl ?_ ?_
     ·intro sv w' hw' hfa
      obtain ⟨(f0 : sv 0 = _), (f1 : sv 1 = _), (f2 : sv 2 = _), (f5 : sv 5 = _), (f6 : sv 6 = _), (f7 : sv 7 = _), (f8 : sv 8 = _), (f9 : sv 9 = _), -⟩ := hfa; (try dsimp only at f0 f1 f2 f5 f6 f7 f8 f9)
      simp [Region.wanted, yielded, putsL, Act.put, f2, f9]
     refine fac_skip 11 rfl rfl rfl cK Ext.refl ?_ ?_
     ·intro sv w' hw' hfa
      obtain ⟨(f0 : sv 0 = _), (f1 : sv 1 = _), (f2 : sv 2 = _), (f3 : sv 3 = _), (f4 : sv 4 = _), (f5 : sv 5 = _), (f6 : sv 6 = _), (f7 : sv 7 = _), (f8 : sv 8 = _), (f9 : sv 9 = _), (f10 : sv 10 = _), -⟩ := hfa; (try dsimp only at f0 f1 f2 f3 f4 f5 f6 f7 f8 f9 f10)
      simp [Region.wanted, yielded, putsL, Act.put, f2, f4, f10]
     refine fq 12 rfl rfl rfl cK rfl rfl ?_; apply Exists.intro; constructor
     ·rintro sv w' hw' ⟨_, _, (f2 : sv 2 = _), _, _, _, _, _, _, _, _, (f11 : sv 11 = _), -⟩; (try dsimp only at f2 f11)
      refine ⟨rfl, ?_⟩; simp only [putsL]; change qT (pT (pT (pT (pT (pT (pT (pT (pT (pT (pT (pT (pT _ 43 (sv 11)) 42 (sv 10)) 41 (sv 9)) 40 (sv 8)) 39 (sv 7)) 38 (sv 6)) 37 (sv 5)) 36 (sv 4)) 35 (sv 3)) 34 (sv 2)) 33 (sv 1)) 32 (sv 0)); simp only [qT, pT, Act.put, sIA, sCS, sCZ]; simp [go_sem, quietTo, Ext.refl, ↓IntWalk.iteOmega, f2, f11, hz0]; (all_goals try simp (disch := omega) only [IntWalk.i64_in]); all_goals rfl
     refine fq 13 rfl rfl rfl cK rfl rfl ?_; apply Exists.intro; constructor
     ·rintro sv w' hw' ⟨_, _, _, _, _, _, _, _, _, _, _, _, (f12 : sv 12 = _), -⟩; (try dsimp only at f12)
      refine ⟨rfl, ?_⟩; simp only [putsL]; change qT (pT (pT (pT (pT (pT (pT (pT (pT (pT (pT (pT (pT (pT _ 44 (sv 12)) 43 (sv 11)) 42 (sv 10)) 41 (sv 9)) 40 (sv 8)) 39 (sv 7)) 38 (sv 6)) 37 (sv 5)) 36 (sv 4)) 35 (sv 3)) 34 (sv 2)) 33 (sv 1)) 32 (sv 0)); simp only [qT, pT, Act.put, sIA, sCS, sCZ]; simp [go_sem, quietTo, Ext.refl, f12]; all_goals rfl
     refine fac_nil fun xa wra hera hfra hcra holda hapa => ?_
     obtain ⟨(f0 : xa 0 = _), (f1 : xa 1 = _), (f2 : xa 2 = _), (f3 : xa 3 = _), (f4 : xa 4 = _), (f5 : xa 5 = _), (f6 : xa 6 = _), (f7 : xa 7 = _), (f8 : xa 8 = _), (f9 : xa 9 = _), (f10 : xa 10 = _), (f11 : xa 11 = _), (f12 : xa 12 = _), (f13 : xa 13 = _), -⟩ := hfra; (try dsimp only at f0 f1 f2 f3 f4 f5 f6 f7 f8 f9 f10 f11 f12 f13)
     change wpList _ _ _ _ (pT (pT (pT (pT (pT (pT (pT (pT (pT (pT (pT (pT (pT (pT _ 32 (xa 0)) 33 (xa 1)) 34 (xa 2)) 35 (xa 3)) 36 (xa 4)) 37 (xa 5)) 38 (xa 6)) 39 (xa 7)) 40 (xa 8)) 41 (xa 9)) 42 (xa 10)) 43 (xa 11)) 44 (xa 12)) 31 (xa 13)) _
     simp only [putsL, Nat.reduceAdd, List.drop_succ_cons, List.drop_zero, List.drop_nil, pT, Act.put, sIA, sCS, sCZ]
     try simp only [f0, f1, f2, f3, f4, f5, f6, f7, f8, f9, f10, f11, f12, f13]
     clear f0 f1 f2 f3 f4 f5 f6 f7 f8 f9 f10 f11 f12 f13; clear holda hapa; clear p1 q1 hb1 hX hX2 hprev c0 c1
     go_wp2
     go_roundw
     case rel => exact ⟨1, by omega, rfl, hz.succ (by rw [hv.out, hk1, hq1, hq2]; rfl), he2.trans ((Ext.refl _).drew.trans hera)⟩
     case measure => simp [intOf]; omega
    ·obtain ⟨j, rfl⟩ : ∃ j, k = j + 1 := ⟨k - 1, by omega⟩
     obtain ⟨y, hy⟩ := getD_some hl.out (show j < n by omega)
     have d0 := hprev.out j y rfl hy
     have hat : atL default xs (j + 1 - 1) = y := by rw [Nat.add_sub_cancel]; exact atL_of hy
     rw [hat] at hv
     have hwj : IntKind.i64.wrap (j : Int) = j := IntWalk.i64_in _ (by omega)
     have hjl : (j : Int) < n := by omega
     have hj0 : 0 < (j : Int) + 1 := by omega
     clear hat hy hprev
     cases hlb : leB x.piece y.piece
     all_goals
      have hlc := hlb
      unfold leB at hlc
      refine wp_region_facts [] [([],false,false),([0],false,false),([0,1],false,false),([0,1,2],false,false),([0,1,2,3],false,false),([0,1,2],false,false),([0,1,2],false,false),([0,1,2,6],false,false),([0,1,2,5,6,7],false,false),([0,1,2,5,6,7,8],false,false),([0,1,2,5,6,7,8,9],false,false),([0,1,2,3,4,5,6,7,8,9,10],false,false),([0,1,2,3,4,5,6,7,8,9,10,11],false,false),([0,1,2,3,4,5,6,7,8,9,10,11,12],false,false)] (Ext) Ext (fun _ => True) (by kernel_rfl) (by kernel_rfl) Ext.refl (fun _ _ _ => Ext.trans) (fun _ _ h => h) (fun _ _ h => h.size) (fun _ _ h _ => h) trivial ?_
      dsimp only [List.length_cons, List.length_nil, List.drop_succ_cons, List.drop_zero, List.drop_nil]
      refine fq 0 rfl rfl rfl cK rfl rfl ?_; apply Exists.intro; constructor
      ·intro sv w' hw' hfa
       refine ⟨rfl, ?_⟩; simp only [putsL]; change qT _; simp only [qT, Act.put, sIA, sCS, sCZ]; simp [go_sem, quietTo, Ext.refl]; all_goals rfl
      refine fq 1 rfl rfl rfl cK rfl rfl ?_; apply Exists.intro; constructor
      ·rintro sv w' hw' ⟨(f0 : sv 0 = _), -⟩; (try dsimp only at f0)
       refine ⟨rfl, ?_⟩; simp only [putsL]; change qT (pT _ 32 (sv 0)); simp only [qT, pT, Act.put, sIA, sCS, sCZ]; simp [go_sem, quietTo, Ext.refl, ↓IntWalk.iteOmega, f0, hj0]; (all_goals try simp (disch := omega) only [IntWalk.i64_in]); all_goals rfl
      refine fq 2 rfl rfl rfl cK rfl rfl ?_; apply Exists.intro; constructor
      ·rintro sv w' hw' ⟨_, (f1 : sv 1 = _), -⟩; (try dsimp only at f1)
       refine ⟨rfl, ?_⟩; simp only [putsL]; change qT (pT (pT _ 33 (sv 1)) 32 (sv 0)); simp only [qT, pT, Act.put, sIA, sCS, sCZ]; simp [go_sem, quietTo, Ext.refl, f1]; all_goals rfl
      refine fq 3 rfl rfl rfl cK rfl rfl ?_; apply Exists.intro; constructor
      ·rintro sv w' hw' ⟨_, _, (f2 : sv 2 = _), -⟩; (try dsimp only at f2)
       refine ⟨by simp [Region.wanted, yielded, putsL, Act.put, f2], ?_⟩; simp only [putsL]; change qT (pT (pT (pT _ 34 (sv 2)) 33 (sv 1)) 32 (sv 0)); simp only [qT, pT, Act.put, sIA, sCS, sCZ]; simp [go_sem, quietTo, Ext.refl, f2]; all_goals rfl
      refine fq 4 rfl rfl rfl cK rfl rfl ?_; apply Exists.intro; constructor
      ·rintro sv w' hw' ⟨_, _, (f2 : sv 2 = _), (f3 : sv 3 = _), -⟩; (try dsimp only at f2 f3)
       obtain ⟨hc2, hf2, hz8⟩ := ((Ext.refl w1).drew.trans hw').walk; have x0 := (hc2 _ 0 hX2.lt).trans (hX2.cell 0)
       refine ⟨by simp [Region.wanted, yielded, putsL, Act.put, f2, f3], ?_⟩; simp only [putsL]; change qT (pT (pT (pT (pT _ 35 (sv 3)) 34 (sv 2)) 33 (sv 1)) 32 (sv 0)); simp only [qT, pT, Act.put, sIA, sCS, sCZ]; simp [go_sem, quietTo, Ext.refl, ↓IntWalk.iteOmega, f2, f3, x0]; (all_goals try simp (disch := omega) only [IntWalk.i64_in]); all_goals rfl
      refine fq 5 rfl rfl rfl cK rfl rfl ?_; apply Exists.intro; constructor
      ·rintro sv w' hw' ⟨_, _, (f2 : sv 2 = _), -⟩; (try dsimp only at f2)
       refine ⟨by simp [Region.wanted, yielded, putsL, Act.put, f2], ?_⟩; simp only [putsL]; change qT (pT (pT (pT _ 34 (sv 2)) 33 (sv 1)) 32 (sv 0)); simp only [qT, pT, Act.put, sIA, sCS, sCZ]; simp [go_sem, quietTo, Ext.refl, f2]; all_goals rfl
      refine fq 6 rfl rfl rfl cK rfl rfl ?_; apply Exists.intro; constructor
      ·rintro sv w' hw' ⟨_, _, (f2 : sv 2 = _), -⟩; (try dsimp only at f2)
       refine ⟨by simp [Region.wanted, yielded, putsL, Act.put, f2], ?_⟩; simp only [putsL]; change qT (pT (pT (pT _ 34 (sv 2)) 33 (sv 1)) 32 (sv 0)); simp only [qT, pT, Act.put, sIA, sCS, sCZ]; simp [go_sem, quietTo, Ext.refl, f2]; all_goals rfl
      refine fq 7 rfl rfl rfl cK rfl rfl ?_; apply Exists.intro; constructor
      ·rintro sv w' hw' ⟨_, _, (f2 : sv 2 = _), (f6 : sv 6 = _), -⟩; (try dsimp only at f2 f6)
       refine ⟨by simp [Region.wanted, yielded, putsL, Act.put, f2, f6], ?_⟩; simp only [putsL]; change qT (pT (pT (pT (pT _ 38 (sv 6)) 34 (sv 2)) 33 (sv 1)) 32 (sv 0)); simp only [qT, pT, Act.put, sIA, sCS, sCZ]; simp [go_sem, quietTo, Ext.refl, ↓IntWalk.iteOmega, f2, f6, hwj]; (all_goals try simp (disch := omega) only [IntWalk.i64_in]); all_goals rfl
      refine fq 8 rfl rfl rfl cK rfl rfl ?_; apply Exists.intro; constructor
      ·rintro sv w' hw' ⟨_, _, (f2 : sv 2 = _), (f5 : sv 5 = _), _, (f7 : sv 7 = _), -⟩; (try dsimp only at f2 f5 f7)
       refine ⟨by simp [Region.wanted, yielded, putsL, Act.put, f2, f5, f7], ?_⟩; simp only [putsL]; change qT (pT (pT (pT (pT (pT (pT _ 39 (sv 7)) 38 (sv 6)) 37 (sv 5)) 34 (sv 2)) 33 (sv 1)) 32 (sv 0)); simp only [qT, pT, Act.put, sIA, sCS, sCZ]; simp [go_sem, quietTo, Ext.refl, ↓IntWalk.iteOmega, f2, f5, f7, hjl]; (all_goals try simp (disch := omega) only [IntWalk.i64_in]); all_goals rfl
      refine fq 9 rfl rfl rfl cK rfl rfl ?_; apply Exists.intro; constructor
      ·rintro sv w' hw' ⟨_, _, (f2 : sv 2 = _), _, _, _, (f8 : sv 8 = _), -⟩; (try dsimp only at f2 f8)
       refine ⟨by simp [Region.wanted, yielded, putsL, Act.put, f2, f8], ?_⟩; simp only [putsL]; change qT (pT (pT (pT (pT (pT (pT (pT _ 40 (sv 8)) 39 (sv 7)) 38 (sv 6)) 37 (sv 5)) 34 (sv 2)) 33 (sv 1)) 32 (sv 0)); simp only [qT, pT, Act.put, sIA, sCS, sCZ]; simp [go_sem, quietTo, Ext.refl, f2, f8]; all_goals rfl
      refine fq 10 rfl rfl rfl cK rfl rfl ?_; apply Exists.intro; constructor
      ·rintro sv w' hw' ⟨_, _, (f2 : sv 2 = _), _, _, _, _, (f9 : sv 9 = _), -⟩; (try dsimp only at f2 f9)
       obtain ⟨hc, hf, hz9⟩ := (hbk.drew.trans hw').walk; have y0 := (hc _ (off + j * 3) hbw).trans d0
       refine ⟨by simp [Region.wanted, yielded, putsL, Act.put, f2, f9], ?_⟩; simp only [putsL]; change qT (pT (pT (pT (pT (pT (pT (pT (pT _ 41 (sv 9)) 40 (sv 8)) 39 (sv 7)) 38 (sv 6)) 37 (sv 5)) 34 (sv 2)) 33 (sv 1)) 32 (sv 0)); simp only [qT, pT, Act.put, sIA, sCS, sCZ]; simp [go_sem, quietTo, Ext.refl, ↓IntWalk.iteOmega, f2, f9, y0]; (all_goals try simp (disch := omega) only [IntWalk.i64_in]); all_goals rfl
      refine fq 11 rfl rfl rfl cK rfl rfl ?_; apply Exists.intro; constructor
      ·rintro sv w' hw' ⟨_, _, (f2 : sv 2 = _), _, (f4 : sv 4 = _), _, _, _, _, _, (f10 : sv 10 = _), -⟩; (try dsimp only at f2 f4 f10)
       refine ⟨by simp [Region.wanted, yielded, putsL, Act.put, f2, f4, f10], ?_⟩; simp only [putsL]; change qT (pT (pT (pT (pT (pT (pT (pT (pT (pT (pT (pT _ 42 (sv 10)) 41 (sv 9)) 40 (sv 8)) 39 (sv 7)) 38 (sv 6)) 37 (sv 5)) 36 (sv 4)) 35 (sv 3)) 34 (sv 2)) 33 (sv 1)) 32 (sv 0)); simp only [qT, pT, Act.put, sIA, sCS, sCZ]; simp [go_sem, quietTo, Ext.refl, ↓IntWalk.iteOmega, f2, f4, f10, hlc]; (all_goals try simp (disch := omega) only [IntWalk.i64_in]); all_goals rfl
      refine fq 12 rfl rfl rfl cK rfl rfl ?_; apply Exists.intro; constructor
      ·rintro sv w' hw' ⟨_, _, (f2 : sv 2 = _), _, _, _, _, _, _, _, _, (f11 : sv 11 = _), -⟩; (try dsimp only at f2 f11)
       refine ⟨rfl, ?_⟩; simp only [putsL]; change qT (pT (pT (pT (pT (pT (pT (pT (pT (pT (pT (pT (pT _ 43 (sv 11)) 42 (sv 10)) 41 (sv 9)) 40 (sv 8)) 39 (sv 7)) 38 (sv 6)) 37 (sv 5)) 36 (sv 4)) 35 (sv 3)) 34 (sv 2)) 33 (sv 1)) 32 (sv 0)); simp only [qT, pT, Act.put, sIA, sCS, sCZ]; simp [go_sem, quietTo, Ext.refl, ↓IntWalk.iteOmega, f2, f11]; (all_goals try simp (disch := omega) only [IntWalk.i64_in]); all_goals rfl
      refine fq 13 rfl rfl rfl cK rfl rfl ?_; apply Exists.intro; constructor
      ·rintro sv w' hw' ⟨_, _, _, _, _, _, _, _, _, _, _, _, (f12 : sv 12 = _), -⟩; (try dsimp only at f12)
       refine ⟨rfl, ?_⟩; simp only [putsL]; change qT (pT (pT (pT (pT (pT (pT (pT (pT (pT (pT (pT (pT (pT _ 44 (sv 12)) 43 (sv 11)) 42 (sv 10)) 41 (sv 9)) 40 (sv 8)) 39 (sv 7)) 38 (sv 6)) 37 (sv 5)) 36 (sv 4)) 35 (sv 3)) 34 (sv 2)) 33 (sv 1)) 32 (sv 0)); simp only [qT, pT, Act.put, sIA, sCS, sCZ]; simp [go_sem, quietTo, Ext.refl, f12]; all_goals rfl
      refine fac_nil fun xb wrb herb hfrb hcrb holdb hapb => ?_
      obtain ⟨(f0 : xb 0 = _), (f1 : xb 1 = _), (f2 : xb 2 = _), (f3 : xb 3 = _), (f4 : xb 4 = _), (f5 : xb 5 = _), (f6 : xb 6 = _), (f7 : xb 7 = _), (f8 : xb 8 = _), (f9 : xb 9 = _), (f10 : xb 10 = _), (f11 : xb 11 = _), (f12 : xb 12 = _), (f13 : xb 13 = _), -⟩ := hfrb; (try dsimp only at f0 f1 f2 f3 f4 f5 f6 f7 f8 f9 f10 f11 f12 f13)
      change wpList _ _ _ _ (pT (pT (pT (pT (pT (pT (pT (pT (pT (pT (pT (pT (pT (pT _ 32 (xb 0)) 33 (xb 1)) 34 (xb 2)) 35 (xb 3)) 36 (xb 4)) 37 (xb 5)) 38 (xb 6)) 39 (xb 7)) 40 (xb 8)) 41 (xb 9)) 42 (xb 10)) 43 (xb 11)) 44 (xb 12)) 31 (xb 13)) _
      simp only [putsL, Nat.reduceAdd, List.drop_succ_cons, List.drop_zero, List.drop_nil, pT, Act.put, sIA, sCS, sCZ]
      try simp only [f0, f1, f2, f3, f4, f5, f6, f7, f8, f9, f10, f11, f12, f13]
      clear f0 f1 f2 f3 f4 f5 f6 f7 f8 f9 f10 f11 f12 f13; clear holdb hapb; clear p1 q1 hb1 hX hX2 c0 c1 d0
      go_wp2
      first
       | (go_ret
          exact ⟨ret_int (by rw [hF.out, if_neg h12]; exact scan_is hz hlt (by rw [hv.out, hk1, hq1, hq2, hlb]; simp) (by decide)), he2.trans ((Ext.refl _).drew.trans herb)⟩)
       | (go_roundw
          case rel => exact ⟨j + 1 + 1, by omega, by go_num, hz.succ (by rw [hv.out, hk1, hq1, hq2, hlb]; simp), he2.trans ((Ext.refl _).drew.trans herb)⟩
          case measure => simp [intOf]; omega)
   ·go_wp2
    go_ret
    exact ⟨ret_int (by rw [hF.out, if_neg h12]; exact (scan_zero (by rw [show n = k by omega]; exact hz)).symm), he⟩
theorem TitlesOk.less {T : List TitleV} (h : TitlesOk T) {i j : Nat} {x y : TitleV} (hx : T[i]? = some x) (hy : T[j]? = some y) (hij : i < j) : cmpS x.piece y.piece = -1 := by
 obtain ⟨hi, rfl⟩ := List.getElem?_eq_some_iff.1 hx
 obtain ⟨hj, rfl⟩ := List.getElem?_eq_some_iff.1 hy
 exact List.pairwise_iff_getElem.1 h.rise i j hi hj hij
set_option maxRecDepth 100000 in
theorem tiPred (x : TitleV) (s : ByteArray) (w : World) :
 Calls Tryz.prog 161 #[.agg #[.string x.piece, .int .i64 x.owned, .int .i64 x.cost], .string s] w fun e w' => e = .returned (.int .i64 (cmpS x.piece s)) ∧ Ext w w' := by
 have hcmp := fun u => (Tryz.strings_Compare x.piece s u)
 replace hcmp := Lib.hid hcmp
 go_enter Tryz.func161, Tryz.ntmps161
 go_wp2_with (go_at_call 87; refine (hcmp.out _).mono ?_; rintro e w1 ⟨rfl, rfl⟩)
 go_ret
 exact ⟨rfl, (Ext.refl _).alloc _⟩
/-- What the search answers. -/
def TiRes (L : List TitleV) (s : ByteArray) (w : World) (e : Ending) (w' : World) : Prop :=
 ∃ (k : Nat) (is : Bool), e = .returned (.tuple #[.int .i64 k, .bool is]) ∧ Ext w w' ∧ (is = true → ∃ x, L[k]? = some x ∧ x.piece = s) ∧ (is = false → ∀ x ∈ L, x.piece ≠ s)
set_option maxRecDepth 100000 in
set_option maxHeartbeats 3200000 in
theorem tiSearch_any (p : Option Addr) (n c : Nat) (L : List TitleV) (s : ByteArray) (w : World) (hS : Slc 3 titleC w p n c L) (hok : TitlesOk L) :
 Calls Tryz.prog 160 #[.slice p n c, .string s, .func (.func 161) #[] #[]] w (TiRes L s w) := by
 obtain ⟨hn, hp⟩ := slcC hS
 subst hn
 have hl := hok.len
 replace hp := Lib.hid hp; replace hok := Lib.hid hok; clear hS
 go_enter Tryz.func160, Tryz.ntmps160
 go_wp2
 go_loopw [9,10] (fun vi vj wr => ∃ i j : Nat, vi = .int .i64 i ∧ vj = .int .i64 j ∧ i ≤ j ∧ j ≤ L.length ∧ (∀ q x, q < i → L[q]? = some x → cmpS x.piece s = -1) ∧ (∀ q x, j ≤ q → L[q]? = some x → cmpS x.piece s ≠ -1) ∧ Ext w wr) (fun vi vj _ => (intOf vj).toNat - (intOf vi).toNat)
 case atStart => exact ⟨0, L.length, rfl, rfl, Nat.zero_le _, Nat.le_refl _, (fun q x hq => absurd hq (Nat.not_lt_zero _)), (fun q x hq hx => absurd (List.getElem?_eq_some_iff.1 hx).1 (by omega)), Ext.refl _⟩
 case round =>
  obtain ⟨i, j, rfl, rfl, hij, hjl, hlo, hhi, hE⟩ := hrel
  replace hlo := Lib.hid hlo; replace hhi := Lib.hid hhi
  by_cases hlt : i < j
  ·have hm1 : i ≤ (i + j) / 2 := by omega
   have hm2 : (i + j) / 2 < j := by omega
   obtain ⟨x, hx⟩ := getD_some (rfl : L.length = L.length) (show (i + j) / 2 < L.length by omega)
   rcases hp.out with ⟨-, e⟩ | ⟨b, off, rfl, hb, hEl⟩
   ·rw [e] at hx; cases hx
   obtain ⟨c0, c1, c2⟩ := (hEl.ext hE hb).title hx
   have hbw := Nat.lt_of_lt_of_le hb hE.size
   have hat := tiPred x s wr
   replace hx := Lib.hid hx; clear hEl
   go_upto_region 5 with fail
   rw [show ((i : Int) + (j : Int)) / 2 = (((i + j) / 2 : Nat) : Int) by omega]
   generalize hh : (i + j) / 2 = h at *
   have hhI : (h : Int) < L.length := by omega
   clear hh
   rcases cmpS_three x.piece s with hc | hc | hc
   ·rw [hc] at hat
    replace hat := Lib.hid hat; replace hc := Lib.hid hc
    go_wp2_with (go_at_call 161; (with_reducible refine Calls.mono hat.out ?_); rintro e w2 ⟨rfl, hb2⟩)
    go_roundw
    case rel => exact ⟨h + 1, j, by go_num, rfl, by omega, hjl, (fun q y hq hy => by
     rcases Nat.lt_or_ge q h with h1 | h1
     ·exact cmpS_trans (hok.out.less hy hx.out h1) hc.out
     ·obtain rfl : q = h := by omega
      have := hx.out.symm.trans hy
      cases this
      exact hc.out), hhi.out, hE.trans hb2⟩
    case measure => simp [intOf]; omega
   all_goals
    rw [hc] at hat
    replace hat := Lib.hid hat; replace hc := Lib.hid hc
    go_wp2_with (go_at_call 161; (with_reducible refine Calls.mono hat.out ?_); rintro e w2 ⟨rfl, hb2⟩)
    go_roundw
    case rel => exact ⟨i, h, rfl, rfl, hm1, by omega, hlo.out, (fun q y hq hy e9 => by
     rcases Nat.lt_or_ge h q with h1 | h1
     ·have := cmpS_trans (hok.out.less hx.out hy h1) e9
      rw [hc.out] at this
      cases this
     ·obtain rfl : q = h := by omega
      have := hx.out.symm.trans hy
      cases this
      rw [hc.out] at e9
      cases e9), hE.trans hb2⟩
    case measure => simp [intOf]; omega
  ·obtain rfl : i = j := by omega
   by_cases hin : i < L.length
   ·obtain ⟨x, hx⟩ := getD_some (rfl : L.length = L.length) hin
    rcases hp.out with ⟨-, e⟩ | ⟨b, off, rfl, hb, hEl⟩
    ·rw [e] at hx; cases hx
    obtain ⟨c0, c1, c2⟩ := (hEl.ext hE hb).title hx
    have hbw := Nat.lt_of_lt_of_le hb hE.size
    have hat := tiPred x s wr
    have hiI : (i : Int) < L.length := by omega
    replace hx := Lib.hid hx; clear hEl
    rcases cmpS_three x.piece s with hc | hc | hc
    ·exact absurd hc (hhi.out i x (Nat.le_refl _) hx.out)
    ·rw [hc] at hat
     replace hat := Lib.hid hat; replace hc := Lib.hid hc
     go_wp2_with (go_at_call 161; (with_reducible refine Calls.mono hat.out ?_); rintro e w2 ⟨rfl, hb2⟩)
     go_ret2
     exact ⟨i, true, rfl, hE.trans hb2, (fun _ => ⟨x, hx.out, cmpS_zero hc.out⟩), fun h => by cases h⟩
    ·rw [hc] at hat
     replace hat := Lib.hid hat; replace hc := Lib.hid hc
     go_wp2_with (go_at_call 161; (with_reducible refine Calls.mono hat.out ?_); rintro e w2 ⟨rfl, hb2⟩)
     go_ret2
     refine ⟨i, false, rfl, hE.trans hb2, (fun h => by cases h), fun _ y hy e9 => ?_⟩
     obtain ⟨q, hq, hqe⟩ := List.getElem_of_mem hy
     have hyq : L[q]? = some y := by rw [List.getElem?_eq_getElem hq, hqe]
     rcases Nat.lt_trichotomy q i with h1 | h1 | h1
     ·have := hlo.out q y h1 hyq
      rw [e9, cmpS_refl] at this
      cases this
     ·subst h1
      have := hx.out.symm.trans hyq
      cases this
      have := hc.out
      rw [e9, cmpS_refl] at this
      cases this
     ·have h2 := hok.out.less hx.out hyq h1
      rw [e9, hc.out] at h2
      cases h2
   ·obtain rfl : i = L.length := by omega
    have hiI : ¬ (L.length : Int) < L.length := by omega
    go_wp2
    go_ret2
    refine ⟨L.length, false, rfl, hE, (fun h => by cases h), fun _ y hy e9 => ?_⟩
    obtain ⟨q, hq, hqe⟩ := List.getElem_of_mem hy
    have := hlo.out q y hq (by rw [List.getElem?_eq_getElem hq, hqe])
    rw [e9, cmpS_refl] at this
    cases this
end Go.Proofs.YtkjhbofbcmelgaaGreatDoor
