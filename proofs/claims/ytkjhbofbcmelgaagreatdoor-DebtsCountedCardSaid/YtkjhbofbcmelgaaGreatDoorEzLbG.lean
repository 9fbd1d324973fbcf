/- A slip is followed: the walk. Conditions: sizes. -/
import Derived.Test.YtkjhbofbcmelgaaGreatDoorEzLbF
set_option linter.unusedSimpArgs false
set_option linter.unusedVariables false
namespace Go.Proofs.YtkjhbofbcmelgaaGreatDoor
open Go Go.RowKit Go.Maps
theorem need_map {W : World} : ∃ u1 u2 u3 u4 u5 : World,
 (Instr.mapUpdate 216 (.map (some W.heap.size)) (.int .i64 1) (.string inW)).run Tryz.prog (W.alloc (.map #[] 0)) = .ok () u1 ∧
 (Instr.mapUpdate 216 (.map (some W.heap.size)) (.int .i64 2) (.string outW)).run Tryz.prog u1 = .ok () u2 ∧
 (Instr.mapUpdate 216 (.map (some W.heap.size)) (.int .i64 3) (.string outW)).run Tryz.prog u2 = .ok () u3 ∧
 (Instr.mapUpdate 216 (.map (some W.heap.size)) (.int .i64 4) (.string lostW)).run Tryz.prog u3 = .ok () u4 ∧
 (Instr.mapUpdate 216 (.map (some W.heap.size)) (.int .i64 5) (.string inW)).run Tryz.prog u4 = .ok () u5 ∧ Ext W u5 ∧
 ∀ u k, Ext u5 u → 1 ≤ k → k ≤ 5 → (Instr.lookup 216 (.map (some W.heap.size)) (.int .i64 k) false).run Tryz.prog u = .ok (.string (needW k)) u := by
 obtain ⟨u1, r1, o1, g1⟩ := (OwnK.made (M := intS) W).put (k := 1) (by show _ ∧ _; decide) (by omega) inW
 obtain ⟨u2, r2, o2, g2⟩ := o1.put (k := 2) (by show _ ∧ _; decide) (by omega) outW
 obtain ⟨u3, r3, o3, g3⟩ := o2.put (k := 3) (by show _ ∧ _; decide) (by omega) outW
 obtain ⟨u4, r4, o4, g4⟩ := o3.put (k := 4) (by show _ ∧ _; decide) (by omega) lostW
 obtain ⟨u5, r5, o5, g5⟩ := o4.put (k := 5) (by show _ ∧ _; decide) (by omega) inW
 refine ⟨u1, u2, u3, u4, u5, r1, r2, r3, r4, r5, ?_, fun u k hu h1 h5 => ?_⟩
 ·exact ((((((Ext.refl W).alloc _).grown g1 fun k hk => by cases hk; exact Nat.le_refl _).grown g2 fun k hk => by cases hk; exact Nat.le_refl _).grown g3 fun k hk => by cases hk; exact Nat.le_refl _).grown g4 fun k hk => by cases hk; exact Nat.le_refl _).grown g5 fun k hk => by cases hk; exact Nat.le_refl _
 ·have h9 := (o5.ext hu).look (k := k) (by show _ ∧ _; omega)
  have e : (updK (updK (updK (updK (updK (fun _ => none) (1 : Int) inW) 2 outW) 3 outW) 4 lostW) 5 inW k).getD intS.zero = needW k := by
   obtain rfl | rfl | rfl | rfl | rfl : k = 1 ∨ k = 2 ∨ k = 3 ∨ k = 4 ∨ k = 5 := by omega
   all_goals (unfold updK needW; rfl)
  rw [e] at h9
  exact h9
set_option maxRecDepth 100000 in
set_option maxHeartbeats 12800000 in
theorem slip_any {base : Nat} {w : World} {bb ms ml mh q n : Nat} {tp : Option Addr} {tn tc : Nat} {r : LendR} {T : List TitleV} {L : LibS} (h : LibM base w bb ms ml mh q tp tn tc r L) (hT : Slc 3 titleC w tp tn tc T) (hTo : TitlesOk T) (hN : LibN n L) (hn : n ≤ 100000) (x : SlipV) (hx : OkX x) (hkd : 1 ≤ x.kind ∧ x.kind ≤ 5) (hq : q ≤ 1000000) (hbase : base ≤ w.heap.size) :
 Calls Tryz.prog 121 #[.pointer (some ⟨bb, 0, none⟩), slipVal x] w fun e w' => e = .returned (.int .i64 (slipD T r L x).2) ∧ LibM base w' bb ms ml mh (q + 3) tp tn tc r (slipD T r L x).1 ∧ KeepL base bb ms ml mh w w' := by
 obtain ⟨D, hD⟩ : ∃ D, D = slipD T r L x := ⟨_, rfl⟩
 rw [← hD]
 have hlen : L.loans.length ≤ 100000 := Nat.le_trans hN.loans hn
 have hlend := fun u (hu : LibM base u bb ms ml mh q tp tn tc r L) (hb : base ≤ u.heap.size) => lend_any hu x hx hq hlen hb fun o ho => Nat.le_trans (hN.own _ _ ho) hn
 have hend : L.at_ (x.piece, x.copy) = outW → ∀ u lost, LibM base u bb ms ml mh q tp tn tc r L → base ≤ u.heap.size → Calls Tryz.prog 169 #[.pointer (some ⟨bb, 0, none⟩), slipVal x, .bool lost] u fun e w' => e = .returned (.tuple #[]) ∧ LibM base w' bb ms ml mh (q + 3) tp tn tc r (endD L x lost) ∧ KeepL base bb ms ml mh u w' := fun ho u lost hu hb => by
  obtain ⟨i, e1, e2⟩ := hN.ok.last _ (.inl ho)
  have hm := List.mem_of_getElem? (lastL_of e1 e2)
  obtain ⟨o, e3⟩ := hN.ok.has _ hm
  exact end_any hu x lost hx hq hlen hb e1 e2 e3 (hN.ok.once _ _ e3) (hN.sing _ hm)
 have hfnd : L.at_ (x.piece, x.copy) = lostW → ∃ i : Nat, L.last (x.piece, x.copy) = some (i : Int) ∧ i < L.loans.length := fun ho => hN.ok.last _ (.inr ho)
 unfold slipD at hD
 obtain ⟨hok, hsz, hps⟩ := hx
 obtain ⟨by_, no, at_, kind, piece, copy, singer⟩ := x
 unfold slipVal at hend ⊢
 dsimp only at *
 clear hN
 have hB0 : Blk (w.alloc (.cells #[.string by_, .int .i64 no, .int .i64 at_, .int .i64 kind, .string piece, .int .i64 copy, .string singer] 101)) bb 130 _ := (h.ext ((Ext.refl w).alloc _)).row.choose_spec.1
 have hic := isCopy_any bb _ tp tn tc T piece copy _ hB0 rfl (hT.ext ((Ext.refl w).alloc _)) hTo
 have hM0 := h.ext ((Ext.refl w).alloc (.cells #[.string by_, .int .i64 no, .int .i64 at_, .int .i64 kind, .string piece, .int .i64 copy, .string singer] 101))
 have hX0 : Blk (w.alloc (.cells #[.string by_, .int .i64 no, .int .i64 at_, .int .i64 kind, .string piece, .int .i64 copy, .string singer] 101)) w.heap.size 101 #[.string by_, .int .i64 no, .int .i64 at_, .int .i64 kind, .string piece, .int .i64 copy, .string singer] := Blk.new' rfl
 have hA0 : KeepL base bb ms ml mh w (w.alloc (.cells #[.string by_, .int .i64 no, .int .i64 at_, .int .i64 kind, .string piece, .int .i64 copy, .string singer] 101)) := (KeepL.refl w).ext ((Ext.refl w).alloc _)
 replace hM0 := Lib.hid hM0; replace hX0 := Lib.hid hX0; replace hA0 := Lib.hid hA0; replace hlend := Lib.hid hlend; replace hend := Lib.hid hend; replace hfnd := Lib.hid hfnd; clear hB0 hT h
 cases hc : isCopyT T (piece, copy) with
 | false =>
   have hde : D = (L, 8) := by rw [hD, if_pos hc]
   rw [hc] at hic
   replace hic := Lib.hid hic; clear hD
   go_enter Tryz.func121, Tryz.ntmps121
   go_wp2_with (go_at_call 127; (with_reducible refine Calls.mono hic.out ?_); rintro e w1 ⟨rfl, hb1⟩)
   go_ret
   exact ⟨by rw [hde]; rfl, by rw [hde]; exact (hM0.out.ext hb1).more (by omega), hA0.out.ext hb1⟩
 | true =>
   rw [hc] at hic hD
   replace hic := Lib.hid hic
   rw [if_neg (by simp)] at hD
   replace hD := Lib.hid hD
   go_enter Tryz.func121, Tryz.ntmps121
   have x4 := hX0.out.cell 4
   have x5 := hX0.out.cell 5
   have lx := hX0.out.lt
   go_upto_region 4 with (go_at_call 127; (with_reducible refine Calls.mono hic.out ?_); rintro e w1 ⟨rfl, hb1⟩; have v4 := (hb1.walk.1 _ _ lx).trans x4; have v5 := (hb1.walk.1 _ _ lx).trans x5)
   have hb4 := hb1.trans ((Ext.refl w1).alloc (.cells #[.string piece, .int .i64 copy] 120))
   have hK4 : Blk (w1.alloc (.cells #[.string piece, .int .i64 copy] 120)) w1.heap.size 120 #[.string piece, .int .i64 copy] := Blk.new' rfl
   generalize (w1.alloc (.cells #[.string piece, .int .i64 copy] 120)) = W4 at *
   generalize w1.heap.size = gk at *
   have hmm := @run_makeMap Tryz.prog
   obtain ⟨u1, u2, u3, u4, u5, r1, r2, r3, r4, r5, hE5, hnd⟩ := need_map (W := W4)
   unfold inW at r1 r5
   unfold outW at r2 r3
   unfold lostW at r4
   replace r1 := Lib.hid r1; replace r2 := Lib.hid r2; replace r3 := Lib.hid r3; replace r4 := Lib.hid r4; replace r5 := Lib.hid r5; replace hnd := Lib.hid hnd
   go_upto_region 5 with (first
    | (refine wpList_insM rfl _ _ _ 216 rfl (.map (some W4.heap.size)) (.int .i64 1) (.string ⟨#[105,110]⟩) rfl rfl rfl u1 r1.out ?_)
    | (refine wpList_insM rfl _ _ _ 216 rfl (.map (some W4.heap.size)) (.int .i64 2) (.string ⟨#[111,117,116]⟩) rfl rfl rfl u2 r2.out ?_)
    | (refine wpList_insM rfl _ _ _ 216 rfl (.map (some W4.heap.size)) (.int .i64 3) (.string ⟨#[111,117,116]⟩) rfl rfl rfl u3 r3.out ?_)
    | (refine wpList_insM rfl _ _ _ 216 rfl (.map (some W4.heap.size)) (.int .i64 4) (.string ⟨#[108,111,115,116]⟩) rfl rfl rfl u4 r4.out ?_)
    | (refine wpList_insM rfl _ _ _ 216 rfl (.map (some W4.heap.size)) (.int .i64 5) (.string ⟨#[105,110]⟩) rfl rfl rfl u5 r5.out ?_))
   have hb5 := hb4.trans hE5
   have hM5 := hM0.out.ext hb5
   have hX5 := hX0.out.ext hb5
   have hK5 := hK4.ext hE5
   have hA5 := hA0.out.ext hb5
   clear r1 r2 r3 r4 r5 hE5 hK4 hM0 hX0 hA0 hmm hic v4 v5 x4 x5 lx hb1 hb4 hb5 hc
   generalize hgx : w.heap.size = gx at *
   replace hgx := Lib.hid hgx
   generalize W4.heap.size = gm at *
   have hst := fun u (hu : Ext u5 u) => state_any (hM5.ext hu) piece copy hok
   have lk := hK5.lt
   have lx := hX5.lt
   have k0 := hK5.cell 0
   have k1 := hK5.cell 1
   have e3 := hX5.cell 3
   have hnd9 := fun u hu => hnd.out u kind hu hkd.1 hkd.2
   replace hnd9 := Lib.hid hnd9
   generalize hat : L.at_ (piece, copy) = st at *
   replace hst := Lib.hid hst; replace hM5 := Lib.hid hM5; replace hX5 := Lib.hid hX5; replace hK5 := Lib.hid hK5; replace hA5 := Lib.hid hA5; clear hnd
   generalize hnw : needW kind = nw at *
   by_cases hs : st = nw
   ·rw [if_neg (by simpa using hs)] at hD
    have hsb : (st.toList == nw.toList) = true := bytesB.2 hs
    refine wp_region_facts [] [([],false,false),([],false,false),([0,1],false,false),([],false,false),([],false,false),([4],false,false),([3,4,5],false,false),([0,1,2,3,4,5,6],false,false)] (Ext) Ext (fun _ => True) (by kernel_rfl) (by kernel_rfl) Ext.refl (fun _ _ _ => Ext.trans) (fun _ _ h => h) (fun _ _ h => h.size) (fun _ _ h _ => h) trivial ?_
    dsimp only [List.length_cons, List.length_nil, List.drop_succ_cons, List.drop_zero, List.drop_nil]
    refine fq 0 rfl rfl rfl cK rfl rfl ?_; apply Exists.intro; constructor
    ·intro sv w' hw' hfa
     refine ⟨rfl, ?_⟩; simp only [putsL]; change qT _; simp only [qT, Act.put, sIA, sCS, sCZ]; simp [go_sem, quietTo, Ext.refl]; all_goals rfl
    refine fq 1 rfl rfl rfl cK rfl rfl ?_; apply Exists.intro; constructor
    ·intro sv w' hw' hfa
     have hk9 := (Ext.refl u5).drew.trans hw'; obtain ⟨hc, hf, hz9⟩ := hk9.walk; have z0 := (hc gk 0 lk).trans k0; have z1 := (hc gk 1 lk).trans k1
     refine ⟨rfl, ?_⟩; simp only [putsL]; change qT _; simp only [qT, Act.put, sIA, sCS, sCZ]; simp [go_sem, quietTo, Ext.refl, ↓IntWalk.iteOmega, z0, z1]; (all_goals try simp (disch := omega) only [IntWalk.i64_in]); all_goals rfl
    refine fq 2 rfl rfl rfl cK rfl rfl ?_; apply Exists.intro; constructor
    ·rintro sv w' hw' ⟨(f0 : sv 0 = _), (f1 : sv 1 = _), -⟩; (try dsimp only at f0 f1)
     have hk9 := (Ext.refl u5).drew.trans hw'
     refine ⟨rfl, ?_⟩; simp only [putsL]; change qT (pT (pT _ 22 (sv 1)) 21 (sv 0)); simp only [qT, pT, Act.put, sIA, sCS, sCZ]; simp [go_sem, quietTo, Ext.refl, ↓IntWalk.iteOmega, f0, f1]; (all_goals try simp (disch := omega) only [IntWalk.i64_in]); all_goals first | rfl | (exact hst.out _ hk9)
    refine fq 3 rfl rfl rfl cK rfl rfl ?_; apply Exists.intro; constructor
    ·intro sv w' hw' hfa
     refine ⟨rfl, ?_⟩; simp only [putsL]; change qT _; simp only [qT, Act.put, sIA, sCS, sCZ]; simp [go_sem, quietTo, Ext.refl]; all_goals rfl
    refine fq 4 rfl rfl rfl cK rfl rfl ?_; apply Exists.intro; constructor
    ·intro sv w' hw' hfa
     refine ⟨rfl, ?_⟩; simp only [putsL]; change qT _; simp only [qT, Act.put, sIA, sCS, sCZ]; simp [go_sem, quietTo, Ext.refl]; all_goals rfl
    refine fq 5 rfl rfl rfl cK rfl rfl ?_; apply Exists.intro; constructor
    ·rintro sv w' hw' ⟨(f4 : sv 4 = _), -⟩; (try dsimp only at f4)
     have hk9 := (Ext.refl u5).drew.trans hw'; obtain ⟨hc, hf, hz9⟩ := hk9.walk; have y3 := (hc gx 3 lx).trans e3
     refine ⟨rfl, ?_⟩; simp only [putsL]; change qT (pT _ 25 (sv 4)); simp only [qT, pT, Act.put, sIA, sCS, sCZ]; simp [go_sem, quietTo, Ext.refl, ↓IntWalk.iteOmega, f4, y3]; (all_goals try simp (disch := omega) only [IntWalk.i64_in]); all_goals rfl
    refine fq 6 rfl rfl rfl cK rfl rfl ?_; apply Exists.intro; constructor
    ·rintro sv w' hw' ⟨(f3 : sv 3 = _), _, (f5 : sv 5 = _), -⟩; (try dsimp only at f3 f5)
     have hk9 := (Ext.refl u5).drew.trans hw'; have hl9 := hnd9.out w' hk9
     refine ⟨rfl, ?_⟩; simp only [putsL]; change qT (pT (pT (pT _ 26 (sv 5)) 25 (sv 4)) 24 (sv 3)); simp only [qT, pT, Act.put, sIA, sCS, sCZ]; simp [go_sem, quietTo, Ext.refl, ↓IntWalk.iteOmega, f3, f5, hl9]; (all_goals try simp (disch := omega) only [IntWalk.i64_in]); all_goals rfl
    refine fq 7 rfl rfl rfl cK rfl rfl ?_; apply Exists.intro; constructor
    ·rintro sv w' hw' ⟨_, _, (f2 : sv 2 = _), _, _, _, (f6 : sv 6 = _), -⟩; (try dsimp only at f2 f6)
     refine ⟨rfl, ?_⟩; simp only [putsL]; change qT (pT (pT (pT (pT (pT (pT (pT _ 27 (sv 6)) 26 (sv 5)) 25 (sv 4)) 24 (sv 3)) 23 (sv 2)) 22 (sv 1)) 21 (sv 0)); simp only [qT, pT, Act.put, sIA, sCS, sCZ]; simp [go_sem, quietTo, Ext.refl, ↓IntWalk.iteOmega, f2, f6, hsb]; (all_goals try simp (disch := omega) only [IntWalk.i64_in]); all_goals rfl
    refine fac_nil fun xa wra hera hfra hcra holda hapa => ?_
    obtain ⟨(f0 : xa 0 = _), (f1 : xa 1 = _), (f2 : xa 2 = _), (f3 : xa 3 = _), (f4 : xa 4 = _), (f5 : xa 5 = _), (f6 : xa 6 = _), (f7 : xa 7 = _), -⟩ := hfra; (try dsimp only at f0 f1 f2 f3 f4 f5 f6 f7)
    change wpList _ _ _ _ (pT (pT (pT (pT (pT (pT (pT (pT _ 21 (xa 0)) 22 (xa 1)) 23 (xa 2)) 24 (xa 3)) 25 (xa 4)) 26 (xa 5)) 27 (xa 6)) 28 (xa 7)) _
    simp only [putsL, Nat.reduceAdd, List.drop_succ_cons, List.drop_zero, List.drop_nil, pT, Act.put, sIA, sCS, sCZ]
    try simp only [f0, f1, f2, f3, f4, f5, f6, f7]
    clear f0 f1 f2 f3 f4 f5 f6 f7; clear holda hapa
    have hka := (Ext.refl u5).drew.trans hera
    have hMa := hM5.out.ext hka
    have hXa := hX5.out.ext hka
    have hKa := hK5.out.ext hka
    have hAa := hA5.out.ext hka
    have hba : base ≤ wra.heap.size := by have := hA5.out.size; have := hka.size; have := hgx.out; omega
    have hsn := hs.trans hnw.symm
    clear hM5 hX5 hK5 hA5 hst hnd9 lk lx k0 k1 e3 hka hera hcra hsb
    subst hs
    replace hnw := Lib.hid hnw; replace hat := Lib.hid hat
    have d0 := hXa.cell 0
    have d1 := hXa.cell 1
    have d2 := hXa.cell 2
    have d3 := hXa.cell 3
    have d4 := hXa.cell 4
    have d5 := hXa.cell 5
    have d6 := hXa.cell 6
    have ld := hXa.lt
    obtain rfl | rfl | rfl | rfl | rfl : kind = 1 ∨ kind = 2 ∨ kind = 3 ∨ kind = 4 ∨ kind = 5 := by omega
    ·have hde := hD.out
     rw [if_pos rfl] at hde
     have hl := hlend.out wra hMa hba
     replace hl := Lib.hid hl; replace hde := Lib.hid hde; replace hAa := Lib.hid hAa; clear hD hMa hXa hKa hsn hlend hend hfnd
     go_wp2_with (go_at_call 168; (with_reducible refine Calls.mono hl.out ?_); rintro e w6 ⟨rfl, hM6, hA6⟩)
     go_ret
     exact ⟨by rw [hde.out]; rfl, by rw [hde.out]; exact hM6, hAa.out.trans hA6⟩
    ·have hde := hD.out
     rw [if_neg (by decide), if_pos (by decide)] at hde
     have hl := hend.out (hsn : st = needW 2) wra false hMa hba
     replace hde : D = (endD L ⟨by_, no, at_, 2, piece, copy, singer⟩ false, 0) := hde
     replace hl := Lib.hid hl; replace hde := Lib.hid hde; replace hAa := Lib.hid hAa; clear hD hMa hXa hKa hsn hlend hend hfnd
     go_wp2_with (go_at_call 169; (with_reducible refine Calls.mono hl.out ?_); rintro e w6 ⟨rfl, hM6, hA6⟩)
     go_ret
     exact ⟨by rw [hde.out]; rfl, by rw [hde.out]; exact hM6, hAa.out.trans hA6⟩
    ·have hde := hD.out
     rw [if_neg (by decide), if_pos (by decide)] at hde
     have hl := hend.out (hsn : st = needW 3) wra true hMa hba
     replace hde : D = (endD L ⟨by_, no, at_, 3, piece, copy, singer⟩ true, 0) := hde
     replace hl := Lib.hid hl; replace hde := Lib.hid hde; replace hAa := Lib.hid hAa; clear hD hMa hXa hKa hsn hlend hend hfnd
     go_wp2_with (go_at_call 169; (with_reducible refine Calls.mono hl.out ?_); rintro e w6 ⟨rfl, hM6, hA6⟩)
     go_ret
     exact ⟨by rw [hde.out]; rfl, by rw [hde.out]; exact hM6, hAa.out.trans hA6⟩
    ·have hde := hD.out
     rw [if_neg (by decide), if_neg (by decide), if_pos rfl] at hde
     obtain ⟨i, e1, e2⟩ := hfnd.out (hsn : st = needW 4)
     have hL := lastL_of e1 e2
     rw [lastI_of e1] at hde
     generalize lastL L (piece, copy) = l at *
     replace hde := Lib.hid hde
     obtain ⟨⟨lv, hB, hrow⟩, hm⟩ := hMa
     obtain ⟨g, cap, rfl, hg0, hgl⟩ := hrow.form (by omega)
     have hlk : ∀ u, Ext wra u → (Instr.lookup 126 (.map (some ml)) (.agg #[.string piece, .int .i64 copy]) false).run Tryz.prog u = .ok (.int .i64 (i : Int)) u := fun u hu => by
      have h9 := (hm.last.ext hu).look (k := (piece, copy)) hok
      rw [e1] at h9
      exact h9
     have lb := hB.lt
     have lk9 := hKa.lt
     have c7 := hB.cell 7
     have c6 := hB.cell 6
     have k0 := hKa.cell 0
     have k1 := hKa.cell 1
     have hiI : (i : Int) < (L.loans.length : Int) := by omega
     unfold libC at c7 c6
     replace hlk := Lib.hid hlk; replace hm := Lib.hid hm; replace hB := Lib.hid hB; replace hrow := Lib.hid hrow; replace hKa := Lib.hid hKa; replace hAa := Lib.hid hAa; clear hD hXa hsn hlend hend hfnd d0 d1 d2 d4 d5 d6
     go_upto_region 15 with fail
     refine wp_region_facts [] [([],false,false),([0],false,false),([0,1],false,false),([0,1,2],false,false),([],false,false),([4],false,false),([4,5],false,false),([4,5,6],false,false),([],false,false),([4,5,6,7,8],false,false),([0,1,2,3,4,5,6,7,8,9],false,false),([0,1,2,3,4,5,6,7,8,9,10],false,false)] (Ext) Ext (fun _ => True) (by kernel_rfl) (by kernel_rfl) Ext.refl (fun _ _ _ => Ext.trans) (fun _ _ h => h) (fun _ _ h => h.size) (fun _ _ h _ => h) trivial ?_
     dsimp only [List.length_cons, List.length_nil, List.drop_succ_cons, List.drop_zero, List.drop_nil]
     refine fq 0 rfl rfl rfl cK rfl rfl ?_; apply Exists.intro; constructor
     ·intro sv w' hw' hfa
      refine ⟨rfl, ?_⟩; simp only [putsL]; change qT _; simp only [qT, Act.put, sIA, sCS, sCZ]; simp [go_sem, quietTo, Ext.refl]; all_goals rfl
     refine fq 1 rfl rfl rfl cK rfl rfl ?_; apply Exists.intro; constructor
     ·rintro sv w' hw' ⟨(f0 : sv 0 = _), -⟩; (try dsimp only at f0)
      refine ⟨rfl, ?_⟩; simp only [putsL]; change qT (pT _ 52 (sv 0)); simp only [qT, pT, Act.put, sIA, sCS, sCZ]; simp [go_sem, quietTo, Ext.refl, f0]; all_goals rfl
     refine fq 2 rfl rfl rfl cK rfl rfl ?_; apply Exists.intro; constructor
     ·rintro sv w' hw' ⟨_, (f1 : sv 1 = _), -⟩; (try dsimp only at f1)
      refine ⟨rfl, ?_⟩; simp only [putsL]; change qT (pT (pT _ 53 (sv 1)) 52 (sv 0)); simp only [qT, pT, Act.put, sIA, sCS, sCZ]; simp [go_sem, quietTo, Ext.refl, f1]; all_goals rfl
     refine fq 3 rfl rfl rfl cK rfl rfl ?_; apply Exists.intro; constructor
     ·rintro sv w' hw' ⟨_, _, (f2 : sv 2 = _), -⟩; (try dsimp only at f2)
      obtain ⟨hc, hf, hz9⟩ := ((Ext.refl wra).drew.trans hw').walk; have y7 := (hc bb 7 lb).trans c7
      refine ⟨rfl, ?_⟩; simp only [putsL]; change qT (pT (pT (pT _ 54 (sv 2)) 53 (sv 1)) 52 (sv 0)); simp only [qT, pT, Act.put, sIA, sCS, sCZ]; simp [go_sem, quietTo, Ext.refl, ↓IntWalk.iteOmega, f2, y7]; (all_goals try simp (disch := omega) only [IntWalk.i64_in]); all_goals rfl
     refine fq 4 rfl rfl rfl cK rfl rfl ?_; apply Exists.intro; constructor
     ·intro sv w' hw' hfa
      refine ⟨rfl, ?_⟩; simp only [putsL]; change qT _; simp only [qT, Act.put, sIA, sCS, sCZ]; simp [go_sem, quietTo, Ext.refl]; all_goals rfl
     refine fq 5 rfl rfl rfl cK rfl rfl ?_; apply Exists.intro; constructor
     ·rintro sv w' hw' ⟨(f4 : sv 4 = _), -⟩; (try dsimp only at f4)
      refine ⟨rfl, ?_⟩; simp only [putsL]; change qT (pT _ 56 (sv 4)); simp only [qT, pT, Act.put, sIA, sCS, sCZ]; simp [go_sem, quietTo, Ext.refl, f4]; all_goals rfl
     refine fq 6 rfl rfl rfl cK rfl rfl ?_; apply Exists.intro; constructor
     ·rintro sv w' hw' ⟨_, (f5 : sv 5 = _), -⟩; (try dsimp only at f5)
      refine ⟨rfl, ?_⟩; simp only [putsL]; change qT (pT (pT _ 57 (sv 5)) 56 (sv 4)); simp only [qT, pT, Act.put, sIA, sCS, sCZ]; simp [go_sem, quietTo, Ext.refl, f5]; all_goals rfl
     refine fq 7 rfl rfl rfl cK rfl rfl ?_; apply Exists.intro; constructor
     ·rintro sv w' hw' ⟨_, _, (f6 : sv 6 = _), -⟩; (try dsimp only at f6)
      obtain ⟨hc, hf, hz9⟩ := ((Ext.refl wra).drew.trans hw').walk; have y6 := (hc bb 6 lb).trans c6
      refine ⟨rfl, ?_⟩; simp only [putsL]; change qT (pT (pT (pT _ 58 (sv 6)) 57 (sv 5)) 56 (sv 4)); simp only [qT, pT, Act.put, sIA, sCS, sCZ]; simp [go_sem, quietTo, Ext.refl, ↓IntWalk.iteOmega, f6, y6]; (all_goals try simp (disch := omega) only [IntWalk.i64_in]); all_goals rfl
     refine fq 8 rfl rfl rfl cK rfl rfl ?_; apply Exists.intro; constructor
     ·intro sv w' hw' hfa
      obtain ⟨hc, hf, hz9⟩ := ((Ext.refl wra).drew.trans hw').walk; have z0 := (hc gk 0 lk9).trans k0; have z1 := (hc gk 1 lk9).trans k1
      refine ⟨rfl, ?_⟩; simp only [putsL]; change qT _; simp only [qT, Act.put, sIA, sCS, sCZ]; simp [go_sem, quietTo, Ext.refl, ↓IntWalk.iteOmega, z0, z1]; (all_goals try simp (disch := omega) only [IntWalk.i64_in]); all_goals rfl
     refine fq 9 rfl rfl rfl cK rfl rfl ?_; apply Exists.intro; constructor
     ·rintro sv w' hw' ⟨_, _, _, (f7 : sv 7 = _), (f8 : sv 8 = _), -⟩; (try dsimp only at f7 f8)
      have hl9 := hlk.out w' ((Ext.refl wra).drew.trans hw')
      refine ⟨rfl, ?_⟩; simp only [putsL]; change qT (pT (pT (pT (pT (pT _ 60 (sv 8)) 59 (sv 7)) 58 (sv 6)) 57 (sv 5)) 56 (sv 4)); simp only [qT, pT, Act.put, sIA, sCS, sCZ]; simp [go_sem, quietTo, Ext.refl, ↓IntWalk.iteOmega, f7, f8, hl9]; (all_goals try simp (disch := omega) only [IntWalk.i64_in]); all_goals rfl
     refine fq 10 rfl rfl rfl cK rfl rfl ?_; apply Exists.intro; constructor
     ·rintro sv w' hw' ⟨_, _, _, (f3 : sv 3 = _), _, _, _, _, _, (f9 : sv 9 = _), -⟩; (try dsimp only at f3 f9)
      refine ⟨rfl, ?_⟩; simp only [putsL]; change qT (pT (pT (pT (pT (pT (pT (pT (pT (pT (pT _ 61 (sv 9)) 60 (sv 8)) 59 (sv 7)) 58 (sv 6)) 57 (sv 5)) 56 (sv 4)) 55 (sv 3)) 54 (sv 2)) 53 (sv 1)) 52 (sv 0)); simp only [qT, pT, Act.put, sIA, sCS, sCZ]; simp [go_sem, quietTo, Ext.refl, ↓IntWalk.iteOmega, f3, f9, hiI]; (all_goals try simp (disch := omega) only [IntWalk.i64_in]); all_goals rfl
     refine fq 11 rfl rfl rfl cK rfl rfl ?_; apply Exists.intro; constructor
     ·rintro sv w' hw' ⟨_, _, _, _, _, _, _, _, _, _, (f10 : sv 10 = _), -⟩; (try dsimp only at f10)
      refine ⟨rfl, ?_⟩; simp only [putsL]; change qT (pT (pT (pT (pT (pT (pT (pT (pT (pT (pT (pT _ 62 (sv 10)) 61 (sv 9)) 60 (sv 8)) 59 (sv 7)) 58 (sv 6)) 57 (sv 5)) 56 (sv 4)) 55 (sv 3)) 54 (sv 2)) 53 (sv 1)) 52 (sv 0)); simp only [qT, pT, Act.put, sIA, sCS, sCZ]; simp [go_sem, quietTo, Ext.refl, f10]; all_goals rfl
     refine fac_nil fun xc wrc herc hfrc hcrc holdc hapc => ?_
     obtain ⟨(f0 : xc 0 = _), (f1 : xc 1 = _), (f2 : xc 2 = _), (f3 : xc 3 = _), (f4 : xc 4 = _), (f5 : xc 5 = _), (f6 : xc 6 = _), (f7 : xc 7 = _), (f8 : xc 8 = _), (f9 : xc 9 = _), (f10 : xc 10 = _), (f11 : xc 11 = _), -⟩ := hfrc; (try dsimp only at f0 f1 f2 f3 f4 f5 f6 f7 f8 f9 f10 f11)
     change wpList _ _ _ _ (pT (pT (pT (pT (pT (pT (pT (pT (pT (pT (pT (pT _ 52 (xc 0)) 53 (xc 1)) 54 (xc 2)) 55 (xc 3)) 56 (xc 4)) 57 (xc 5)) 58 (xc 6)) 59 (xc 7)) 60 (xc 8)) 61 (xc 9)) 62 (xc 10)) 63 (xc 11)) _
     simp only [putsL, Nat.reduceAdd, List.drop_succ_cons, List.drop_zero, List.drop_nil, pT, Act.put, sIA, sCS, sCZ]
     try simp only [f0, f1, f2, f3, f4, f5, f6, f7, f8, f9, f10, f11]
     clear f0 f1 f2 f3 f4 f5 f6 f7 f8 f9 f10 f11; clear holdc hapc
     have hkc := (Ext.refl wra).drew.trans herc
     have hrowc := own_ext hkc hrow.out
     have hBc := hB.out.ext hkc
     have hKc := hKa.out.ext hkc
     have hmc := hm.out.ext hkc
     have hAc := hAa.out.ext hkc
     have hbg : bb ≠ g := fun e => own_no hrowc hBc (by decide) (by rw [e]; rfl)
     have hkg : gk ≠ g := fun e => own_no hrowc hKc (by decide) (by rw [e]; rfl)
     have own3 := loan_mod5 hrowc hL false
     have hm3 := hmc.kept (grown_set wrc ⟨g, i * 6 + 5, none⟩ (.bool false)) (NoMap.own hrowc)
     have hA3 := hAc.app hrowc (grown_set wrc ⟨g, i * 6 + 5, none⟩ (.bool false))
     have hB3 := hBc.far (p := ⟨g, i * 6 + 5, none⟩) hbg (.bool false)
     have hK3 := hKc.far (p := ⟨g, i * 6 + 5, none⟩) hkg (.bool false)
     have c5 : wrc.cell? ⟨g, i * 6 + 5, none⟩ = some (.bool l.lost) := own_cell loanC_len hrowc hL 5 rfl e2
     have z0 : ∀ o, wrc.frozen? ⟨g, o, none⟩ = false := fun o => hrowc.frozenAt o
     have hgla : g < wrc.heap.size := (hrowc.lt g rfl).2
     have hXl : (L.loans.set i ⟨l.piece, l.no, l.singer, l.since, l.till, false⟩).length = L.loans.length := List.length_set
     replace hm3 := Lib.hid hm3; replace hA3 := Lib.hid hA3; replace hB3 := Lib.hid hB3; replace hK3 := Lib.hid hK3; replace own3 := Lib.hid own3; clear hrowc hBc hKc hmc hAc hrow hB hKa hm hAa lb lk9 c7 c6 k0 k1 hlk hkc herc hcrc
     go_upto_region 16 with fail
     clear c5 z0 hgla
     generalize (wrc.setCell ⟨g, i * 6 + 5, none⟩ (.bool false)) = W3 at *
     have hrow3 : LRow base W3 bb tp tn tc r ms ml mh (.slice (some ⟨g, 0, none⟩) L.loans.length cap) (L.loans.set i ⟨l.piece, l.no, l.singer, l.since, l.till, false⟩) := ⟨hB3.out, by rw [hXl]; exact own3.out⟩
     replace hrow3 := Lib.hid hrow3; clear own3 hB3
     have lb := hrow3.out.1.lt
     have lk9 := hK3.out.lt
     have c5 := hrow3.out.1.cell 5
     have k0 := hK3.out.cell 0
     have k1 := hK3.out.cell 1
     unfold libC at c5
     refine wp_region_facts [] [([],false,false),([0],false,false),([0,1],false,false),([0,1,2],false,false),([],false,false)] (Ext) Ext (fun _ => True) (by kernel_rfl) (by kernel_rfl) Ext.refl (fun _ _ _ => Ext.trans) (fun _ _ h => h) (fun _ _ h => h.size) (fun _ _ h _ => h) trivial ?_
     dsimp only [List.length_cons, List.length_nil, List.drop_succ_cons, List.drop_zero, List.drop_nil]
     refine fq 0 rfl rfl rfl cK rfl rfl ?_; apply Exists.intro; constructor
     ·intro sv w' hw' hfa
      refine ⟨rfl, ?_⟩; simp only [putsL]; change qT _; simp only [qT, Act.put, sIA, sCS, sCZ]; simp [go_sem, quietTo, Ext.refl]; all_goals rfl
     refine fq 1 rfl rfl rfl cK rfl rfl ?_; apply Exists.intro; constructor
     ·rintro sv w' hw' ⟨(f0 : sv 0 = _), -⟩; (try dsimp only at f0)
      refine ⟨rfl, ?_⟩; simp only [putsL]; change qT (pT _ 64 (sv 0)); simp only [qT, pT, Act.put, sIA, sCS, sCZ]; simp [go_sem, quietTo, Ext.refl, f0]; all_goals rfl
     refine fq 2 rfl rfl rfl cK rfl rfl ?_; apply Exists.intro; constructor
     ·rintro sv w' hw' ⟨_, (f1 : sv 1 = _), -⟩; (try dsimp only at f1)
      refine ⟨rfl, ?_⟩; simp only [putsL]; change qT (pT (pT _ 65 (sv 1)) 64 (sv 0)); simp only [qT, pT, Act.put, sIA, sCS, sCZ]; simp [go_sem, quietTo, Ext.refl, f1]; all_goals rfl
     refine fq 3 rfl rfl rfl cK rfl rfl ?_; apply Exists.intro; constructor
     ·rintro sv w' hw' ⟨_, _, (f2 : sv 2 = _), -⟩; (try dsimp only at f2)
      obtain ⟨hc, hf, hz9⟩ := ((Ext.refl W3).drew.trans hw').walk; have y5 := (hc bb 5 lb).trans c5
      refine ⟨rfl, ?_⟩; simp only [putsL]; change qT (pT (pT (pT _ 66 (sv 2)) 65 (sv 1)) 64 (sv 0)); simp only [qT, pT, Act.put, sIA, sCS, sCZ]; simp [go_sem, quietTo, Ext.refl, ↓IntWalk.iteOmega, f2, y5]; (all_goals try simp (disch := omega) only [IntWalk.i64_in]); all_goals rfl
     refine fq 4 rfl rfl rfl cK rfl rfl ?_; apply Exists.intro; constructor
     ·intro sv w' hw' hfa
      obtain ⟨hc, hf, hz9⟩ := ((Ext.refl W3).drew.trans hw').walk; have z0 := (hc gk 0 lk9).trans k0; have z1 := (hc gk 1 lk9).trans k1
      refine ⟨rfl, ?_⟩; simp only [putsL]; change qT _; simp only [qT, Act.put, sIA, sCS, sCZ]; simp [go_sem, quietTo, Ext.refl, ↓IntWalk.iteOmega, z0, z1]; (all_goals try simp (disch := omega) only [IntWalk.i64_in]); all_goals rfl
     refine fac_nil fun xd wrd herd hfrd hcrd holdd hapd => ?_
     obtain ⟨(f0 : xd 0 = _), (f1 : xd 1 = _), (f2 : xd 2 = _), (f3 : xd 3 = _), (f4 : xd 4 = _), -⟩ := hfrd; (try dsimp only at f0 f1 f2 f3 f4)
     change wpList _ _ _ _ (pT (pT (pT (pT (pT _ 64 (xd 0)) 65 (xd 1)) 66 (xd 2)) 67 (xd 3)) 68 (xd 4)) _
     simp only [putsL, Nat.reduceAdd, List.drop_succ_cons, List.drop_zero, List.drop_nil, pT, Act.put, sIA, sCS, sCZ]
     try simp only [f0, f1, f2, f3, f4]
     clear f0 f1 f2 f3 f4; clear holdd hapd
     have hkd := (Ext.refl W3).drew.trans herd
     obtain ⟨w6, hr6, hm6, hg6⟩ := (hm3.out.ext hkd).putSt (k := (piece, copy)) hok (by omega) inW
     unfold snV at hr6
     unfold inW at hr6
     have hrow6 := (hrow3.out.ext hkd).turned hg6 (hm3.out.ext hkd).st.isMap
     have hA6 := (hA3.out.ext hkd).grown hg6 (.inr (.inl rfl))
     replace hr6 := Lib.hid hr6; replace hm6 := Lib.hid hm6; replace hA6 := Lib.hid hA6; replace hrow6 := Lib.hid hrow6; clear hK3 hm3 hA3 hrow3 hg6 lb lk9 c5 k0 k1
     go_wp2_with (refine wpList_putM rfl _ _ _ 125 rfl (.map (some ms)) (.agg #[.string piece, .int .i64 copy]) (.string ⟨#[105,110]⟩) rfl rfl rfl w6 hr6.out ?_)
     go_ret
     exact ⟨by rw [hde.out]; rfl, by rw [hde.out]; exact ⟨⟨_, hrow6.out.1, hrow6.out.2⟩, (hm6.out.le (by omega)).same rfl rfl rfl⟩, hA6.out⟩
    ·have hde := hD.out
     rw [if_neg (by decide), if_neg (by decide), if_neg (by decide)] at hde
     obtain ⟨⟨lv, hB, hrow⟩, hm5⟩ := hMa
     have hrow5 : LRow base wra bb tp tn tc r ms ml mh lv L.loans := ⟨hB, hrow⟩
     have hK5 := hKa
     have hA5 := hAa
     replace hrow5 := Lib.hid hrow5; replace hm5 := Lib.hid hm5; replace hK5 := Lib.hid hK5; replace hA5 := Lib.hid hA5; replace hde := Lib.hid hde; clear hD hXa hsn hlend hend hfnd d0 d1 d2 d4 d5 d6 hKa hAa hB hrow
     go_upto_region 8 with fail
     have lb := hrow5.out.1.lt
     have lk9 := hK5.out.lt
     have c5 := hrow5.out.1.cell 5
     have k0 := hK5.out.cell 0
     have k1 := hK5.out.cell 1
     unfold libC at c5
     refine wp_region_facts [] [([],false,false),([0],false,false),([0,1],false,false),([0,1,2],false,false),([],false,false)] (Ext) Ext (fun _ => True) (by kernel_rfl) (by kernel_rfl) Ext.refl (fun _ _ _ => Ext.trans) (fun _ _ h => h) (fun _ _ h => h.size) (fun _ _ h _ => h) trivial ?_
     dsimp only [List.length_cons, List.length_nil, List.drop_succ_cons, List.drop_zero, List.drop_nil]
     refine fq 0 rfl rfl rfl cK rfl rfl ?_; apply Exists.intro; constructor
     ·intro sv w' hw' hfa
      refine ⟨rfl, ?_⟩; simp only [putsL]; change qT _; simp only [qT, Act.put, sIA, sCS, sCZ]; simp [go_sem, quietTo, Ext.refl]; all_goals rfl
     refine fq 1 rfl rfl rfl cK rfl rfl ?_; apply Exists.intro; constructor
     ·rintro sv w' hw' ⟨(f0 : sv 0 = _), -⟩; (try dsimp only at f0)
      refine ⟨rfl, ?_⟩; simp only [putsL]; change qT (pT _ 31 (sv 0)); simp only [qT, pT, Act.put, sIA, sCS, sCZ]; simp [go_sem, quietTo, Ext.refl, f0]; all_goals rfl
     refine fq 2 rfl rfl rfl cK rfl rfl ?_; apply Exists.intro; constructor
     ·rintro sv w' hw' ⟨_, (f1 : sv 1 = _), -⟩; (try dsimp only at f1)
      refine ⟨rfl, ?_⟩; simp only [putsL]; change qT (pT (pT _ 32 (sv 1)) 31 (sv 0)); simp only [qT, pT, Act.put, sIA, sCS, sCZ]; simp [go_sem, quietTo, Ext.refl, f1]; all_goals rfl
     refine fq 3 rfl rfl rfl cK rfl rfl ?_; apply Exists.intro; constructor
     ·rintro sv w' hw' ⟨_, _, (f2 : sv 2 = _), -⟩; (try dsimp only at f2)
      obtain ⟨hc, hf, hz9⟩ := ((Ext.refl wra).drew.trans hw').walk; have y5 := (hc bb 5 lb).trans c5
      refine ⟨rfl, ?_⟩; simp only [putsL]; change qT (pT (pT (pT _ 33 (sv 2)) 32 (sv 1)) 31 (sv 0)); simp only [qT, pT, Act.put, sIA, sCS, sCZ]; simp [go_sem, quietTo, Ext.refl, ↓IntWalk.iteOmega, f2, y5]; (all_goals try simp (disch := omega) only [IntWalk.i64_in]); all_goals rfl
     refine fq 4 rfl rfl rfl cK rfl rfl ?_; apply Exists.intro; constructor
     ·intro sv w' hw' hfa
      obtain ⟨hc, hf, hz9⟩ := ((Ext.refl wra).drew.trans hw').walk; have z0 := (hc gk 0 lk9).trans k0; have z1 := (hc gk 1 lk9).trans k1
      refine ⟨rfl, ?_⟩; simp only [putsL]; change qT _; simp only [qT, Act.put, sIA, sCS, sCZ]; simp [go_sem, quietTo, Ext.refl, ↓IntWalk.iteOmega, z0, z1]; (all_goals try simp (disch := omega) only [IntWalk.i64_in]); all_goals rfl
     refine fac_nil fun xd wrd herd hfrd hcrd holdd hapd => ?_
     obtain ⟨(f0 : xd 0 = _), (f1 : xd 1 = _), (f2 : xd 2 = _), (f3 : xd 3 = _), (f4 : xd 4 = _), -⟩ := hfrd; (try dsimp only at f0 f1 f2 f3 f4)
     change wpList _ _ _ _ (pT (pT (pT (pT (pT _ 31 (xd 0)) 32 (xd 1)) 33 (xd 2)) 34 (xd 3)) 35 (xd 4)) _
     simp only [putsL, Nat.reduceAdd, List.drop_succ_cons, List.drop_zero, List.drop_nil, pT, Act.put, sIA, sCS, sCZ]
     try simp only [f0, f1, f2, f3, f4]
     clear f0 f1 f2 f3 f4; clear holdd hapd
     have hkd := (Ext.refl wra).drew.trans herd
     obtain ⟨w6, hr6, hm6, hg6⟩ := (hm5.out.ext hkd).putSt (k := (piece, copy)) hok (by omega) goneW
     unfold snV at hr6
     unfold goneW at hr6
     have hrow6 := (hrow5.out.ext hkd).turned hg6 (hm5.out.ext hkd).st.isMap
     have hA6 := (hA5.out.ext hkd).grown hg6 (.inr (.inl rfl))
     replace hr6 := Lib.hid hr6; replace hm6 := Lib.hid hm6; replace hA6 := Lib.hid hA6; replace hrow6 := Lib.hid hrow6; clear hK5 hm5 hA5 hrow5 hg6 lb lk9 c5 k0 k1
     go_wp2_with (refine wpList_putM rfl _ _ _ 125 rfl (.map (some ms)) (.agg #[.string piece, .int .i64 copy]) (.string ⟨#[103,111,110,101]⟩) rfl rfl rfl w6 hr6.out ?_)
     go_ret
     exact ⟨by rw [hde.out]; rfl, by rw [hde.out]; exact ⟨⟨_, hrow6.out.1, hrow6.out.2⟩, (hm6.out.le (by omega)).same rfl rfl rfl⟩, hA6.out⟩
   ·have hde := hD.out
    rw [if_pos (by simpa using hs)] at hde
    replace hde := Lib.hid hde
    have hsb : (st.toList == nw.toList) = false := by rw [← Bool.not_eq_true, bytesB]; exact hs
    refine wp_region_facts [] [([],false,false),([],false,false),([0,1],false,false),([],false,false),([],false,false),([4],false,false),([3,4,5],false,false),([0,1,2,3,4,5,6],false,false)] (Ext) Ext (fun _ => True) (by kernel_rfl) (by kernel_rfl) Ext.refl (fun _ _ _ => Ext.trans) (fun _ _ h => h) (fun _ _ h => h.size) (fun _ _ h _ => h) trivial ?_
    dsimp only [List.length_cons, List.length_nil, List.drop_succ_cons, List.drop_zero, List.drop_nil]
    refine fq 0 rfl rfl rfl cK rfl rfl ?_; apply Exists.intro; constructor
    ·intro sv w' hw' hfa
     refine ⟨rfl, ?_⟩; simp only [putsL]; change qT _; simp only [qT, Act.put, sIA, sCS, sCZ]; simp [go_sem, quietTo, Ext.refl]; all_goals rfl
    refine fq 1 rfl rfl rfl cK rfl rfl ?_; apply Exists.intro; constructor
    ·intro sv w' hw' hfa
     have hk9 := (Ext.refl u5).drew.trans hw'; obtain ⟨hc, hf, hz9⟩ := hk9.walk; have z0 := (hc gk 0 lk).trans k0; have z1 := (hc gk 1 lk).trans k1
     refine ⟨rfl, ?_⟩; simp only [putsL]; change qT _; simp only [qT, Act.put, sIA, sCS, sCZ]; simp [go_sem, quietTo, Ext.refl, ↓IntWalk.iteOmega, z0, z1]; (all_goals try simp (disch := omega) only [IntWalk.i64_in]); all_goals rfl
    refine fq 2 rfl rfl rfl cK rfl rfl ?_; apply Exists.intro; constructor
    ·rintro sv w' hw' ⟨(f0 : sv 0 = _), (f1 : sv 1 = _), -⟩; (try dsimp only at f0 f1)
     have hk9 := (Ext.refl u5).drew.trans hw'
     refine ⟨rfl, ?_⟩; simp only [putsL]; change qT (pT (pT _ 22 (sv 1)) 21 (sv 0)); simp only [qT, pT, Act.put, sIA, sCS, sCZ]; simp [go_sem, quietTo, Ext.refl, ↓IntWalk.iteOmega, f0, f1]; (all_goals try simp (disch := omega) only [IntWalk.i64_in]); all_goals first | rfl | (exact hst.out _ hk9)
    refine fq 3 rfl rfl rfl cK rfl rfl ?_; apply Exists.intro; constructor
    ·intro sv w' hw' hfa
     refine ⟨rfl, ?_⟩; simp only [putsL]; change qT _; simp only [qT, Act.put, sIA, sCS, sCZ]; simp [go_sem, quietTo, Ext.refl]; all_goals rfl
    refine fq 4 rfl rfl rfl cK rfl rfl ?_; apply Exists.intro; constructor
    ·intro sv w' hw' hfa
     refine ⟨rfl, ?_⟩; simp only [putsL]; change qT _; simp only [qT, Act.put, sIA, sCS, sCZ]; simp [go_sem, quietTo, Ext.refl]; all_goals rfl
    refine fq 5 rfl rfl rfl cK rfl rfl ?_; apply Exists.intro; constructor
    ·rintro sv w' hw' ⟨(f4 : sv 4 = _), -⟩; (try dsimp only at f4)
     have hk9 := (Ext.refl u5).drew.trans hw'; obtain ⟨hc, hf, hz9⟩ := hk9.walk; have y3 := (hc gx 3 lx).trans e3
     refine ⟨rfl, ?_⟩; simp only [putsL]; change qT (pT _ 25 (sv 4)); simp only [qT, pT, Act.put, sIA, sCS, sCZ]; simp [go_sem, quietTo, Ext.refl, ↓IntWalk.iteOmega, f4, y3]; (all_goals try simp (disch := omega) only [IntWalk.i64_in]); all_goals rfl
    refine fq 6 rfl rfl rfl cK rfl rfl ?_; apply Exists.intro; constructor
    ·rintro sv w' hw' ⟨(f3 : sv 3 = _), _, (f5 : sv 5 = _), -⟩; (try dsimp only at f3 f5)
     have hk9 := (Ext.refl u5).drew.trans hw'; have hl9 := hnd9.out w' hk9
     refine ⟨rfl, ?_⟩; simp only [putsL]; change qT (pT (pT (pT _ 26 (sv 5)) 25 (sv 4)) 24 (sv 3)); simp only [qT, pT, Act.put, sIA, sCS, sCZ]; simp [go_sem, quietTo, Ext.refl, ↓IntWalk.iteOmega, f3, f5, hl9]; (all_goals try simp (disch := omega) only [IntWalk.i64_in]); all_goals rfl
    refine fq 7 rfl rfl rfl cK rfl rfl ?_; apply Exists.intro; constructor
    ·rintro sv w' hw' ⟨_, _, (f2 : sv 2 = _), _, _, _, (f6 : sv 6 = _), -⟩; (try dsimp only at f2 f6)
     refine ⟨rfl, ?_⟩; simp only [putsL]; change qT (pT (pT (pT (pT (pT (pT (pT _ 27 (sv 6)) 26 (sv 5)) 25 (sv 4)) 24 (sv 3)) 23 (sv 2)) 22 (sv 1)) 21 (sv 0)); simp only [qT, pT, Act.put, sIA, sCS, sCZ]; simp [go_sem, quietTo, Ext.refl, ↓IntWalk.iteOmega, f2, f6, hsb]; (all_goals try simp (disch := omega) only [IntWalk.i64_in]); all_goals rfl
    refine fac_nil fun xa wra hera hfra hcra holda hapa => ?_
    obtain ⟨(f0 : xa 0 = _), (f1 : xa 1 = _), (f2 : xa 2 = _), (f3 : xa 3 = _), (f4 : xa 4 = _), (f5 : xa 5 = _), (f6 : xa 6 = _), (f7 : xa 7 = _), -⟩ := hfra; (try dsimp only at f0 f1 f2 f3 f4 f5 f6 f7)
    change wpList _ _ _ _ (pT (pT (pT (pT (pT (pT (pT (pT _ 21 (xa 0)) 22 (xa 1)) 23 (xa 2)) 24 (xa 3)) 25 (xa 4)) 26 (xa 5)) 27 (xa 6)) 28 (xa 7)) _
    simp only [putsL, Nat.reduceAdd, List.drop_succ_cons, List.drop_zero, List.drop_nil, pT, Act.put, sIA, sCS, sCZ]
    try simp only [f0, f1, f2, f3, f4, f5, f6, f7]
    clear f0 f1 f2 f3 f4 f5 f6 f7; clear holda hapa
    have hka := (Ext.refl u5).drew.trans hera
    go_wp2
    go_ret
    exact ⟨by rw [hde.out]; rfl, by rw [hde.out]; exact (hM5.out.ext hka).more (by omega), hA5.out.ext hka⟩
end Go.Proofs.YtkjhbofbcmelgaaGreatDoor
