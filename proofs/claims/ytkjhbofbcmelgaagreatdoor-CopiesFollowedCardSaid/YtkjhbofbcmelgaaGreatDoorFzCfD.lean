/- State, Way and Has of a library where something is wrong; Has: the walks. Conditions: sizes; at most 19 slips. (Printed by gen_cfd.py.) -/
import Derived.Test.YtkjhbofbcmelgaaGreatDoorFzJ32
import Derived.Test.YtkjhbofbcmelgaaGreatDoorFzShB
import Derived.Test.YtkjhbofbcmelgaaGreatDoorFzLcB
set_option linter.unusedSimpArgs false
set_option linter.unusedVariables false
namespace Go.Proofs.YtkjhbofbcmelgaaGreatDoor
open Go Go.RowKit Go.Sort
set_option maxRecDepth 100000 in
theorem copyClo_is {w : World} {gT gP gN : Nat} {tp : Option Addr} {tn tc : Nat} {T : List TitleV} {p : ByteArray} {no : Int} (hBT : Blk w gT 26 #[.slice tp tn tc]) (hBP : Blk w gP 9 #[.string p]) (hBN : Blk w gN 3 #[.int .i64 no]) (hT : Slc 3 titleC w tp tn tc T) (hTo : TitlesOk T) :
 Calls Tryz.prog 126 #[.pointer (some ⟨gT, 0, none⟩), .pointer (some ⟨gP, 0, none⟩), .pointer (some ⟨gN, 0, none⟩)] w fun e w' => e = .returned (.int .i64 (copyF T (p, no))) ∧ Ext w w' := by
 cases hc : isCopyT T (p, no) with
 | true =>
   rw [show copyF T (p, no) = 0 by unfold copyF; rw [if_pos hc]]
   exact copyClo_any hBT hBP hBN hT hTo hc
 | false =>
   rw [show copyF T (p, no) = 8 by unfold copyF; rw [if_neg (by rw [hc]; decide)]]
   have hE : Ext w (w.alloc (.cells #[.slice tp tn tc, .int .i64 0, .int .i64 0, .int .i64 0, .int .i64 0, .map none, .map none, .slice none 0 0, .map none] 130)) := (Ext.refl w).alloc _
   have hB : Blk (w.alloc (.cells #[.slice tp tn tc, .int .i64 0, .int .i64 0, .int .i64 0, .int .i64 0, .map none, .map none, .slice none 0 0, .map none] 130)) w.heap.size 130 #[.slice tp tn tc, .int .i64 0, .int .i64 0, .int .i64 0, .int .i64 0, .map none, .map none, .slice none 0 0, .map none] := Blk.new' rfl
   have hic := isCopy_any w.heap.size _ tp tn tc T p no _ hB rfl (hT.ext hE) hTo
   rw [hc] at hic
   have t0 := hBT.cell 0
   have p0 := hBP.cell 0
   have n0 := hBN.cell 0
   have lt := hBT.lt
   have lp := hBP.lt
   have ln := hBN.lt
   replace hic := Lib.hid hic; replace hE := Lib.hid hE; clear hBT hBP hBN hT hB
   go_enter Tryz.func126, Tryz.ntmps126
   go_wp2_with (go_at_call 127; (with_reducible refine Calls.mono hic.out ?_); rintro e w1 ⟨rfl, hb1⟩)
   go_ret
   exact ⟨rfl, hE.out.trans hb1⟩
def keyE (s : ByteArray) : Int := if keyB s then 0 else 5
set_option maxRecDepth 100000 in
theorem singerClo_any {w : World} {gS : Nat} {s : ByteArray} (hB : Blk w gS 9 #[.string s]) (hs : s.size ≤ 1000000000) :
 Calls Tryz.prog 131 #[.pointer (some ⟨gS, 0, none⟩)] w fun e w' => e = .returned (.int .i64 (keyE s)) ∧ Ext w w' := by
 have hk := fun u => isKey_any s u (by omega)
 have s0 := hB.cell 0
 have ls := hB.lt
 unfold keyE
 generalize keyB s = v at *
 clear hB; replace hk := Lib.hid hk
 cases v
 all_goals
  go_enter Tryz.func131, Tryz.ntmps131
  go_wp2_with (go_at_call 132; (with_reducible refine Calls.mono (hk.out _) ?_); rintro e w1 ⟨rfl, hb1⟩)
  go_ret
  exact ⟨rfl, hb1⟩
set_option maxRecDepth 100000 in
theorem singerFault_any (s : ByteArray) (w : World) :
 Calls Tryz.prog 69 #[.string s] w fun e w' => ∃ gS : Nat, e = .returned (.func (.func 131) #[] #[.pointer (some ⟨gS, 0, none⟩)]) ∧ Blk w' gS 9 #[.string s] ∧ Ext w w' := by
 have hB : Blk (w.alloc (.cells #[.string s] 9)) w.heap.size 9 #[.string s] := Blk.new' rfl
 have hE : Ext w (w.alloc (.cells #[.string s] 9)) := (Ext.refl w).alloc _
 replace hB := Lib.hid hB; replace hE := Lib.hid hE
 go_enter Tryz.func69, Tryz.ntmps69
 go_wp2
 go_ret
 exact ⟨_, rfl, hB.out, hE.out⟩
set_option maxRecDepth 100000 in
set_option maxHeartbeats 3200000 in
theorem state_bad (tp : Option Addr) (tn tc : Nat) (T : List TitleV) (r : LendR) (dp : Option Addr) (dn dc : Nat) (d : List SlipV) (t : Int) (p : ByteArray) (no : Int) (w : World) (h : ListsW w tp tn tc T r dp dn dc d) (hf : atF T r d t (copyF T (p, no)) ≠ 0) :
 Calls Tryz.prog 13 #[.slice tp tn tc, lendVal r, .slice dp dn dc, .string p, .int .i64 no, .int .i64 t] w fun e w' => e = .returned (.tuple #[.string ⟨#[]⟩, .int .i64 (atF T r d t (copyF T (p, no)))]) ∧ Ext w w' := by
 have hat := fun u g1 g2 g3 (hu : Ext w u) (h1 : Blk u g1 26 #[.slice tp tn tc]) (h2 : Blk u g2 9 #[.string p]) (h3 : Blk u g3 3 #[.int .i64 no]) => atK_bad tp tn tc T r dp dn dc d t (copyF T (p, no)) g1 g2 g3 u (h.ext hu) hf fun h0 v hv => copyClo_is (h1.ext hv) (h2.ext hv) (h3.ext hv) ((h.ext hu).ext hv).ti (titlesF_ok (libF_zero h0).1)
 generalize atF T r d t (copyF T (p, no)) = f at *
 have hfb : (f == 0) = false := beq_false_of_ne hf
 unfold lendVal at hat ⊢
 have hE : Ext w (w.alloc (.cells #[.int .i64 r.days, .int .i64 r.late, .int .i64 r.most, .int .i64 r.each] 28)) := (Ext.refl w).alloc _
 have hX : Blk (w.alloc (.cells #[.int .i64 r.days, .int .i64 r.late, .int .i64 r.most, .int .i64 r.each] 28)) w.heap.size 28 #[.int .i64 r.days, .int .i64 r.late, .int .i64 r.most, .int .i64 r.each] := Blk.new' rfl
 have lx := hX.lt
 have x0 := hX.cell 0
 have x1 := hX.cell 1
 have x2 := hX.cell 2
 have x3 := hX.cell 3
 clear h hX; replace hf := Lib.hid hf; replace hat := Lib.hid hat; replace hE := Lib.hid hE
 go_enter Tryz.func13, Tryz.ntmps13
 go_upto_region 1 with fail
 generalize w.heap.size = gx at *
 generalize (w.alloc (.cells #[.int .i64 r.days, .int .i64 r.late, .int .i64 r.most, .int .i64 r.each] 28)) = W1 at *
 refine wp_region_facts [11] [([],false,false),([],false,false),([],false,false),([],false,false),([],false,false),([],false,false),([],false,false),([4,5,6],false,false),([0,1,2,3,4,5,6,7],false,false),([0,1,2,3,4,5,6,7,8],false,false),([0,1,2,3,4,5,6,7,8,9],false,false),([0,1,2,3,4,5,6,7,8,9],false,false)] (Ext) Ext (fun _ => True) (by kernel_rfl) (by kernel_rfl) Ext.refl (fun _ _ _ => Ext.trans) (fun _ _ h => h) (fun _ _ h => h.size) (fun _ _ h _ => h) trivial ?_
 dsimp only [List.length_cons, List.length_nil, List.drop_succ_cons, List.drop_zero, List.drop_nil]
 refine fq 0 rfl rfl rfl cK rfl rfl ?_; apply Exists.intro; constructor
 ·intro sv w' hw' hfa
  refine ⟨rfl, ?_⟩; simp only [putsL]; change qT _; simp only [qT, Act.put, sIA, sCS, sCZ]; simp [go_sem, quietTo, Ext.refl]; all_goals rfl
 refine fq 1 rfl rfl rfl cK rfl rfl ?_; apply Exists.intro; constructor
 ·intro sv w' hw' hfa
  have hk9 := (Ext.refl W1).drew.trans hw'; obtain ⟨hc, -, -⟩ := hk9.walk; have y0 := (hc gx 0 lx).trans x0; have y1 := (hc gx 1 lx).trans x1; have y2 := (hc gx 2 lx).trans x2; have y3 := (hc gx 3 lx).trans x3
  refine ⟨rfl, ?_⟩; simp only [putsL]; change qT _; simp only [qT, Act.put, sIA, sCS, sCZ]; simp [go_sem, quietTo, Ext.refl, ↓IntWalk.iteOmega, y0, y1, y2, y3]; (all_goals try simp (disch := omega) only [IntWalk.i64_in]); all_goals rfl
 refine fq 2 rfl rfl rfl cK rfl rfl ?_; apply Exists.intro; constructor
 ·intro sv w' hw' hfa
  refine ⟨rfl, ?_⟩; simp only [putsL]; change qT _; simp only [qT, Act.put, sIA, sCS, sCZ]; simp [go_sem, quietTo, Ext.refl]; all_goals rfl
 refine fq 3 rfl rfl rfl cK rfl rfl ?_; apply Exists.intro; constructor
 ·intro sv w' hw' hfa
  refine ⟨rfl, ?_⟩; simp only [putsL]; change qT _; simp only [qT, Act.put, sIA, sCS, sCZ]; simp [go_sem, quietTo, Ext.refl]; all_goals rfl
 refine fq 4 rfl rfl rfl cK rfl rfl ?_; apply Exists.intro; constructor
 ·intro sv w' hw' hfa
  refine ⟨rfl, ?_⟩; simp only [putsL]; change qT _; simp only [qT, Act.put, sIA, sCS, sCZ]; simp [go_sem, quietTo, Ext.refl]; all_goals rfl
 refine fq 5 rfl rfl rfl cK rfl rfl ?_; apply Exists.intro; constructor
 ·intro sv w' hw' hfa
  refine ⟨rfl, ?_⟩; simp only [putsL]; change qT _; simp only [qT, Act.put, sIA, sCS, sCZ]; simp [go_sem, quietTo, Ext.refl]; all_goals rfl
 refine fq 6 rfl rfl rfl cK rfl rfl ?_; apply Exists.intro; constructor
 ·intro sv w' hw' hfa
  refine ⟨rfl, ?_⟩; simp only [putsL]; change qT _; simp only [qT, Act.put, sIA, sCS, sCZ]; simp [go_sem, quietTo, Ext.refl]; all_goals rfl
 refine fac_any 7 rfl rfl rfl cK ?_
 refine ⟨(fun y u => ∃ gT gP gN : Nat, y 7 = .func (.func 126) #[] #[.pointer (some ⟨gT, 0, none⟩), .pointer (some ⟨gP, 0, none⟩), .pointer (some ⟨gN, 0, none⟩)] ∧ Blk u gT 26 #[.slice tp tn tc] ∧ Blk u gP 9 #[.string p] ∧ Blk u gN 3 #[.int .i64 no]), fun sv w' hw' hfa => ?_, ?_, ?_⟩
 ·obtain ⟨(f4 : sv 4 = _), (f5 : sv 5 = _), (f6 : sv 6 = _), -⟩ := hfa; (try dsimp only at f4 f5 f6)
  have hk9 := (Ext.refl W1).drew.trans hw'; obtain ⟨hc, -, -⟩ := hk9.walk; have y0 := (hc gx 0 lx).trans x0; have y1 := (hc gx 1 lx).trans x1; have y2 := (hc gx 2 lx).trans x2; have y3 := (hc gx 3 lx).trans x3
  refine ⟨rfl, ?_⟩
  simp only [putsL]
  change outc _ _ (Sem.run _ (execOp (Act.eval (pT (pT (pT _ 23 (sv 6)) 22 (sv 5)) 21 (sv 4))) _) _)
  try simp only [pT, Act.put, sIA, sCS, sCZ]
  simp [go_sem, outc, f4, f5, f6]
  refine (copyFault_any tp tn tc p no _).mono ?_
  rintro e w9 ⟨gT, gP, gN, rfl, h1, h2, h3, hb9⟩
  exact ⟨_, rfl, hb9, gT, gP, gN, by simp [upd], h1, h2, h3⟩
 ·exact fun x w w' ⟨a, b, c, h1, h2, h3, h4⟩ he => ⟨a, b, c, h1, h2.ext he, h3.ext he, h4.ext he⟩
 refine fac_any 8 rfl rfl rfl cK ?_
 refine ⟨(fun y u => y 8 = .tuple #[.pointer none, .int .i64 f]), fun sv w' hw' hfa => ?_, ?_, ?_⟩
 ·obtain ⟨(f0 : sv 0 = _), (f1 : sv 1 = _), (f2 : sv 2 = _), (f3 : sv 3 = _), (f4 : sv 4 = _), (f5 : sv 5 = _), (f6 : sv 6 = _), f7, -⟩ := hfa; (try dsimp only at f0 f1 f2 f3 f4 f5 f6)
  obtain ⟨gT, gP, gN, f7, hB1, hB2, hB3⟩ := f7
  replace f7 : sv 7 = _ := f7
  have hk9 := (Ext.refl W1).drew.trans hw'; obtain ⟨hc, -, -⟩ := hk9.walk; have y0 := (hc gx 0 lx).trans x0; have y1 := (hc gx 1 lx).trans x1; have y2 := (hc gx 2 lx).trans x2; have y3 := (hc gx 3 lx).trans x3
  refine ⟨rfl, ?_⟩
  simp only [putsL]
  change outc _ _ (Sem.run _ (execOp (Act.eval (pT (pT (pT (pT (pT (pT (pT (pT _ 24 (sv 7)) 23 (sv 6)) 22 (sv 5)) 21 (sv 4)) 20 (sv 3)) 19 (sv 2)) 18 (sv 1)) 17 (sv 0))) _) _)
  try simp only [pT, Act.put, sIA, sCS, sCZ]
  simp [go_sem, outc, f0, f1, f2, f3, f7]
  refine (hat.out _ gT gP gN (hE.out.trans hk9) hB1 hB2 hB3).mono ?_
  rintro e w9 ⟨rfl, hb9⟩
  exact ⟨_, rfl, hb9, by simp [upd]⟩
 ·exact fun x w w' h he => h
 refine fq 9 rfl rfl rfl cK rfl rfl ?_; apply Exists.intro; constructor
 ·rintro sv w' hw' ⟨_, _, _, _, _, _, _, _, (f8 : sv 8 = _), -⟩
  refine ⟨rfl, ?_⟩; simp only [putsL]; change qT (pT (pT (pT (pT (pT (pT (pT (pT (pT _ 25 (sv 8)) 24 (sv 7)) 23 (sv 6)) 22 (sv 5)) 21 (sv 4)) 20 (sv 3)) 19 (sv 2)) 18 (sv 1)) 17 (sv 0)); simp only [qT, pT, Act.put, sIA, sCS, sCZ]; simp [go_sem, quietTo, Ext.refl, f8]; all_goals rfl
 refine fq 10 rfl rfl rfl cK rfl rfl ?_; apply Exists.intro; constructor
 ·rintro sv w' hw' ⟨_, _, _, _, _, _, _, _, _, (f9 : sv 9 = _), -⟩; (try dsimp only at f9)
  refine ⟨rfl, ?_⟩; simp only [putsL]; change qT (pT (pT (pT (pT (pT (pT (pT (pT (pT (pT _ 16 (sv 9)) 25 (sv 8)) 24 (sv 7)) 23 (sv 6)) 22 (sv 5)) 21 (sv 4)) 20 (sv 3)) 19 (sv 2)) 18 (sv 1)) 17 (sv 0)); simp only [qT, pT, Act.put, sIA, sCS, sCZ]; simp [go_sem, quietTo, Ext.refl, f9]; all_goals rfl
 refine fac_late 11 rfl rfl Ext.refl cK rfl rfl (fun _ _ _ _ h => h) ?_; apply Exists.intro; constructor
 ·rintro sv w' hw' ⟨_, _, _, _, _, _, _, _, _, (f9 : sv 9 = _), -⟩; (try dsimp only at f9)
  refine ⟨rfl, fun w2 => ?_⟩
  simp only [putsL]
  change pureTo _ _ (Sem.run _ (execOp (Act.eval (Act.put (Act.put (Act.put (Act.put (Act.put (Act.put (Act.put (Act.put (Act.put (Act.put _ (some 16) (sv 9)) (some 25) (sv 8)) (some 24) (sv 7)) (some 23) (sv 6)) (some 22) (sv 5)) (some 21) (sv 4)) (some 20) (sv 3)) (some 19) (sv 2)) (some 18) (sv 1)) (some 17) (sv 0))) _) _)
  try simp only [Act.put, sIA, sCS, sCZ]
  simp [go_sem, pureTo, f9]
  (all_goals try simp (disch := omega) only [IntWalk.i64_in]); all_goals rfl
 refine fac_nil fun xa wra hera hfra hcra holda hapa => ?_
 obtain ⟨(f0 : xa 0 = _), (f1 : xa 1 = _), (f2 : xa 2 = _), (f3 : xa 3 = _), (f4 : xa 4 = _), (f5 : xa 5 = _), (f6 : xa 6 = _), f7, f8, f9, f10, f11, -⟩ := hfra; (try dsimp only at f0 f1 f2 f3 f4 f5 f6)
 obtain ⟨gT, gP, gN, f7, hB1, hB2, hB3⟩ := f7
 replace f7 : xa 7 = _ := f7; replace f8 : xa 8 = _ := f8; replace f9 : xa 9 = _ := f9
 try dsimp only at f9
 replace f10 : xa 10 = _ := f10
 try dsimp only at f10
 replace f11 : xa 11 = _ := f11
 try dsimp only at f11
 change wpList _ _ _ _ (pT (pT (pT (pT (pT (pT (pT (pT (pT (pT (pT (pT _ 17 (xa 0)) 18 (xa 1)) 19 (xa 2)) 20 (xa 3)) 21 (xa 4)) 22 (xa 5)) 23 (xa 6)) 24 (xa 7)) 25 (xa 8)) 16 (xa 9)) 26 (xa 10)) 27 (xa 11)) _
 simp only [putsL, Nat.reduceAdd, List.drop_succ_cons, List.drop_zero, List.drop_nil, pT, Act.put, sIA, sCS, sCZ]
 try simp only [f0, f1, f2, f3, f4, f5, f6, f7, f8, f9, f10, f11]
 clear f0 f1 f2 f3 f4 f5 f6 f9 f10 f11; clear holda hapa
 have hEw2 := (hE.out.trans (Ext.refl W1).drew).trans hera
 go_wp2
 go_ret2
 exact ⟨rfl, hEw2⟩
set_option maxRecDepth 100000 in
set_option maxHeartbeats 3200000 in
theorem way_bad (tp : Option Addr) (tn tc : Nat) (T : List TitleV) (r : LendR) (dp : Option Addr) (dn dc : Nat) (d : List SlipV) (t : Int) (p : ByteArray) (no : Int) (w : World) (h : ListsW w tp tn tc T r dp dn dc d) (hf : atF T r d t (copyF T (p, no)) ≠ 0) :
 Calls Tryz.prog 16 #[.slice tp tn tc, lendVal r, .slice dp dn dc, .string p, .int .i64 no, .int .i64 t] w fun e w' => e = .returned (.tuple #[.slice none 0 0, .int .i64 (atF T r d t (copyF T (p, no)))]) ∧ Ext w w' := by
 have hat := fun u g1 g2 g3 (hu : Ext w u) (h1 : Blk u g1 26 #[.slice tp tn tc]) (h2 : Blk u g2 9 #[.string p]) (h3 : Blk u g3 3 #[.int .i64 no]) => atK_bad tp tn tc T r dp dn dc d t (copyF T (p, no)) g1 g2 g3 u (h.ext hu) hf fun h0 v hv => copyClo_is (h1.ext hv) (h2.ext hv) (h3.ext hv) ((h.ext hu).ext hv).ti (titlesF_ok (libF_zero h0).1)
 generalize atF T r d t (copyF T (p, no)) = f at *
 have hfb : (f == 0) = false := beq_false_of_ne hf
 unfold lendVal at hat ⊢
 have hE : Ext w (w.alloc (.cells #[.int .i64 r.days, .int .i64 r.late, .int .i64 r.most, .int .i64 r.each] 28)) := (Ext.refl w).alloc _
 have hX : Blk (w.alloc (.cells #[.int .i64 r.days, .int .i64 r.late, .int .i64 r.most, .int .i64 r.each] 28)) w.heap.size 28 #[.int .i64 r.days, .int .i64 r.late, .int .i64 r.most, .int .i64 r.each] := Blk.new' rfl
 have lx := hX.lt
 have x0 := hX.cell 0
 have x1 := hX.cell 1
 have x2 := hX.cell 2
 have x3 := hX.cell 3
 clear h hX; replace hf := Lib.hid hf; replace hat := Lib.hid hat; replace hE := Lib.hid hE
 go_enter Tryz.func16, Tryz.ntmps16
 go_upto_region 1 with fail
 generalize w.heap.size = gx at *
 generalize (w.alloc (.cells #[.int .i64 r.days, .int .i64 r.late, .int .i64 r.most, .int .i64 r.each] 28)) = W1 at *
 refine wp_region_facts [11] [([],false,false),([],false,false),([],false,false),([],false,false),([],false,false),([],false,false),([],false,false),([4,5,6],false,false),([0,1,2,3,4,5,6,7],false,false),([0,1,2,3,4,5,6,7,8],false,false),([0,1,2,3,4,5,6,7,8,9],false,false),([0,1,2,3,4,5,6,7,8,9],false,false)] (Ext) Ext (fun _ => True) (by kernel_rfl) (by kernel_rfl) Ext.refl (fun _ _ _ => Ext.trans) (fun _ _ h => h) (fun _ _ h => h.size) (fun _ _ h _ => h) trivial ?_
 dsimp only [List.length_cons, List.length_nil, List.drop_succ_cons, List.drop_zero, List.drop_nil]
 refine fq 0 rfl rfl rfl cK rfl rfl ?_; apply Exists.intro; constructor
 ·intro sv w' hw' hfa
  refine ⟨rfl, ?_⟩; simp only [putsL]; change qT _; simp only [qT, Act.put, sIA, sCS, sCZ]; simp [go_sem, quietTo, Ext.refl]; all_goals rfl
 refine fq 1 rfl rfl rfl cK rfl rfl ?_; apply Exists.intro; constructor
 ·intro sv w' hw' hfa
  have hk9 := (Ext.refl W1).drew.trans hw'; obtain ⟨hc, -, -⟩ := hk9.walk; have y0 := (hc gx 0 lx).trans x0; have y1 := (hc gx 1 lx).trans x1; have y2 := (hc gx 2 lx).trans x2; have y3 := (hc gx 3 lx).trans x3
  refine ⟨rfl, ?_⟩; simp only [putsL]; change qT _; simp only [qT, Act.put, sIA, sCS, sCZ]; simp [go_sem, quietTo, Ext.refl, ↓IntWalk.iteOmega, y0, y1, y2, y3]; (all_goals try simp (disch := omega) only [IntWalk.i64_in]); all_goals rfl
 refine fq 2 rfl rfl rfl cK rfl rfl ?_; apply Exists.intro; constructor
 ·intro sv w' hw' hfa
  refine ⟨rfl, ?_⟩; simp only [putsL]; change qT _; simp only [qT, Act.put, sIA, sCS, sCZ]; simp [go_sem, quietTo, Ext.refl]; all_goals rfl
 refine fq 3 rfl rfl rfl cK rfl rfl ?_; apply Exists.intro; constructor
 ·intro sv w' hw' hfa
  refine ⟨rfl, ?_⟩; simp only [putsL]; change qT _; simp only [qT, Act.put, sIA, sCS, sCZ]; simp [go_sem, quietTo, Ext.refl]; all_goals rfl
 refine fq 4 rfl rfl rfl cK rfl rfl ?_; apply Exists.intro; constructor
 ·intro sv w' hw' hfa
  refine ⟨rfl, ?_⟩; simp only [putsL]; change qT _; simp only [qT, Act.put, sIA, sCS, sCZ]; simp [go_sem, quietTo, Ext.refl]; all_goals rfl
 refine fq 5 rfl rfl rfl cK rfl rfl ?_; apply Exists.intro; constructor
 ·intro sv w' hw' hfa
  refine ⟨rfl, ?_⟩; simp only [putsL]; change qT _; simp only [qT, Act.put, sIA, sCS, sCZ]; simp [go_sem, quietTo, Ext.refl]; all_goals rfl
 refine fq 6 rfl rfl rfl cK rfl rfl ?_; apply Exists.intro; constructor
 ·intro sv w' hw' hfa
  refine ⟨rfl, ?_⟩; simp only [putsL]; change qT _; simp only [qT, Act.put, sIA, sCS, sCZ]; simp [go_sem, quietTo, Ext.refl]; all_goals rfl
 refine fac_any 7 rfl rfl rfl cK ?_
 refine ⟨(fun y u => ∃ gT gP gN : Nat, y 7 = .func (.func 126) #[] #[.pointer (some ⟨gT, 0, none⟩), .pointer (some ⟨gP, 0, none⟩), .pointer (some ⟨gN, 0, none⟩)] ∧ Blk u gT 26 #[.slice tp tn tc] ∧ Blk u gP 9 #[.string p] ∧ Blk u gN 3 #[.int .i64 no]), fun sv w' hw' hfa => ?_, ?_, ?_⟩
 ·obtain ⟨(f4 : sv 4 = _), (f5 : sv 5 = _), (f6 : sv 6 = _), -⟩ := hfa; (try dsimp only at f4 f5 f6)
  have hk9 := (Ext.refl W1).drew.trans hw'; obtain ⟨hc, -, -⟩ := hk9.walk; have y0 := (hc gx 0 lx).trans x0; have y1 := (hc gx 1 lx).trans x1; have y2 := (hc gx 2 lx).trans x2; have y3 := (hc gx 3 lx).trans x3
  refine ⟨rfl, ?_⟩
  simp only [putsL]
  change outc _ _ (Sem.run _ (execOp (Act.eval (pT (pT (pT _ 26 (sv 6)) 25 (sv 5)) 24 (sv 4))) _) _)
  try simp only [pT, Act.put, sIA, sCS, sCZ]
  simp [go_sem, outc, f4, f5, f6]
  refine (copyFault_any tp tn tc p no _).mono ?_
  rintro e w9 ⟨gT, gP, gN, rfl, h1, h2, h3, hb9⟩
  exact ⟨_, rfl, hb9, gT, gP, gN, by simp [upd], h1, h2, h3⟩
 ·exact fun x w w' ⟨a, b, c, h1, h2, h3, h4⟩ he => ⟨a, b, c, h1, h2.ext he, h3.ext he, h4.ext he⟩
 refine fac_any 8 rfl rfl rfl cK ?_
 refine ⟨(fun y u => y 8 = .tuple #[.pointer none, .int .i64 f]), fun sv w' hw' hfa => ?_, ?_, ?_⟩
 ·obtain ⟨(f0 : sv 0 = _), (f1 : sv 1 = _), (f2 : sv 2 = _), (f3 : sv 3 = _), (f4 : sv 4 = _), (f5 : sv 5 = _), (f6 : sv 6 = _), f7, -⟩ := hfa; (try dsimp only at f0 f1 f2 f3 f4 f5 f6)
  obtain ⟨gT, gP, gN, f7, hB1, hB2, hB3⟩ := f7
  replace f7 : sv 7 = _ := f7
  have hk9 := (Ext.refl W1).drew.trans hw'; obtain ⟨hc, -, -⟩ := hk9.walk; have y0 := (hc gx 0 lx).trans x0; have y1 := (hc gx 1 lx).trans x1; have y2 := (hc gx 2 lx).trans x2; have y3 := (hc gx 3 lx).trans x3
  refine ⟨rfl, ?_⟩
  simp only [putsL]
  change outc _ _ (Sem.run _ (execOp (Act.eval (pT (pT (pT (pT (pT (pT (pT (pT _ 27 (sv 7)) 26 (sv 6)) 25 (sv 5)) 24 (sv 4)) 23 (sv 3)) 22 (sv 2)) 21 (sv 1)) 20 (sv 0))) _) _)
  try simp only [pT, Act.put, sIA, sCS, sCZ]
  simp [go_sem, outc, f0, f1, f2, f3, f7]
  refine (hat.out _ gT gP gN (hE.out.trans hk9) hB1 hB2 hB3).mono ?_
  rintro e w9 ⟨rfl, hb9⟩
  exact ⟨_, rfl, hb9, by simp [upd]⟩
 ·exact fun x w w' h he => h
 refine fq 9 rfl rfl rfl cK rfl rfl ?_; apply Exists.intro; constructor
 ·rintro sv w' hw' ⟨_, _, _, _, _, _, _, _, (f8 : sv 8 = _), -⟩
  refine ⟨rfl, ?_⟩; simp only [putsL]; change qT (pT (pT (pT (pT (pT (pT (pT (pT (pT _ 28 (sv 8)) 27 (sv 7)) 26 (sv 6)) 25 (sv 5)) 24 (sv 4)) 23 (sv 3)) 22 (sv 2)) 21 (sv 1)) 20 (sv 0)); simp only [qT, pT, Act.put, sIA, sCS, sCZ]; simp [go_sem, quietTo, Ext.refl, f8]; all_goals rfl
 refine fq 10 rfl rfl rfl cK rfl rfl ?_; apply Exists.intro; constructor
 ·rintro sv w' hw' ⟨_, _, _, _, _, _, _, _, _, (f9 : sv 9 = _), -⟩; (try dsimp only at f9)
  refine ⟨rfl, ?_⟩; simp only [putsL]; change qT (pT (pT (pT (pT (pT (pT (pT (pT (pT (pT _ 19 (sv 9)) 28 (sv 8)) 27 (sv 7)) 26 (sv 6)) 25 (sv 5)) 24 (sv 4)) 23 (sv 3)) 22 (sv 2)) 21 (sv 1)) 20 (sv 0)); simp only [qT, pT, Act.put, sIA, sCS, sCZ]; simp [go_sem, quietTo, Ext.refl, f9]; all_goals rfl
 refine fac_late 11 rfl rfl Ext.refl cK rfl rfl (fun _ _ _ _ h => h) ?_; apply Exists.intro; constructor
 ·rintro sv w' hw' ⟨_, _, _, _, _, _, _, _, _, (f9 : sv 9 = _), -⟩; (try dsimp only at f9)
  refine ⟨rfl, fun w2 => ?_⟩
  simp only [putsL]
  change pureTo _ _ (Sem.run _ (execOp (Act.eval (Act.put (Act.put (Act.put (Act.put (Act.put (Act.put (Act.put (Act.put (Act.put (Act.put _ (some 19) (sv 9)) (some 28) (sv 8)) (some 27) (sv 7)) (some 26) (sv 6)) (some 25) (sv 5)) (some 24) (sv 4)) (some 23) (sv 3)) (some 22) (sv 2)) (some 21) (sv 1)) (some 20) (sv 0))) _) _)
  try simp only [Act.put, sIA, sCS, sCZ]
  simp [go_sem, pureTo, f9]
  (all_goals try simp (disch := omega) only [IntWalk.i64_in]); all_goals rfl
 refine fac_nil fun xa wra hera hfra hcra holda hapa => ?_
 obtain ⟨(f0 : xa 0 = _), (f1 : xa 1 = _), (f2 : xa 2 = _), (f3 : xa 3 = _), (f4 : xa 4 = _), (f5 : xa 5 = _), (f6 : xa 6 = _), f7, f8, f9, f10, f11, -⟩ := hfra; (try dsimp only at f0 f1 f2 f3 f4 f5 f6)
 obtain ⟨gT, gP, gN, f7, hB1, hB2, hB3⟩ := f7
 replace f7 : xa 7 = _ := f7; replace f8 : xa 8 = _ := f8; replace f9 : xa 9 = _ := f9
 try dsimp only at f9
 replace f10 : xa 10 = _ := f10
 try dsimp only at f10
 replace f11 : xa 11 = _ := f11
 try dsimp only at f11
 change wpList _ _ _ _ (pT (pT (pT (pT (pT (pT (pT (pT (pT (pT (pT (pT _ 20 (xa 0)) 21 (xa 1)) 22 (xa 2)) 23 (xa 3)) 24 (xa 4)) 25 (xa 5)) 26 (xa 6)) 27 (xa 7)) 28 (xa 8)) 19 (xa 9)) 29 (xa 10)) 30 (xa 11)) _
 simp only [putsL, Nat.reduceAdd, List.drop_succ_cons, List.drop_zero, List.drop_nil, pT, Act.put, sIA, sCS, sCZ]
 try simp only [f0, f1, f2, f3, f4, f5, f6, f7, f8, f9, f10, f11]
 clear f0 f1 f2 f3 f4 f5 f6 f9 f10 f11; clear holda hapa
 have hEw2 := (hE.out.trans (Ext.refl W1).drew).trans hera
 go_wp2
 go_ret2
 exact ⟨rfl, hEw2⟩
set_option maxRecDepth 100000 in
set_option maxHeartbeats 3200000 in
theorem has_bad (tp : Option Addr) (tn tc : Nat) (T : List TitleV) (r : LendR) (dp : Option Addr) (dn dc : Nat) (d : List SlipV) (s : ByteArray) (t : Int) (w : World) (h : ListsW w tp tn tc T r dp dn dc d) (hs : s.size ≤ 1000000) (hf : atF T r d t (keyE s) ≠ 0) :
 Calls Tryz.prog 15 #[.slice tp tn tc, lendVal r, .slice dp dn dc, .string s, .int .i64 t] w fun e w' => e = .returned (.tuple #[.slice none 0 0, .int .i64 (atF T r d t (keyE s))]) ∧ Ext w w' := by
 have hat := fun u g1 (hu : Ext w u) (h1 : Blk u g1 9 #[.string s]) => atS_bad tp tn tc T r dp dn dc d t (keyE s) g1 u (h.ext hu) hf fun h0 v hv => singerClo_any (h1.ext hv) (by omega)
 generalize atF T r d t (keyE s) = f at *
 have hfb : (f == 0) = false := beq_false_of_ne hf
 unfold lendVal at hat ⊢
 have hE : Ext w ((w.alloc (.cells #[.int .i64 r.days, .int .i64 r.late, .int .i64 r.most, .int .i64 r.each] 28)).alloc (.cells #[.string s] 9)) := ((Ext.refl w).alloc _).alloc _
 have hX : Blk ((w.alloc (.cells #[.int .i64 r.days, .int .i64 r.late, .int .i64 r.most, .int .i64 r.each] 28)).alloc (.cells #[.string s] 9)) w.heap.size 28 #[.int .i64 r.days, .int .i64 r.late, .int .i64 r.most, .int .i64 r.each] := (Blk.new' rfl).alloc _
 have hS0 : Blk ((w.alloc (.cells #[.int .i64 r.days, .int .i64 r.late, .int .i64 r.most, .int .i64 r.each] 28)).alloc (.cells #[.string s] 9)) (w.heap.size + 1) 9 #[.string s] := Blk.new' (by simp)
 have lx := hX.lt
 have x0 := hX.cell 0
 have x1 := hX.cell 1
 have x2 := hX.cell 2
 have x3 := hX.cell 3
 have ls := hS0.lt
 have s0 := hS0.cell 0
 clear h hX hS0; replace hf := Lib.hid hf; replace hat := Lib.hid hat; replace hE := Lib.hid hE
 go_enter Tryz.func15, Tryz.ntmps15
 go_upto_region 1 with fail
 generalize hgs : w.heap.size + 1 = gs at *
 generalize w.heap.size = gx at *
 generalize ((w.alloc (.cells #[.int .i64 r.days, .int .i64 r.late, .int .i64 r.most, .int .i64 r.each] 28)).alloc (.cells #[.string s] 9)) = W1 at *
 clear hgs
 refine wp_region_facts [9] [([],false,false),([],false,false),([],false,false),([],false,false),([],false,false),([4],false,false),([0,1,2,3,4,5],false,false),([0,1,2,3,4,5,6],false,false),([0,1,2,3,4,5,6,7],false,false),([0,1,2,3,4,5,6,7],false,false)] (Ext) Ext (fun _ => True) (by kernel_rfl) (by kernel_rfl) Ext.refl (fun _ _ _ => Ext.trans) (fun _ _ h => h) (fun _ _ h => h.size) (fun _ _ h _ => h) trivial ?_
 dsimp only [List.length_cons, List.length_nil, List.drop_succ_cons, List.drop_zero, List.drop_nil]
 refine fq 0 rfl rfl rfl cK rfl rfl ?_; apply Exists.intro; constructor
 ·intro sv w' hw' hfa
  refine ⟨rfl, ?_⟩; simp only [putsL]; change qT _; simp only [qT, Act.put, sIA, sCS, sCZ]; simp [go_sem, quietTo, Ext.refl]; all_goals rfl
 refine fq 1 rfl rfl rfl cK rfl rfl ?_; apply Exists.intro; constructor
 ·intro sv w' hw' hfa
  have hk9 := (Ext.refl W1).drew.trans hw'; obtain ⟨hc, -, -⟩ := hk9.walk; have y0 := (hc gx 0 lx).trans x0; have y1 := (hc gx 1 lx).trans x1; have y2 := (hc gx 2 lx).trans x2; have y3 := (hc gx 3 lx).trans x3; have y4 := (hc gs 0 ls).trans s0
  refine ⟨rfl, ?_⟩; simp only [putsL]; change qT _; simp only [qT, Act.put, sIA, sCS, sCZ]; simp [go_sem, quietTo, Ext.refl, ↓IntWalk.iteOmega, y0, y1, y2, y3]; (all_goals try simp (disch := omega) only [IntWalk.i64_in]); all_goals rfl
 refine fq 2 rfl rfl rfl cK rfl rfl ?_; apply Exists.intro; constructor
 ·intro sv w' hw' hfa
  refine ⟨rfl, ?_⟩; simp only [putsL]; change qT _; simp only [qT, Act.put, sIA, sCS, sCZ]; simp [go_sem, quietTo, Ext.refl]; all_goals rfl
 refine fq 3 rfl rfl rfl cK rfl rfl ?_; apply Exists.intro; constructor
 ·intro sv w' hw' hfa
  refine ⟨rfl, ?_⟩; simp only [putsL]; change qT _; simp only [qT, Act.put, sIA, sCS, sCZ]; simp [go_sem, quietTo, Ext.refl]; all_goals rfl
 refine fq 4 rfl rfl rfl cK rfl rfl ?_; apply Exists.intro; constructor
 ·intro sv w' hw' hfa
  have hk9 := (Ext.refl W1).drew.trans hw'; obtain ⟨hc, -, -⟩ := hk9.walk; have y0 := (hc gx 0 lx).trans x0; have y1 := (hc gx 1 lx).trans x1; have y2 := (hc gx 2 lx).trans x2; have y3 := (hc gx 3 lx).trans x3; have y4 := (hc gs 0 ls).trans s0
  refine ⟨rfl, ?_⟩; simp only [putsL]; change qT _; simp only [qT, Act.put, sIA, sCS, sCZ]; simp [go_sem, quietTo, Ext.refl, ↓IntWalk.iteOmega, y4]; (all_goals try simp (disch := omega) only [IntWalk.i64_in]); all_goals rfl
 refine fac_any 5 rfl rfl rfl cK ?_
 refine ⟨(fun y u => ∃ gS : Nat, y 5 = .func (.func 131) #[] #[.pointer (some ⟨gS, 0, none⟩)] ∧ Blk u gS 9 #[.string s]), fun sv w' hw' hfa => ?_, ?_, ?_⟩
 ·obtain ⟨(f4 : sv 4 = _), -⟩ := hfa; (try dsimp only at f4)
  have hk9 := (Ext.refl W1).drew.trans hw'; obtain ⟨hc, -, -⟩ := hk9.walk; have y0 := (hc gx 0 lx).trans x0; have y1 := (hc gx 1 lx).trans x1; have y2 := (hc gx 2 lx).trans x2; have y3 := (hc gx 3 lx).trans x3; have y4 := (hc gs 0 ls).trans s0
  refine ⟨rfl, ?_⟩
  simp only [putsL]
  change outc _ _ (Sem.run _ (execOp (Act.eval (pT _ 19 (sv 4))) _) _)
  try simp only [pT, Act.put, sIA, sCS, sCZ]
  simp [go_sem, outc, f4]
  refine (singerFault_any s _).mono ?_
  rintro e w9 ⟨gS, rfl, h1, hb9⟩
  exact ⟨_, rfl, hb9, gS, by simp [upd], h1⟩
 ·exact fun x w w' ⟨a, h1, h2⟩ he => ⟨a, h1, h2.ext he⟩
 refine fac_any 6 rfl rfl rfl cK ?_
 refine ⟨(fun y u => y 6 = .tuple #[.pointer none, .int .i64 f]), fun sv w' hw' hfa => ?_, ?_, ?_⟩
 ·obtain ⟨(f0 : sv 0 = _), (f1 : sv 1 = _), (f2 : sv 2 = _), (f3 : sv 3 = _), (f4 : sv 4 = _), f5, -⟩ := hfa; (try dsimp only at f0 f1 f2 f3 f4)
  obtain ⟨gS, f5, hB1⟩ := f5
  replace f5 : sv 5 = _ := f5
  have hk9 := (Ext.refl W1).drew.trans hw'; obtain ⟨hc, -, -⟩ := hk9.walk; have y0 := (hc gx 0 lx).trans x0; have y1 := (hc gx 1 lx).trans x1; have y2 := (hc gx 2 lx).trans x2; have y3 := (hc gx 3 lx).trans x3; have y4 := (hc gs 0 ls).trans s0
  refine ⟨rfl, ?_⟩
  simp only [putsL]
  change outc _ _ (Sem.run _ (execOp (Act.eval (pT (pT (pT (pT (pT (pT _ 20 (sv 5)) 19 (sv 4)) 18 (sv 3)) 17 (sv 2)) 16 (sv 1)) 15 (sv 0))) _) _)
  try simp only [pT, Act.put, sIA, sCS, sCZ]
  simp [go_sem, outc, f0, f1, f2, f3, f5]
  refine (hat.out _ gS (hE.out.trans hk9) hB1).mono ?_
  rintro e w9 ⟨rfl, hb9⟩
  exact ⟨_, rfl, hb9, by simp [upd]⟩
 ·exact fun x w w' h he => h
 refine fq 7 rfl rfl rfl cK rfl rfl ?_; apply Exists.intro; constructor
 ·rintro sv w' hw' ⟨_, _, _, _, _, _, (f6 : sv 6 = _), -⟩
  refine ⟨rfl, ?_⟩; simp only [putsL]; change qT (pT (pT (pT (pT (pT (pT (pT _ 21 (sv 6)) 20 (sv 5)) 19 (sv 4)) 18 (sv 3)) 17 (sv 2)) 16 (sv 1)) 15 (sv 0)); simp only [qT, pT, Act.put, sIA, sCS, sCZ]; simp [go_sem, quietTo, Ext.refl, f6]; all_goals rfl
 refine fq 8 rfl rfl rfl cK rfl rfl ?_; apply Exists.intro; constructor
 ·rintro sv w' hw' ⟨_, _, _, _, _, _, _, (f7 : sv 7 = _), -⟩; (try dsimp only at f7)
  refine ⟨rfl, ?_⟩; simp only [putsL]; change qT (pT (pT (pT (pT (pT (pT (pT (pT _ 14 (sv 7)) 21 (sv 6)) 20 (sv 5)) 19 (sv 4)) 18 (sv 3)) 17 (sv 2)) 16 (sv 1)) 15 (sv 0)); simp only [qT, pT, Act.put, sIA, sCS, sCZ]; simp [go_sem, quietTo, Ext.refl, f7]; all_goals rfl
 refine fac_late 9 rfl rfl Ext.refl cK rfl rfl (fun _ _ _ _ h => h) ?_; apply Exists.intro; constructor
 ·rintro sv w' hw' ⟨_, _, _, _, _, _, _, (f7 : sv 7 = _), -⟩; (try dsimp only at f7)
  refine ⟨rfl, fun w2 => ?_⟩
  simp only [putsL]
  change pureTo _ _ (Sem.run _ (execOp (Act.eval (Act.put (Act.put (Act.put (Act.put (Act.put (Act.put (Act.put (Act.put _ (some 14) (sv 7)) (some 21) (sv 6)) (some 20) (sv 5)) (some 19) (sv 4)) (some 18) (sv 3)) (some 17) (sv 2)) (some 16) (sv 1)) (some 15) (sv 0))) _) _)
  try simp only [Act.put, sIA, sCS, sCZ]
  simp [go_sem, pureTo, f7]
  (all_goals try simp (disch := omega) only [IntWalk.i64_in]); all_goals rfl
 refine fac_nil fun xa wra hera hfra hcra holda hapa => ?_
 obtain ⟨(f0 : xa 0 = _), (f1 : xa 1 = _), (f2 : xa 2 = _), (f3 : xa 3 = _), (f4 : xa 4 = _), f5, f6, f7, f8, f9, -⟩ := hfra; (try dsimp only at f0 f1 f2 f3 f4)
 obtain ⟨gS, f5, hB1⟩ := f5
 replace f5 : xa 5 = _ := f5; replace f6 : xa 6 = _ := f6; replace f7 : xa 7 = _ := f7
 try dsimp only at f7
 replace f8 : xa 8 = _ := f8
 try dsimp only at f8
 replace f9 : xa 9 = _ := f9
 try dsimp only at f9
 change wpList _ _ _ _ (pT (pT (pT (pT (pT (pT (pT (pT (pT (pT _ 15 (xa 0)) 16 (xa 1)) 17 (xa 2)) 18 (xa 3)) 19 (xa 4)) 20 (xa 5)) 21 (xa 6)) 14 (xa 7)) 22 (xa 8)) 23 (xa 9)) _
 simp only [putsL, Nat.reduceAdd, List.drop_succ_cons, List.drop_zero, List.drop_nil, pT, Act.put, sIA, sCS, sCZ]
 try simp only [f0, f1, f2, f3, f4, f5, f6, f7, f8, f9]
 clear f0 f1 f2 f3 f4 f7 f8 f9; clear holda hapa
 have hEw2 := (hE.out.trans (Ext.refl W1).drew).trans hera
 go_wp2
 go_ret2
 exact ⟨rfl, hEw2⟩
set_option maxRecDepth 100000 in
set_option maxHeartbeats 6400000 in
theorem atS_any (tp : Option Addr) (tn tc : Nat) (T : List TitleV) (r : LendR) (dp : Option Addr) (dn dc : Nat) (d : List SlipV) (t : Int) (gS : Nat) (w : World) (h : ListsM w tp tn tc T r dp dn dc d) (ht : outB t 0 345686399999 = false)
 (hcl : ∀ u, Ext w u → Calls Tryz.prog 131 #[.pointer (some ⟨gS, 0, none⟩)] u fun e w' => e = .returned (.int .i64 0) ∧ Ext u w') :
 Calls Tryz.prog 64 #[.slice tp tn tc, lendVal r, .slice dp dn dc, .int .i64 t, .func (.func 131) #[] #[.pointer (some ⟨gS, 0, none⟩)]] w (AtR tp tn tc T r d t w) := by
 obtain ⟨z1, z2, z3⟩ := libF_zero h.ok
 have hl := fun u (hu : Ext w u) => listsFault_any tp tn tc T r dp dn dc d u (h.ext hu).ti.1 h.ts h.tl (h.ext hu).sl.1 h.ss (by have := h.sn; omega)
 have hm := fun u => sMom_is ht u
 have hL := fun u (hu : Ext w u) => libraryAt_any tp tn tc T r dp dn dc d t u (h.ext hu).ti (titlesF_ok z1) (h.ext hu).sl (slipsF_right z3) h.ss h.sn
 rw [h.ok] at hl
 unfold lendVal at hl hL ⊢
 have hE : Ext w (w.alloc (.cells #[.int .i64 r.days, .int .i64 r.late, .int .i64 r.most, .int .i64 r.each] 28)) := (Ext.refl w).alloc _
 have hX := Blk.new' (w := w) (g := w.heap.size) (t := 28) (cs := #[.int .i64 r.days, .int .i64 r.late, .int .i64 r.most, .int .i64 r.each]) rfl
 have lx := hX.lt
 have x0 := hX.cell 0
 have x1 := hX.cell 1
 have x2 := hX.cell 2
 have x3 := hX.cell 3
 clear h z1 z2 z3 hX; replace hl := Lib.hid hl; replace hm := Lib.hid hm; replace hL := Lib.hid hL; replace hE := Lib.hid hE; replace hcl := Lib.hid hcl
 go_enter Tryz.func64, Tryz.ntmps64
 go_wp2_with (first
  | (go_at_call 60; (with_reducible refine Calls.mono (hl.out _ hE.out) ?_); rintro e w1 ⟨rfl, hb1⟩; have v0 := (hb1.walk.1 _ _ lx).trans x0; have v1 := (hb1.walk.1 _ _ lx).trans x1; have v2 := (hb1.walk.1 _ _ lx).trans x2; have v3 := (hb1.walk.1 _ _ lx).trans x3; have l1 := Nat.lt_of_lt_of_le lx hb1.size)
  | (go_at_call 131; (with_reducible refine Calls.mono (hcl.out _ (hE.out.trans hb1)) ?_); rintro e w2 ⟨rfl, hb2⟩; have y0 := (hb2.walk.1 _ _ l1).trans v0; have y1 := (hb2.walk.1 _ _ l1).trans v1; have y2 := (hb2.walk.1 _ _ l1).trans v2; have y3 := (hb2.walk.1 _ _ l1).trans v3; have l2 := Nat.lt_of_lt_of_le l1 hb2.size)
  | (go_at_call 125; (with_reducible refine Calls.mono (hm.out _) ?_); rintro e w3 ⟨rfl, hb3⟩; have u0 := (hb3.walk.1 _ _ l2).trans y0; have u1 := (hb3.walk.1 _ _ l2).trans y1; have u2 := (hb3.walk.1 _ _ l2).trans y2; have u3 := (hb3.walk.1 _ _ l2).trans y3)
  | (go_at_call 61; have hE3 := ((hE.out.trans hb1).trans hb2).trans hb3; (with_reducible refine Calls.mono (hL.out _ hE3) ?_); rintro e w4 ⟨base, bb, ms, ml, mh, q, mr, n, rfl, hLM, hRM, hb4⟩))
 have hres : AtR tp tn tc T r d t w (.returned (.tuple #[.pointer (some ⟨bb, 0, none⟩), .int .i64 0])) w4 := ⟨base, bb, ms, ml, mh, q, rfl, hLM, hE3.trans hb4⟩
 go_ret2
 exact hres
/-- What a singer has. -/
def hasL (X : List LoanV) (s : ByteArray) : List LentV := (outL X).filter fun y => decide (y.singer = s)
theorem entLt_filter {M : List LentV} {X : List LoanV} {s : ByteArray} (hp : M.Perm (outL X)) (hs : M.Pairwise entLt) : (M.filter fun y => decide (y.singer = s)).Perm (hasL X s) ∧ (M.filter fun y => decide (y.singer = s)).Pairwise entLt := ⟨hp.filter _, List.Pairwise.filter _ hs⟩
set_option maxRecDepth 100000 in
theorem hasClo_any {w : World} {gS : Nat} {s : ByteArray} (hB : Blk w gS 9 #[.string s]) (y : LentV) :
 Calls Tryz.prog 71 #[.agg #[.string y.piece, .int .i64 y.no, .string y.singer, .int .i64 y.since], .pointer (some ⟨gS, 0, none⟩)] w fun e w' => e = .returned (.bool (!decide (y.singer = s))) ∧ Ext w w' := by
 have s0 := hB.cell 0
 have ls := hB.lt
 have hE : Ext w (w.alloc (.cells #[.string y.piece, .int .i64 y.no, .string y.singer, .int .i64 y.since] 65)) := (Ext.refl w).alloc _
 clear hB
 rw [← bytesT]
 replace hE := Lib.hid hE
 cases hq : (y.singer.toList == s.toList)
 all_goals
  go_enter Tryz.func71, Tryz.ntmps71
  go_wp2
  go_ret
  exact ⟨rfl, hE.out⟩
set_option maxRecDepth 100000 in
theorem idxNoneL (p : Option Addr) (cap : Nat) (fv : Value) (w : World) :
 Calls Tryz.prog 133 #[.slice p 0 cap, fv] w fun e w' => e = .returned (.int .i64 (-1)) ∧ Ext w w' := by
 go_enter Tryz.func133, Tryz.ntmps133
 go_wp2
 refine wp_loop_rounds 1 ?_
 rw [rounds_succ]
 go_wp2
 go_ret
 exact ⟨rfl, Ext.refl _⟩
set_option maxRecDepth 100000 in
theorem delNoneL (p : Option Addr) (cap : Nat) (fv : Value) (w : World) :
 Calls Tryz.prog 70 #[.slice p 0 cap, fv] w fun e w' => e = .returned (.slice p 0 cap) ∧ Ext w w' := by
 go_enter Tryz.func70, Tryz.ntmps70
 go_wp2_with (go_at_call 133; (with_reducible refine Calls.mono (idxNoneL _ _ _ _) ?_); rintro e w1 ⟨rfl, hb1⟩)
 go_ret
 exact ⟨rfl, hb1⟩
theorem delHasAll {base gs : Nat} {v : Value} {M : List LentV} {s : ByteArray} {w : World} (ho : w.ownsRow base 65 4 v M.length (M.flatMap lentC)) (hn : M.length ≤ 1000) (hB : Blk w gs 9 #[.string s]) (hgs : gs < base) :
 Calls Tryz.prog 70 #[v, .func (.func 71) #[] #[.pointer (some ⟨gs, 0, none⟩)]] w fun e w' => ∃ v' : Value, e = .returned v' ∧ w'.ownsRow base 65 4 v' (M.filter fun y => decide (y.singer = s)).length ((M.filter fun y => decide (y.singer = s)).flatMap lentC) ∧ ∀ a : World, Ext a w → a.heap.size ≤ base → Ext a w' := by
 rcases Nat.eq_zero_or_pos M.length with h0 | h0
 ·obtain ⟨p9, c9, rfl, -⟩ := slc_of_own lentC_len ho (by decide) (by omega)
  obtain rfl := List.eq_nil_of_length_eq_zero h0
  exact (delNoneL p9 c9 _ w).mono fun e w' h => ⟨_, h.1, own_ext h.2 ho, fun a ha _ => ha.trans h.2⟩
 ·obtain ⟨g, cap, rfl, hg, hgl⟩ := ho.form h0
  exact (delHas_any (kp := fun y => decide (y.singer = s)) ho hn h0 fun W hW y => hasClo_any ((hW.2.2.2.2 gs hB.lt (by omega)).trans hB) y).mono fun e w' h => ⟨_, h.1, h.2.1, fun a ha hb => ExtS.back ha (Nat.le_trans hb hg) h.2.2⟩
def HasR (T : List TitleV) (r : LendR) (d : List SlipV) (t : Int) (s : ByteArray) (w : World) (e : Ending) (w' : World) : Prop := ∃ (v : Value) (M : List LentV), e = .returned (.tuple #[v, .int .i64 0]) ∧ M.Perm (hasL (libAt T r d t).1.loans s) ∧ M.Pairwise entLt ∧ w'.ownsRow w.heap.size 65 4 v M.length (M.flatMap lentC) ∧ Ext w w'
set_option maxRecDepth 100000 in
set_option maxHeartbeats 6400000 in
theorem has_any (tp : Option Addr) (tn tc : Nat) (T : List TitleV) (r : LendR) (dp : Option Addr) (dn dc : Nat) (d : List SlipV) (s : ByteArray) (t : Int) (w : World) (h : ListsM w tp tn tc T r dp dn dc d) (hs : s.size ≤ 1000000) (hk : keyE s = 0) (ht : outB t 0 345686399999 = false) :
 Calls Tryz.prog 15 #[.slice tp tn tc, lendVal r, .slice dp dn dc, .string s, .int .i64 t] w (HasR T r d t s w) := by
 obtain ⟨L, hLe⟩ : ∃ L, L = (libAt T r d t).1 := ⟨_, rfl⟩
 have hN := libAt_N (T := T) (r := r) (t := t) (slipsF_right (libF_zero h.ok).2.2) h.ss
 have hI := libAt_I (T := T) (r := r) (t := t) (slipsF_right (libF_zero h.ok).2.2) h.ss
 rw [← hLe] at hN hI
 have hdl := h.sl.1.1
 have hdn := h.sn
 have hLl : L.loans.length ≤ 1000 := by have := hN.loans; omega
 have hdf := out_diff hI
 have hat := fun u g1 (hu : Ext w u) (h1 : Blk u g1 9 #[.string s]) => atS_any tp tn tc T r dp dn dc d t g1 u (h.ext hu) ht fun v hv => by have h9 := singerClo_any (h1.ext hv) (by omega); rw [hk] at h9; exact h9
 unfold lendVal at hat ⊢
 have hE : Ext w ((w.alloc (.cells #[.int .i64 r.days, .int .i64 r.late, .int .i64 r.most, .int .i64 r.each] 28)).alloc (.cells #[.string s] 9)) := ((Ext.refl w).alloc _).alloc _
 have hX : Blk ((w.alloc (.cells #[.int .i64 r.days, .int .i64 r.late, .int .i64 r.most, .int .i64 r.each] 28)).alloc (.cells #[.string s] 9)) w.heap.size 28 #[.int .i64 r.days, .int .i64 r.late, .int .i64 r.most, .int .i64 r.each] := (Blk.new' rfl).alloc _
 have hS0 : Blk ((w.alloc (.cells #[.int .i64 r.days, .int .i64 r.late, .int .i64 r.most, .int .i64 r.each] 28)).alloc (.cells #[.string s] 9)) (w.heap.size + 1) 9 #[.string s] := Blk.new' (by simp)
 have lx := hX.lt
 have x0 := hX.cell 0
 have x1 := hX.cell 1
 have x2 := hX.cell 2
 have x3 := hX.cell 3
 have ls := hS0.lt
 have s0 := hS0.cell 0
 clear h hX hN hI hdl hdn; replace hS0 := Lib.hid hS0; replace hat := Lib.hid hat; replace hE := Lib.hid hE; replace hLe := Lib.hid hLe; replace hdf := Lib.hid hdf; replace hk := Lib.hid hk
 go_enter Tryz.func15, Tryz.ntmps15
 go_upto_region 1 with fail
 generalize hgs : w.heap.size + 1 = gs at *
 generalize w.heap.size = gx at *
 generalize ((w.alloc (.cells #[.int .i64 r.days, .int .i64 r.late, .int .i64 r.most, .int .i64 r.each] 28)).alloc (.cells #[.string s] 9)) = W1 at *
 replace hgs := Lib.hid hgs
 refine wp_region_facts [9] [([],false,false),([],false,false),([],false,false),([],false,false),([],false,false),([4],false,false),([0,1,2,3,4,5],false,false),([0,1,2,3,4,5,6],false,false),([0,1,2,3,4,5,6,7],false,false),([0,1,2,3,4,5,6,7],false,false)] (Ext) Ext (fun _ => True) (by kernel_rfl) (by kernel_rfl) Ext.refl (fun _ _ _ => Ext.trans) (fun _ _ h => h) (fun _ _ h => h.size) (fun _ _ h _ => h) trivial ?_
 dsimp only [List.length_cons, List.length_nil, List.drop_succ_cons, List.drop_zero, List.drop_nil]
 refine fq 0 rfl rfl rfl cK rfl rfl ?_; apply Exists.intro; constructor
 ·intro sv w' hw' hfa
  refine ⟨rfl, ?_⟩; simp only [putsL]; change qT _; simp only [qT, Act.put, sIA, sCS, sCZ]; simp [go_sem, quietTo, Ext.refl]; all_goals rfl
 refine fq 1 rfl rfl rfl cK rfl rfl ?_; apply Exists.intro; constructor
 ·intro sv w' hw' hfa
  have hk9 := (Ext.refl W1).drew.trans hw'; obtain ⟨hc, -, -⟩ := hk9.walk; have y0 := (hc gx 0 lx).trans x0; have y1 := (hc gx 1 lx).trans x1; have y2 := (hc gx 2 lx).trans x2; have y3 := (hc gx 3 lx).trans x3; have y4 := (hc gs 0 ls).trans s0
  refine ⟨rfl, ?_⟩; simp only [putsL]; change qT _; simp only [qT, Act.put, sIA, sCS, sCZ]; simp [go_sem, quietTo, Ext.refl, ↓IntWalk.iteOmega, y0, y1, y2, y3]; (all_goals try simp (disch := omega) only [IntWalk.i64_in]); all_goals rfl
 refine fq 2 rfl rfl rfl cK rfl rfl ?_; apply Exists.intro; constructor
 ·intro sv w' hw' hfa
  refine ⟨rfl, ?_⟩; simp only [putsL]; change qT _; simp only [qT, Act.put, sIA, sCS, sCZ]; simp [go_sem, quietTo, Ext.refl]; all_goals rfl
 refine fq 3 rfl rfl rfl cK rfl rfl ?_; apply Exists.intro; constructor
 ·intro sv w' hw' hfa
  refine ⟨rfl, ?_⟩; simp only [putsL]; change qT _; simp only [qT, Act.put, sIA, sCS, sCZ]; simp [go_sem, quietTo, Ext.refl]; all_goals rfl
 refine fq 4 rfl rfl rfl cK rfl rfl ?_; apply Exists.intro; constructor
 ·intro sv w' hw' hfa
  have hk9 := (Ext.refl W1).drew.trans hw'; obtain ⟨hc, -, -⟩ := hk9.walk; have y0 := (hc gx 0 lx).trans x0; have y1 := (hc gx 1 lx).trans x1; have y2 := (hc gx 2 lx).trans x2; have y3 := (hc gx 3 lx).trans x3; have y4 := (hc gs 0 ls).trans s0
  refine ⟨rfl, ?_⟩; simp only [putsL]; change qT _; simp only [qT, Act.put, sIA, sCS, sCZ]; simp [go_sem, quietTo, Ext.refl, ↓IntWalk.iteOmega, y4]; (all_goals try simp (disch := omega) only [IntWalk.i64_in]); all_goals rfl
 refine fac_any 5 rfl rfl rfl cK ?_
 refine ⟨(fun y u => ∃ gS : Nat, y 5 = .func (.func 131) #[] #[.pointer (some ⟨gS, 0, none⟩)] ∧ Blk u gS 9 #[.string s]), fun sv w' hw' hfa => ?_, ?_, ?_⟩
 ·obtain ⟨(f4 : sv 4 = _), -⟩ := hfa; (try dsimp only at f4)
  have hk9 := (Ext.refl W1).drew.trans hw'; obtain ⟨hc, -, -⟩ := hk9.walk; have y0 := (hc gx 0 lx).trans x0; have y1 := (hc gx 1 lx).trans x1; have y2 := (hc gx 2 lx).trans x2; have y3 := (hc gx 3 lx).trans x3; have y4 := (hc gs 0 ls).trans s0
  refine ⟨rfl, ?_⟩
  simp only [putsL]
  change outc _ _ (Sem.run _ (execOp (Act.eval (pT _ 19 (sv 4))) _) _)
  try simp only [pT, Act.put, sIA, sCS, sCZ]
  simp [go_sem, outc, f4]
  refine (singerFault_any s _).mono ?_
  rintro e w9 ⟨gS, rfl, h1, hb9⟩
  exact ⟨_, rfl, hb9, gS, by simp [upd], h1⟩
 ·exact fun x w w' ⟨a, h1, h2⟩ he => ⟨a, h1, h2.ext he⟩
 refine fac_any 6 rfl rfl rfl cK ?_
 refine ⟨(fun y u => ∃ bb : Nat, y 6 = .tuple #[.pointer (some ⟨bb, 0, none⟩), .int .i64 0] ∧ LibP tp tn tc r L u bb), fun sv w' hw' hfa => ?_, ?_, ?_⟩
 ·obtain ⟨(f0 : sv 0 = _), (f1 : sv 1 = _), (f2 : sv 2 = _), (f3 : sv 3 = _), (f4 : sv 4 = _), f5, -⟩ := hfa; (try dsimp only at f0 f1 f2 f3 f4)
  obtain ⟨gS, f5, hB1⟩ := f5
  replace f5 : sv 5 = _ := f5
  have hk9 := (Ext.refl W1).drew.trans hw'; obtain ⟨hc, -, -⟩ := hk9.walk; have y0 := (hc gx 0 lx).trans x0; have y1 := (hc gx 1 lx).trans x1; have y2 := (hc gx 2 lx).trans x2; have y3 := (hc gx 3 lx).trans x3; have y4 := (hc gs 0 ls).trans s0
  refine ⟨rfl, ?_⟩
  simp only [putsL]
  change outc _ _ (Sem.run _ (execOp (Act.eval (pT (pT (pT (pT (pT (pT _ 20 (sv 5)) 19 (sv 4)) 18 (sv 3)) 17 (sv 2)) 16 (sv 1)) 15 (sv 0))) _) _)
  try simp only [pT, Act.put, sIA, sCS, sCZ]
  simp [go_sem, outc, f0, f1, f2, f3, f5]
  refine (hat.out _ gS (hE.out.trans hk9) hB1).mono ?_
  rintro e w9 ⟨base, bb, ms, ml, mh, q, rfl, hL, hb9⟩
  exact ⟨_, rfl, hb9, bb, by simp [upd], base, ms, ml, mh, q, by rw [hLe.out]; exact hL⟩
 ·exact fun x w w' ⟨a, h1, h2⟩ he => ⟨a, h1, h2.ext he⟩
 refine fac_any 7 rfl rfl rfl cK ?_
 refine ⟨(fun y u => ∃ bb : Nat, y 7 = .tuple #[.pointer (some ⟨bb, 0, none⟩), .int .i64 0] ∧ LibP tp tn tc r L u bb), fun sv w' hw' hfa => ?_, ?_, ?_⟩
 ·obtain ⟨(f0 : sv 0 = _), (f1 : sv 1 = _), (f2 : sv 2 = _), (f3 : sv 3 = _), (f4 : sv 4 = _), f5, f6, -⟩ := hfa; (try dsimp only at f0 f1 f2 f3 f4)
  obtain ⟨gS, f5, hB1⟩ := f5
  replace f5 : sv 5 = _ := f5
  obtain ⟨bb6, f6, hP6⟩ := f6
  replace f6 : sv 6 = _ := f6
  have hk9 := (Ext.refl W1).drew.trans hw'; obtain ⟨hc, -, -⟩ := hk9.walk; have y0 := (hc gx 0 lx).trans x0; have y1 := (hc gx 1 lx).trans x1; have y2 := (hc gx 2 lx).trans x2; have y3 := (hc gx 3 lx).trans x3; have y4 := (hc gs 0 ls).trans s0
  refine ⟨rfl, ?_⟩
  simp only [putsL]
  change outc _ _ (Sem.run _ (execOp (Act.eval (pT (pT (pT (pT (pT (pT (pT _ 21 (sv 6)) 20 (sv 5)) 19 (sv 4)) 18 (sv 3)) 17 (sv 2)) 16 (sv 1)) 15 (sv 0))) _) _)
  try simp only [pT, Act.put, sIA, sCS, sCZ]
  simp [go_sem, outc, f6]
  exact ⟨Ext.refl _, bb6, by simp [upd], hP6⟩
 ·exact fun x w w' ⟨a, h1, h2⟩ he => ⟨a, h1, h2.ext he⟩
 refine fac_any 8 rfl rfl rfl cK ?_
 refine ⟨(fun y u => ∃ bb : Nat, y 8 = .pointer (some ⟨bb, 0, none⟩) ∧ LibP tp tn tc r L u bb), fun sv w' hw' hfa => ?_, ?_, ?_⟩
 ·obtain ⟨(f0 : sv 0 = _), (f1 : sv 1 = _), (f2 : sv 2 = _), (f3 : sv 3 = _), (f4 : sv 4 = _), f5, f6, f7, -⟩ := hfa; (try dsimp only at f0 f1 f2 f3 f4)
  obtain ⟨gS, f5, hB1⟩ := f5
  replace f5 : sv 5 = _ := f5
  obtain ⟨bb6, f6, hP6⟩ := f6
  replace f6 : sv 6 = _ := f6
  obtain ⟨bb7, f7, hP7⟩ := f7
  replace f7 : sv 7 = _ := f7
  have hk9 := (Ext.refl W1).drew.trans hw'; obtain ⟨hc, -, -⟩ := hk9.walk; have y0 := (hc gx 0 lx).trans x0; have y1 := (hc gx 1 lx).trans x1; have y2 := (hc gx 2 lx).trans x2; have y3 := (hc gx 3 lx).trans x3; have y4 := (hc gs 0 ls).trans s0
  refine ⟨rfl, ?_⟩
  simp only [putsL]
  change outc _ _ (Sem.run _ (execOp (Act.eval (pT (pT (pT (pT (pT (pT (pT (pT _ 14 (sv 7)) 21 (sv 6)) 20 (sv 5)) 19 (sv 4)) 18 (sv 3)) 17 (sv 2)) 16 (sv 1)) 15 (sv 0))) _) _)
  try simp only [pT, Act.put, sIA, sCS, sCZ]
  simp [go_sem, outc, f7]
  exact ⟨Ext.refl _, bb7, by simp [upd], hP7⟩
 ·exact fun x w w' ⟨a, h1, h2⟩ he => ⟨a, h1, h2.ext he⟩
 refine fac_late 9 rfl rfl Ext.refl cK rfl rfl (fun _ _ _ _ h => h) ?_; apply Exists.intro; constructor
 ·rintro sv w' hw' ⟨_, _, _, _, _, _, _, f7, -⟩
  obtain ⟨bb7, f7, hP7⟩ := f7
  replace f7 : sv 7 = _ := f7
  refine ⟨rfl, fun w2 => ?_⟩
  simp only [putsL]
  change pureTo _ _ (Sem.run _ (execOp (Act.eval (Act.put (Act.put (Act.put (Act.put (Act.put (Act.put (Act.put (Act.put _ (some 14) (sv 7)) (some 21) (sv 6)) (some 20) (sv 5)) (some 19) (sv 4)) (some 18) (sv 3)) (some 17) (sv 2)) (some 16) (sv 1)) (some 15) (sv 0))) _) _)
  try simp only [Act.put, sIA, sCS, sCZ]
  simp [go_sem, pureTo, f7]
  (all_goals try simp (disch := omega) only [IntWalk.i64_in]); all_goals rfl
 refine fac_nil fun xa wra hera hfra hcra holda hapa => ?_
 obtain ⟨(f0 : xa 0 = _), (f1 : xa 1 = _), (f2 : xa 2 = _), (f3 : xa 3 = _), (f4 : xa 4 = _), f5, f6, f7, f8, f9, -⟩ := hfra; (try dsimp only at f0 f1 f2 f3 f4)
 obtain ⟨gS, f5, hB1⟩ := f5
 replace f5 : xa 5 = _ := f5
 obtain ⟨bb6, f6, hP6⟩ := f6
 replace f6 : xa 6 = _ := f6
 obtain ⟨bb7, f7, hP7⟩ := f7
 replace f7 : xa 7 = _ := f7
 obtain ⟨bb, f8, hP8⟩ := f8
 replace f8 : xa 8 = _ := f8; replace f9 : xa 9 = _ := f9
 try dsimp only at f9
 change wpList _ _ _ _ (pT (pT (pT (pT (pT (pT (pT (pT (pT (pT _ 15 (xa 0)) 16 (xa 1)) 17 (xa 2)) 18 (xa 3)) 19 (xa 4)) 20 (xa 5)) 21 (xa 6)) 14 (xa 7)) 22 (xa 8)) 23 (xa 9)) _
 simp only [putsL, Nat.reduceAdd, List.drop_succ_cons, List.drop_zero, List.drop_nil, pT, Act.put, sIA, sCS, sCZ]
 try simp only [f0, f1, f2, f3, f4, f5, f6, f7, f8, f9]
 clear f0 f1 f2 f3 f4 f9; clear holda hapa
 have hEa := (Ext.refl W1).drew.trans hera
 have hEw2 := hE.out.trans hEa
 have hSa := hS0.out.ext hEa
 obtain ⟨base, ms, ml, mh, q, hL⟩ := hP8
 have hlt := lent_any hL hLl hdf.out
 have hres : ∀ (v : Value) (M : List LentV) (w' : World), M.Perm (hasL L.loans s) → M.Pairwise entLt → w'.ownsRow wra.heap.size 65 4 v M.length (M.flatMap lentC) → Ext wra w' → HasR T r d t s w (.returned (.tuple #[v, .int .i64 0])) w' := fun v M w' h1 h2 h3 h4 => ⟨v, M, rfl, by rw [← hLe.out]; exact h1, h2, own_low h3 hEw2.size, hEw2.trans h4⟩
 replace hres := Lib.hid hres; replace hlt := Lib.hid hlt; replace hSa := Lib.hid hSa
 generalize L.loans = X at *
 clear hat hL hera hcra lx x0 x1 x2 x3 hS0 ls s0
 have hgl : gs < wra.heap.size := hSa.out.lt
 go_wp2_with (first
  | (go_at_call 68; (with_reducible refine Calls.mono hlt.out ?_); rintro e w3 ⟨v3, M, rfl, hMp, hMs, hMo, hMx⟩; have hML : M.length ≤ 1000 := (by rw [hMp.length_eq]; exact Nat.le_trans (outL_len _) hLl); have hdel := delHasAll hMo hML (hSa.out.ext hMx) hgl; replace hdel := Lib.hid hdel)
  | (go_at_call 70; (with_reducible refine Calls.mono hdel.out ?_); rintro e w4 ⟨v4, rfl, hVo, hVx⟩))
 have hr := hres.out v4 _ w4 (entLt_filter hMp hMs).1 (entLt_filter hMp hMs).2 hVo (hVx _ hMx (Nat.le_refl _))
 go_ret2
 exact hr
end Go.Proofs.YtkjhbofbcmelgaaGreatDoor
