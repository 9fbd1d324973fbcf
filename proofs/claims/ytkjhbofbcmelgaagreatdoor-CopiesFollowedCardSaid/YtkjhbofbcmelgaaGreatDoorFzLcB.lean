/- Who had a copy: the walk of Way when all is right. Conditions: sizes; at most 19 slips. -/
import Derived.Test.YtkjhbofbcmelgaaGreatDoorFzLcA
set_option linter.unusedSimpArgs false
set_option linter.unusedVariables false
namespace Go.Proofs.YtkjhbofbcmelgaaGreatDoor
open Go Go.RowKit Go.Maps Go.Sort
theorem strLen (x : ByteArray) : (strC x).length = 1 := rfl
theorem strOne (x : ByteArray) : ∀ u ∈ strC x, u.oneCell' = true := by simp [strC, Value.oneCell']
theorem strInfoW : (Tryz.prog.info? 9).map (fun i => (i.zero, i.size, i.bytes)) = some (some (.string ⟨#[]⟩), 1,16) := by kernel_rfl
/-- The singers who had a copy. -/
def wayL (X : List LoanV) (k : IdV) : List ByteArray := (X.filter fun l => decide (idL l = k)).map LoanV.singer
theorem wayL_snoc (X : List LoanV) (k : IdV) (l : LoanV) : wayL (X ++ [l]) k = wayL X k ++ if idL l = k then [l.singer] else [] := by
 unfold wayL
 rw [List.filter_append, List.map_append]
 by_cases h : idL l = k <;> simp [h]
theorem wayL_len (X : List LoanV) (k : IdV) : (wayL X k).length ≤ X.length := by
 unfold wayL
 rw [List.length_map]
 exact List.length_filter_le _ _
/-- What Way answers when all is right. -/
def WayR (T : List TitleV) (r : LendR) (d : List SlipV) (t : Int) (k : IdV) (w : World) (e : Ending) (w' : World) : Prop := ∃ v : Value, e = .returned (.tuple #[v, .int .i64 0]) ∧ w'.ownsRow w.heap.size 9 1 v (wayL (libAt T r d t).1.loans k).length ((wayL (libAt T r d t).1.loans k).flatMap strC) ∧ Ext w w'
set_option maxRecDepth 100000 in
set_option maxHeartbeats 6400000 in
theorem way_any (tp : Option Addr) (tn tc : Nat) (T : List TitleV) (r : LendR) (dp : Option Addr) (dn dc : Nat) (d : List SlipV) (t : Int) (p : ByteArray) (no : Int) (w : World) (h : ListsM w tp tn tc T r dp dn dc d) (ht : outB t 0 345686399999 = false) (hk : okSN (p, no)) (hc : isCopyT T (p, no) = true) :
 Calls Tryz.prog 16 #[.slice tp tn tc, lendVal r, .slice dp dn dc, .string p, .int .i64 no, .int .i64 t] w (WayR T r d t (p, no) w) := by
 obtain ⟨L, hLe⟩ : ∃ L, L = (libAt T r d t).1 := ⟨_, rfl⟩
 have hTo := titlesF_ok (libF_zero h.ok).1
 have hN := libAt_N (T := T) (r := r) (t := t) (slipsF_right (libF_zero h.ok).2.2) h.ss
 rw [← hLe] at hN
 have hdl := h.sl.1.1
 have hdn := h.sn
 have hLl : L.loans.length ≤ 1000 := by have := hN.loans; omega
 have hat := fun u g1 g2 g3 (hu : Ext w u) (h1 : Blk u g1 26 #[.slice tp tn tc]) (h2 : Blk u g2 9 #[.string p]) (h3 : Blk u g3 3 #[.int .i64 no]) => atK_any tp tn tc T r dp dn dc d t g1 g2 g3 u (h.ext hu) ht fun v hv => copyClo_any (h1.ext hv) (h2.ext hv) (h3.ext hv) ((h.ext hu).ext hv).ti hTo hc
 unfold lendVal at hat ⊢
 have hE : Ext w (w.alloc (.cells #[.int .i64 r.days, .int .i64 r.late, .int .i64 r.most, .int .i64 r.each] 28)) := (Ext.refl w).alloc _
 have hX := Blk.new' (w := w) (g := w.heap.size) (t := 28) (cs := #[.int .i64 r.days, .int .i64 r.late, .int .i64 r.most, .int .i64 r.each]) rfl
 have lx := hX.lt
 have x0 := hX.cell 0
 have x1 := hX.cell 1
 have x2 := hX.cell 2
 have x3 := hX.cell 3
 clear h hX hN hdl hdn hTo; replace hat := Lib.hid hat; replace hE := Lib.hid hE; replace hLe := Lib.hid hLe; replace hk := Lib.hid hk
 go_enter Tryz.func16, Tryz.ntmps16
 go_upto_region 1 with fail
 generalize w.heap.size = gx at *
 generalize (w.alloc (.cells #[.int .i64 r.days, .int .i64 r.late, .int .i64 r.most, .int .i64 r.each] 28)) = W1 at *
 refine wp_region_facts [11] [([],false,false),([],false,false),([],false,false),([],false,false),([],false,false),([],false,false),([],false,false),([4,5,6],false,false),([0,1,2,3,4,5,6,7],false,false),([0,1,2,3,4,5,6,7,8],false,false),([0,1,2,3,4,5,6,7,8,9],false,false),([0,1,2,3,4,5,6,7,8,9],false,false)] (Ext) Ext (fun _ => True) (by kernel_rfl) (by kernel_rfl) Ext.refl (fun _ _ _ => Ext.trans) (fun _ _ h => h) (fun _ _ h => h.size) (fun _ _ h _ => h) trivial ?_
 dsimp only [List.length_cons, List.length_nil, List.drop_succ_cons, List.drop_zero, List.drop_nil]
 refine fq 0 rfl rfl rfl cK rfl rfl ?_; apply Exists.intro; constructor
 ·intro sv w' hw' hfa
  refine ⟨rfl, ?_⟩; simp only [putsL]; change qT _; simp only [qT, Act.put, sIA, sCS, sCZ]; simp [go_sem, quietTo, Ext.refl]; all_goals rfl
 refine fq 1 rfl rfl rfl cK rfl rfl ?_; apply Exists.intro; constructor
 ·intro sv w' hw' hfa
  have hk9 := (Ext.refl W1).drew.trans hw'; obtain ⟨hc, -, -⟩ := hk9.walk; have y0 := (hc gx 0 lx).trans x0; have y1 := (hc gx 1 lx).trans x1; have y2 := (hc gx 2 lx).trans x2; have y3 := (hc gx 3 lx).trans x3
  refine ⟨rfl, ?_⟩; simp only [putsL]; change qT _; simp only [qT, Act.put, sIA, sCS, sCZ]; simp [go_sem, quietTo, Ext.refl, ↓IntWalk.iteOmega, y0, y1, y2, y3]; (all_goals try simp (disch := omega) only [IntWalk.i64_in]); all_goals rfl
 refine fq 2 rfl rfl rfl cK rfl rfl ?_; apply Exists.intro; constructor
 ·intro sv w' hw' hfa
  refine ⟨rfl, ?_⟩; simp only [putsL]; change qT _; simp only [qT, Act.put, sIA, sCS, sCZ]; simp [go_sem, quietTo, Ext.refl]; all_goals rfl
 refine fq 3 rfl rfl rfl cK rfl rfl ?_; apply Exists.intro; constructor
 ·intro sv w' hw' hfa
  refine ⟨rfl, ?_⟩; simp only [putsL]; change qT _; simp only [qT, Act.put, sIA, sCS, sCZ]; simp [go_sem, quietTo, Ext.refl]; all_goals rfl
 refine fq 4 rfl rfl rfl cK rfl rfl ?_; apply Exists.intro; constructor
 ·intro sv w' hw' hfa
  refine ⟨rfl, ?_⟩; simp only [putsL]; change qT _; simp only [qT, Act.put, sIA, sCS, sCZ]; simp [go_sem, quietTo, Ext.refl]; all_goals rfl
 refine fq 5 rfl rfl rfl cK rfl rfl ?_; apply Exists.intro; constructor
 ·intro sv w' hw' hfa
  refine ⟨rfl, ?_⟩; simp only [putsL]; change qT _; simp only [qT, Act.put, sIA, sCS, sCZ]; simp [go_sem, quietTo, Ext.refl]; all_goals rfl
 refine fq 6 rfl rfl rfl cK rfl rfl ?_; apply Exists.intro; constructor
 ·intro sv w' hw' hfa
  refine ⟨rfl, ?_⟩; simp only [putsL]; change qT _; simp only [qT, Act.put, sIA, sCS, sCZ]; simp [go_sem, quietTo, Ext.refl]; all_goals rfl
 refine fac_any 7 rfl rfl rfl cK ?_
 refine ⟨(fun y u => ∃ gT gP gN : Nat, y 7 = .func (.func 126) #[] #[.pointer (some ⟨gT, 0, none⟩), .pointer (some ⟨gP, 0, none⟩), .pointer (some ⟨gN, 0, none⟩)] ∧ Blk u gT 26 #[.slice tp tn tc] ∧ Blk u gP 9 #[.string p] ∧ Blk u gN 3 #[.int .i64 no]), fun sv w' hw' hfa => ?_, ?_, ?_⟩
 ·obtain ⟨(f4 : sv 4 = _), (f5 : sv 5 = _), (f6 : sv 6 = _), -⟩ := hfa; (try dsimp only at f4 f5 f6)
  have hk9 := (Ext.refl W1).drew.trans hw'; obtain ⟨hc, -, -⟩ := hk9.walk; have y0 := (hc gx 0 lx).trans x0; have y1 := (hc gx 1 lx).trans x1; have y2 := (hc gx 2 lx).trans x2; have y3 := (hc gx 3 lx).trans x3
  refine ⟨rfl, ?_⟩
  simp only [putsL]
  change outc _ _ (Sem.run _ (execOp (Act.eval (pT (pT (pT _ 26 (sv 6)) 25 (sv 5)) 24 (sv 4))) _) _)
  try simp only [pT, Act.put, sIA, sCS, sCZ]
  simp [go_sem, outc, f4, f5, f6]
  refine (copyFault_any tp tn tc p no _).mono ?_
  rintro e w9 ⟨gT, gP, gN, rfl, h1, h2, h3, hb9⟩
  exact ⟨_, rfl, hb9, gT, gP, gN, by simp [upd], h1, h2, h3⟩
 ·exact fun x w w' ⟨a, b, c, h1, h2, h3, h4⟩ he => ⟨a, b, c, h1, h2.ext he, h3.ext he, h4.ext he⟩
 refine fac_any 8 rfl rfl rfl cK ?_
 refine ⟨(fun y u => ∃ bb : Nat, y 8 = .tuple #[.pointer (some ⟨bb, 0, none⟩), .int .i64 0] ∧ LibP tp tn tc r L u bb), fun sv w' hw' hfa => ?_, ?_, ?_⟩
 ·obtain ⟨(f0 : sv 0 = _), (f1 : sv 1 = _), (f2 : sv 2 = _), (f3 : sv 3 = _), (f4 : sv 4 = _), (f5 : sv 5 = _), (f6 : sv 6 = _), f7, -⟩ := hfa; (try dsimp only at f0 f1 f2 f3 f4 f5 f6)
  obtain ⟨gT, gP, gN, f7, hB1, hB2, hB3⟩ := f7
  replace f7 : sv 7 = _ := f7
  have hk9 := (Ext.refl W1).drew.trans hw'; obtain ⟨hc, -, -⟩ := hk9.walk; have y0 := (hc gx 0 lx).trans x0; have y1 := (hc gx 1 lx).trans x1; have y2 := (hc gx 2 lx).trans x2; have y3 := (hc gx 3 lx).trans x3
  refine ⟨rfl, ?_⟩
  simp only [putsL]
  change outc _ _ (Sem.run _ (execOp (Act.eval (pT (pT (pT (pT (pT (pT (pT (pT _ 27 (sv 7)) 26 (sv 6)) 25 (sv 5)) 24 (sv 4)) 23 (sv 3)) 22 (sv 2)) 21 (sv 1)) 20 (sv 0))) _) _)
  try simp only [pT, Act.put, sIA, sCS, sCZ]
  simp [go_sem, outc, f0, f1, f2, f3, f7]
  refine (hat.out _ gT gP gN (hE.out.trans hk9) hB1 hB2 hB3).mono ?_
  rintro e w9 ⟨base, bb, ms, ml, mh, q, rfl, hL, hb9⟩
  exact ⟨_, rfl, hb9, bb, by simp [upd], base, ms, ml, mh, q, by rw [hLe.out]; exact hL⟩
 ·exact fun x w w' ⟨a, h1, h2⟩ he => ⟨a, h1, h2.ext he⟩
 refine fac_any 9 rfl rfl rfl cK ?_
 refine ⟨(fun y u => ∃ bb : Nat, y 9 = .tuple #[.pointer (some ⟨bb, 0, none⟩), .int .i64 0] ∧ LibP tp tn tc r L u bb), fun sv w' hw' hfa => ?_, ?_, ?_⟩
 ·obtain ⟨(f0 : sv 0 = _), (f1 : sv 1 = _), (f2 : sv 2 = _), (f3 : sv 3 = _), (f4 : sv 4 = _), (f5 : sv 5 = _), (f6 : sv 6 = _), f7, f8, -⟩ := hfa; (try dsimp only at f0 f1 f2 f3 f4 f5 f6)
  obtain ⟨gT, gP, gN, f7, hB1, hB2, hB3⟩ := f7
  replace f7 : sv 7 = _ := f7
  obtain ⟨bb8, f8, hP8⟩ := f8
  replace f8 : sv 8 = _ := f8
  have hk9 := (Ext.refl W1).drew.trans hw'; obtain ⟨hc, -, -⟩ := hk9.walk; have y0 := (hc gx 0 lx).trans x0; have y1 := (hc gx 1 lx).trans x1; have y2 := (hc gx 2 lx).trans x2; have y3 := (hc gx 3 lx).trans x3
  refine ⟨rfl, ?_⟩
  simp only [putsL]
  change outc _ _ (Sem.run _ (execOp (Act.eval (pT (pT (pT (pT (pT (pT (pT (pT (pT _ 28 (sv 8)) 27 (sv 7)) 26 (sv 6)) 25 (sv 5)) 24 (sv 4)) 23 (sv 3)) 22 (sv 2)) 21 (sv 1)) 20 (sv 0))) _) _)
  try simp only [pT, Act.put, sIA, sCS, sCZ]
  simp [go_sem, outc, f8]
  exact ⟨Ext.refl _, bb8, by simp [upd], hP8⟩
 ·exact fun x w w' ⟨a, h1, h2⟩ he => ⟨a, h1, h2.ext he⟩
 refine fac_any 10 rfl rfl rfl cK ?_
 refine ⟨(fun y u => ∃ bb : Nat, y 10 = .pointer (some ⟨bb, 0, none⟩) ∧ LibP tp tn tc r L u bb), fun sv w' hw' hfa => ?_, ?_, ?_⟩
 ·obtain ⟨(f0 : sv 0 = _), (f1 : sv 1 = _), (f2 : sv 2 = _), (f3 : sv 3 = _), (f4 : sv 4 = _), (f5 : sv 5 = _), (f6 : sv 6 = _), f7, f8, f9, -⟩ := hfa; (try dsimp only at f0 f1 f2 f3 f4 f5 f6)
  obtain ⟨gT, gP, gN, f7, hB1, hB2, hB3⟩ := f7
  replace f7 : sv 7 = _ := f7
  obtain ⟨bb8, f8, hP8⟩ := f8
  replace f8 : sv 8 = _ := f8
  obtain ⟨bb9, f9, hP9⟩ := f9
  replace f9 : sv 9 = _ := f9
  have hk9 := (Ext.refl W1).drew.trans hw'; obtain ⟨hc, -, -⟩ := hk9.walk; have y0 := (hc gx 0 lx).trans x0; have y1 := (hc gx 1 lx).trans x1; have y2 := (hc gx 2 lx).trans x2; have y3 := (hc gx 3 lx).trans x3
  refine ⟨rfl, ?_⟩
  simp only [putsL]
  change outc _ _ (Sem.run _ (execOp (Act.eval (pT (pT (pT (pT (pT (pT (pT (pT (pT (pT _ 19 (sv 9)) 28 (sv 8)) 27 (sv 7)) 26 (sv 6)) 25 (sv 5)) 24 (sv 4)) 23 (sv 3)) 22 (sv 2)) 21 (sv 1)) 20 (sv 0))) _) _)
  try simp only [pT, Act.put, sIA, sCS, sCZ]
  simp [go_sem, outc, f9]
  exact ⟨Ext.refl _, bb9, by simp [upd], hP9⟩
 ·exact fun x w w' ⟨a, h1, h2⟩ he => ⟨a, h1, h2.ext he⟩
 refine fac_late 11 rfl rfl Ext.refl cK rfl rfl (fun _ _ _ _ h => h) ?_; apply Exists.intro; constructor
 ·rintro sv w' hw' ⟨_, _, _, _, _, _, _, _, _, f9, -⟩
  obtain ⟨bb9, f9, hP9⟩ := f9
  replace f9 : sv 9 = _ := f9
  refine ⟨rfl, fun w2 => ?_⟩
  simp only [putsL]
  change pureTo _ _ (Sem.run _ (execOp (Act.eval (Act.put (Act.put (Act.put (Act.put (Act.put (Act.put (Act.put (Act.put (Act.put (Act.put _ (some 19) (sv 9)) (some 28) (sv 8)) (some 27) (sv 7)) (some 26) (sv 6)) (some 25) (sv 5)) (some 24) (sv 4)) (some 23) (sv 3)) (some 22) (sv 2)) (some 21) (sv 1)) (some 20) (sv 0))) _) _)
  try simp only [Act.put, sIA, sCS, sCZ]
  simp [go_sem, pureTo, f9]
  (all_goals try simp (disch := omega) only [IntWalk.i64_in]); all_goals rfl
 refine fac_nil fun xa wra hera hfra hcra holda hapa => ?_
 obtain ⟨(f0 : xa 0 = _), (f1 : xa 1 = _), (f2 : xa 2 = _), (f3 : xa 3 = _), (f4 : xa 4 = _), (f5 : xa 5 = _), (f6 : xa 6 = _), f7, f8, f9, f10, f11, -⟩ := hfra; (try dsimp only at f0 f1 f2 f3 f4 f5 f6)
 obtain ⟨gT, gP, gN, f7, hB1, hB2, hB3⟩ := f7
 replace f7 : xa 7 = _ := f7
 obtain ⟨bb8, f8, hP8⟩ := f8
 replace f8 : xa 8 = _ := f8
 obtain ⟨bb9, f9, hP9⟩ := f9
 replace f9 : xa 9 = _ := f9
 obtain ⟨bb, f10, hP10⟩ := f10
 replace f10 : xa 10 = _ := f10; replace f11 : xa 11 = _ := f11
 try dsimp only at f11
 change wpList _ _ _ _ (pT (pT (pT (pT (pT (pT (pT (pT (pT (pT (pT (pT _ 20 (xa 0)) 21 (xa 1)) 22 (xa 2)) 23 (xa 3)) 24 (xa 4)) 25 (xa 5)) 26 (xa 6)) 27 (xa 7)) 28 (xa 8)) 19 (xa 9)) 29 (xa 10)) 30 (xa 11)) _
 simp only [putsL, Nat.reduceAdd, List.drop_succ_cons, List.drop_zero, List.drop_nil, pT, Act.put, sIA, sCS, sCZ]
 try simp only [f0, f1, f2, f3, f4, f5, f6, f7, f8, f9, f10, f11]
 clear f0 f1 f2 f3 f4 f5 f6 f11; clear holda hapa
 have hEw2 := (hE.out.trans (Ext.refl W1).drew).trans hera
 obtain ⟨base, ms, ml, mh, q, hL⟩ := hP10
 obtain ⟨⟨lv, hB, ho⟩, -⟩ := hL
 obtain ⟨lp, lc, rfl, hS⟩ := slc_of_own loanC_len ho (by decide) (by omega)
 have c7 := hB.cell 7
 have lb := hB.lt
 unfold libC at c7
 have hres : ∀ v w', w'.ownsRow wra.heap.size 9 1 v (wayL L.loans (p, no)).length ((wayL L.loans (p, no)).flatMap strC) → Ext wra w' → WayR T r d t (p, no) w (.returned (.tuple #[v, .int .i64 0])) w' := fun v w' h1 h2 => ⟨v, rfl, by rw [← hLe.out]; exact own_low h1 hEw2.size, hEw2.trans h2⟩
 replace hres := Lib.hid hres
 generalize L.loans = X at *
 replace hS := Lib.hid hS; clear hat hB ho hEw2 hera hcra lx x0 x1 x2 x3
 go_wp2
 go_loopw [16,39] (fun v16 v39 wr => ∃ (k : Nat) (v : Value), v39 = .int .i64 k ∧ v = v16 ∧ k ≤ X.length ∧ wr.ownsRow wra.heap.size 9 1 v (wayL (X.take k) (p, no)).length ((wayL (X.take k) (p, no)).flatMap strC) ∧ Ext wra wr) (fun _ v39 _ => X.length - (intOf v39).toNat)
 case atStart => exact ⟨0, _, rfl, rfl, Nat.zero_le _, World.ownsRow_nil _ _ _ _, Ext.refl _⟩
 case round =>
  obtain ⟨k, v, rfl, rfl, hk2, hown, he⟩ := hrel
  by_cases hlt : k < X.length
  ·obtain ⟨l, hx⟩ := getD_some (rfl : X.length = X.length) hlt
   obtain ⟨b, off, rfl, hb, hEl⟩ := hS.out.1.2.2 (by omega)
   have hEr := hEl.ext he hb
   have d0 : wr.cell? ⟨b, off + k * 6, none⟩ = some (.string l.piece) := hEr k _ hx 0 _ rfl
   have d1 : wr.cell? ⟨b, off + k * 6 + 1, none⟩ = some (.int .i64 l.no) := hEr k _ hx 1 _ rfl
   have d2 : wr.cell? ⟨b, off + k * 6 + 2, none⟩ = some (.string l.singer) := hEr k _ hx 2 _ rfl
   have d3 : wr.cell? ⟨b, off + k * 6 + 3, none⟩ = some (.int .i64 l.since) := hEr k _ hx 3 _ rfl
   have d4 : wr.cell? ⟨b, off + k * 6 + 4, none⟩ = some (.int .i64 l.till) := hEr k _ hx 4 _ rfl
   have d5 : wr.cell? ⟨b, off + k * 6 + 5, none⟩ = some (.bool l.lost) := hEr k _ hx 5 _ rfl
   have hkI : (k : Int) < (X.length : Int) := by omega
   have hsn := wayL_snoc (X.take k) (p, no) l
   rw [← take_snocL hx] at hsn
   have hol : (wayL (X.take k) (p, no)).length ≤ 1000 := Nat.le_trans (wayL_len _ _) (by rw [List.length_take]; omega)
   have hsz := he.size
   replace hx := Lib.hid hx; replace hEl := Lib.hid hEl; clear hEr
   cases hq1 : (l.piece.toList == p.toList)
   ·have hne : ¬ idL l = (p, no) := fun e => by rw [bytesB.2 (show l.piece = p from congrArg Prod.fst e)] at hq1; cases hq1
    rw [if_neg hne, List.append_nil] at hsn
    replace hsn := Lib.hid hsn
    go_wp2
    go_roundw
    case rel => exact ⟨k + 1, _, by go_num, rfl, by omega, by rw [hsn.out]; exact hown.alloc _, he.alloc _⟩
    case measure => simp [intOf]; omega
   ·by_cases hno : l.no = no
    ·rw [if_pos (Prod.ext (bytesB.1 hq1) hno)] at hsn
     replace hsn := Lib.hid hsn
     go_wp2_with (at_builtin; go_loud (refine wp_app1 _ (.tmp 49) (.tmp 52) 47 9 1 16 _ rfl rfl Tryz.underlying47 strInfoW rfl (by decide) (by decide) wra.heap.size _ _ _ rfl ((hown.alloc _).alloc _) _ (strC l.singer) rfl rfl (Blk.new' (by simp)) (strOne _) (by omega) (by simp; omega) ?_; intro v' wz hownz hgrowz _))
     go_roundw
     case rel => exact ⟨k + 1, v', by go_num, rfl, by omega, by rw [hsn.out, List.length_append, flat_snoc]; exact hownz, ((he.alloc _).alloc _).app ((hown.alloc _).alloc _) (Nat.le_refl _) hgrowz⟩
     case measure => simp [intOf]; omega
    ·have hne : ¬ idL l = (p, no) := fun e => hno (congrArg Prod.snd e)
     rw [if_neg hne, List.append_nil] at hsn
     replace hsn := Lib.hid hsn
     go_wp2
     go_roundw
     case rel => exact ⟨k + 1, _, by go_num, rfl, by omega, by rw [hsn.out]; exact hown.alloc _, he.alloc _⟩
     case measure => simp [intOf]; omega
  ·obtain rfl : X.length = k := by omega
   rw [List.take_length] at hown
   have hr := hres.out _ _ hown he
   replace hr := Lib.hid hr
   go_wp2
   go_ret2
   exact hr.out
end Go.Proofs.YtkjhbofbcmelgaaGreatDoor
