/- What is out, how a copy is, who had it: the walks of Out, State and Way when all is right. Conditions: sizes; at most 19 slips. -/
import Derived.Test.YtkjhbofbcmelgaaGreatDoorFzJ25
import Derived.Test.YtkjhbofbcmelgaaGreatDoorFzJ30
set_option linter.unusedSimpArgs false
set_option linter.unusedVariables false
namespace Go.Proofs.YtkjhbofbcmelgaaGreatDoor
open Go Go.RowKit Go.Maps Go.Sort
theorem libAt_N {T : List TitleV} {r : LendR} {d : List SlipV} {t : Int} (hd : RightS d) (hs : ∀ x ∈ d, x.Small) : LibN d.length (libAt T r d t).1 := by
 have h := run_ok (T := T) (r := r) (d := d) (fun x hx => ⟨(slip_ok (hd.one x hx)).kind, (hs x hx).2.2⟩) (is := ordF d t) (fun i hi => (mem_ord.1 hi).1) (ordF d t).length (Nat.le_refl _) (by have := ord_len d t; have := hd.len; omega)
 rw [List.take_length] at h
 exact h.le (ord_len d t)
theorem libAt_I {T : List TitleV} {r : LendR} {d : List SlipV} {t : Int} (hd : RightS d) (hs : ∀ x ∈ d, x.Small) : LibI r.each t (libAt T r d t).1 := by
 have h := run_I (T := T) (r := r) (d := d) (t := t) (fun x hx => ⟨⟨(slip_ok (hd.one x hx)).kind, (hs x hx).2.2⟩, (slip_ok (hd.one x hx)).at_.1⟩) (is := ordF d t) (fun i hi => mem_ord.1 hi) (ordF d t).length (Nat.le_refl _) (by have := ord_len d t; have := hd.len; omega)
 rw [List.take_length] at h
 exact h
/-- What Out answers when all is right. -/
def OutR (T : List TitleV) (r : LendR) (d : List SlipV) (t : Int) (w : World) (e : Ending) (w' : World) : Prop := ∃ (v : Value) (M : List LentV), e = .returned (.tuple #[v, .int .i64 0]) ∧ M.Perm (outL (libAt T r d t).1.loans) ∧ M.Pairwise entLt ∧ w'.ownsRow w.heap.size 65 4 v M.length (M.flatMap lentC) ∧ Ext w w'
set_option maxRecDepth 100000 in
set_option maxHeartbeats 1600000 in
theorem out_any (tp : Option Addr) (tn tc : Nat) (T : List TitleV) (r : LendR) (dp : Option Addr) (dn dc : Nat) (d : List SlipV) (t : Int) (w : World) (h : ListsM w tp tn tc T r dp dn dc d) (ht : outB t 0 345686399999 = false) :
 Calls Tryz.prog 14 #[.slice tp tn tc, lendVal r, .slice dp dn dc, .int .i64 t] w (OutR T r d t w) := by
 have hat := fun u (hu : Ext w u) => atN_any tp tn tc T r dp dn dc d t u (h.ext hu) ht
 have hd := slipsF_right (libF_zero h.ok).2.2
 have hN := libAt_N (T := T) (r := r) (t := t) hd h.ss
 have hI := libAt_I (T := T) (r := r) (t := t) hd h.ss
 have hdl := h.sl.1.1
 have hdn := h.sn
 unfold lendVal at hat ⊢
 have hE : Ext w (w.alloc (.cells #[.int .i64 r.days, .int .i64 r.late, .int .i64 r.most, .int .i64 r.each] 28)) := (Ext.refl w).alloc _
 clear h; replace hat := Lib.hid hat; replace hE := Lib.hid hE; replace hN := Lib.hid hN; replace hI := Lib.hid hI
 go_enter Tryz.func14, Tryz.ntmps14
 go_wp2_with (first
  | (go_at_call 64; (with_reducible refine Calls.mono (hat.out _ hE.out) ?_); rintro e w1 ⟨base, bb, ms, ml, mh, q, rfl, hL, hb1⟩; have hle := lent_any hL (by have := hN.out.loans; omega) (out_diff hI.out); clear hat)
  | (go_at_call 68; (with_reducible refine Calls.mono hle ?_); rintro e w2 ⟨v, M, rfl, hp, hr, ho, hb2⟩))
 have hEw := hE.out.trans hb1
 have hres : OutR T r d t w (.returned (.tuple #[v, .int .i64 0])) w2 := ⟨v, M, rfl, hp, hr, own_low ho hEw.size, hEw.trans hb2⟩
 go_ret2
 exact hres
/-! ### State and Way -/
set_option maxRecDepth 100000 in
set_option maxHeartbeats 1600000 in
theorem copyClo_any {w : World} {gT gP gN : Nat} {tp : Option Addr} {tn tc : Nat} {T : List TitleV} {p : ByteArray} {no : Int} (hBT : Blk w gT 26 #[.slice tp tn tc]) (hBP : Blk w gP 9 #[.string p]) (hBN : Blk w gN 3 #[.int .i64 no]) (hT : Slc 3 titleC w tp tn tc T) (hTo : TitlesOk T) (hc : isCopyT T (p, no) = true) :
 Calls Tryz.prog 126 #[.pointer (some ⟨gT, 0, none⟩), .pointer (some ⟨gP, 0, none⟩), .pointer (some ⟨gN, 0, none⟩)] w fun e w' => e = .returned (.int .i64 0) ∧ Ext w w' := by
 have hE : Ext w (w.alloc (.cells #[.slice tp tn tc, .int .i64 0, .int .i64 0, .int .i64 0, .int .i64 0, .map none, .map none, .slice none 0 0, .map none] 130)) := (Ext.refl w).alloc _
 have hB : Blk (w.alloc (.cells #[.slice tp tn tc, .int .i64 0, .int .i64 0, .int .i64 0, .int .i64 0, .map none, .map none, .slice none 0 0, .map none] 130)) w.heap.size 130 #[.slice tp tn tc, .int .i64 0, .int .i64 0, .int .i64 0, .int .i64 0, .map none, .map none, .slice none 0 0, .map none] := Blk.new' rfl
 have hic := isCopy_any w.heap.size _ tp tn tc T p no _ hB rfl (hT.ext hE) hTo
 rw [hc] at hic
 have t0 := hBT.cell 0
 have p0 := hBP.cell 0
 have n0 := hBN.cell 0
 have lt := hBT.lt
 have lp := hBP.lt
 have ln := hBN.lt
 replace hic := Lib.hid hic; replace hE := Lib.hid hE; clear hBT hBP hBN hT hB
 go_enter Tryz.func126, Tryz.ntmps126
 go_wp2_with (go_at_call 127; (with_reducible refine Calls.mono hic.out ?_); rintro e w1 ⟨rfl, hb1⟩)
 go_ret
 exact ⟨rfl, hE.out.trans hb1⟩
set_option maxRecDepth 100000 in
set_option maxHeartbeats 6400000 in
theorem atK_any (tp : Option Addr) (tn tc : Nat) (T : List TitleV) (r : LendR) (dp : Option Addr) (dn dc : Nat) (d : List SlipV) (t : Int) (gT gP gN : Nat) (w : World) (h : ListsM w tp tn tc T r dp dn dc d) (ht : outB t 0 345686399999 = false)
 (hcl : ∀ u, Ext w u → Calls Tryz.prog 126 #[.pointer (some ⟨gT, 0, none⟩), .pointer (some ⟨gP, 0, none⟩), .pointer (some ⟨gN, 0, none⟩)] u fun e w' => e = .returned (.int .i64 0) ∧ Ext u w') :
 Calls Tryz.prog 64 #[.slice tp tn tc, lendVal r, .slice dp dn dc, .int .i64 t, .func (.func 126) #[] #[.pointer (some ⟨gT, 0, none⟩), .pointer (some ⟨gP, 0, none⟩), .pointer (some ⟨gN, 0, none⟩)]] w (AtR tp tn tc T r d t w) := by
 obtain ⟨z1, z2, z3⟩ := libF_zero h.ok
 have hl := fun u (hu : Ext w u) => listsFault_any tp tn tc T r dp dn dc d u (h.ext hu).ti.1 h.ts h.tl (h.ext hu).sl.1 h.ss (by have := h.sn; omega)
 have hm := fun u => sMom_is ht u
 have hL := fun u (hu : Ext w u) => libraryAt_any tp tn tc T r dp dn dc d t u (h.ext hu).ti (titlesF_ok z1) (h.ext hu).sl (slipsF_right z3) h.ss h.sn
 rw [h.ok] at hl
 unfold lendVal at hl hL ⊢
 have hE : Ext w (w.alloc (.cells #[.int .i64 r.days, .int .i64 r.late, .int .i64 r.most, .int .i64 r.each] 28)) := (Ext.refl w).alloc _
 have hX := Blk.new' (w := w) (g := w.heap.size) (t := 28) (cs := #[.int .i64 r.days, .int .i64 r.late, .int .i64 r.most, .int .i64 r.each]) rfl
 have lx := hX.lt
 have x0 := hX.cell 0
 have x1 := hX.cell 1
 have x2 := hX.cell 2
 have x3 := hX.cell 3
 clear h z1 z2 z3 hX; replace hl := Lib.hid hl; replace hm := Lib.hid hm; replace hL := Lib.hid hL; replace hE := Lib.hid hE; replace hcl := Lib.hid hcl
 go_enter Tryz.func64, Tryz.ntmps64
 go_wp2_with (first
  | (go_at_call 60; (with_reducible refine Calls.mono (hl.out _ hE.out) ?_); rintro e w1 ⟨rfl, hb1⟩; have v0 := (hb1.walk.1 _ _ lx).trans x0; have v1 := (hb1.walk.1 _ _ lx).trans x1; have v2 := (hb1.walk.1 _ _ lx).trans x2; have v3 := (hb1.walk.1 _ _ lx).trans x3; have l1 := Nat.lt_of_lt_of_le lx hb1.size)
  | (go_at_call 126; (with_reducible refine Calls.mono (hcl.out _ (hE.out.trans hb1)) ?_); rintro e w2 ⟨rfl, hb2⟩; have y0 := (hb2.walk.1 _ _ l1).trans v0; have y1 := (hb2.walk.1 _ _ l1).trans v1; have y2 := (hb2.walk.1 _ _ l1).trans v2; have y3 := (hb2.walk.1 _ _ l1).trans v3; have l2 := Nat.lt_of_lt_of_le l1 hb2.size)
  | (go_at_call 125; (with_reducible refine Calls.mono (hm.out _) ?_); rintro e w3 ⟨rfl, hb3⟩; have u0 := (hb3.walk.1 _ _ l2).trans y0; have u1 := (hb3.walk.1 _ _ l2).trans y1; have u2 := (hb3.walk.1 _ _ l2).trans y2; have u3 := (hb3.walk.1 _ _ l2).trans y3)
  | (go_at_call 61; have hE3 := ((hE.out.trans hb1).trans hb2).trans hb3; (with_reducible refine Calls.mono (hL.out _ hE3) ?_); rintro e w4 ⟨base, bb, ms, ml, mh, q, mr, n, rfl, hLM, hRM, hb4⟩))
 have hres : AtR tp tn tc T r d t w (.returned (.tuple #[.pointer (some ⟨bb, 0, none⟩), .int .i64 0])) w4 := ⟨base, bb, ms, ml, mh, q, rfl, hLM, hE3.trans hb4⟩
 go_ret2
 exact hres
set_option maxRecDepth 100000 in
theorem copyFault_any (tp : Option Addr) (tn tc : Nat) (p : ByteArray) (no : Int) (w : World) :
 Calls Tryz.prog 65 #[.slice tp tn tc, .string p, .int .i64 no] w fun e w' => ∃ gT gP gN : Nat, e = .returned (.func (.func 126) #[] #[.pointer (some ⟨gT, 0, none⟩), .pointer (some ⟨gP, 0, none⟩), .pointer (some ⟨gN, 0, none⟩)]) ∧ Blk w' gT 26 #[.slice tp tn tc] ∧ Blk w' gP 9 #[.string p] ∧ Blk w' gN 3 #[.int .i64 no] ∧ Ext w w' := by
 have h1 : Blk (((w.alloc (.cells #[.slice tp tn tc] 26)).alloc (.cells #[.string p] 9)).alloc (.cells #[.int .i64 no] 3)) w.heap.size 26 #[.slice tp tn tc] := ((Blk.new' rfl).alloc _).alloc _
 have h2 : Blk (((w.alloc (.cells #[.slice tp tn tc] 26)).alloc (.cells #[.string p] 9)).alloc (.cells #[.int .i64 no] 3)) (w.heap.size + 1) 9 #[.string p] := (Blk.new' (by simp)).alloc _
 have h3 : Blk (((w.alloc (.cells #[.slice tp tn tc] 26)).alloc (.cells #[.string p] 9)).alloc (.cells #[.int .i64 no] 3)) (w.heap.size + 1 + 1) 3 #[.int .i64 no] := Blk.new' (by simp)
 have h4 : Ext w (((w.alloc (.cells #[.slice tp tn tc] 26)).alloc (.cells #[.string p] 9)).alloc (.cells #[.int .i64 no] 3)) := (((Ext.refl w).alloc _).alloc _).alloc _
 replace h1 := Lib.hid h1; replace h2 := Lib.hid h2; replace h3 := Lib.hid h3; replace h4 := Lib.hid h4
 go_enter Tryz.func65, Tryz.ntmps65
 go_wp2
 go_ret
 exact ⟨_, _, _, rfl, h1.out, h2.out, h3.out, h4.out⟩
def LibP (tp : Option Addr) (tn tc : Nat) (r : LendR) (L : LibS) (u : World) (bb : Nat) : Prop := ∃ base ms ml mh q : Nat, LibM base u bb ms ml mh q tp tn tc r L
theorem LibP.ext {tp : Option Addr} {tn tc : Nat} {r : LendR} {L : LibS} {u v : World} {bb : Nat} (h : LibP tp tn tc r L u bb) (he : Ext u v) : LibP tp tn tc r L v bb := by
 obtain ⟨base, ms, ml, mh, q, h⟩ := h
 exact ⟨base, ms, ml, mh, q, h.ext he⟩
set_option maxRecDepth 100000 in
set_option maxHeartbeats 3200000 in
theorem stateOf_any (tp : Option Addr) (tn tc : Nat) (T : List TitleV) (r : LendR) (dp : Option Addr) (dn dc : Nat) (d : List SlipV) (t : Int) (p : ByteArray) (no : Int) (w : World) (h : ListsM w tp tn tc T r dp dn dc d) (ht : outB t 0 345686399999 = false) (hk : okSN (p, no)) (hc : isCopyT T (p, no) = true) :
 Calls Tryz.prog 13 #[.slice tp tn tc, lendVal r, .slice dp dn dc, .string p, .int .i64 no, .int .i64 t] w fun e w' => e = .returned (.tuple #[.string ((libAt T r d t).1.at_ (p, no)), .int .i64 0]) ∧ Ext w w' := by
 obtain ⟨L, hLe⟩ : ∃ L, L = (libAt T r d t).1 := ⟨_, rfl⟩
 rw [← hLe]
 have hTo := titlesF_ok (libF_zero h.ok).1
 have hat := fun u g1 g2 g3 (hu : Ext w u) (h1 : Blk u g1 26 #[.slice tp tn tc]) (h2 : Blk u g2 9 #[.string p]) (h3 : Blk u g3 3 #[.int .i64 no]) => atK_any tp tn tc T r dp dn dc d t g1 g2 g3 u (h.ext hu) ht fun v hv => copyClo_any (h1.ext hv) (h2.ext hv) (h3.ext hv) ((h.ext hu).ext hv).ti hTo hc
 unfold lendVal at hat ⊢
 have hE : Ext w (w.alloc (.cells #[.int .i64 r.days, .int .i64 r.late, .int .i64 r.most, .int .i64 r.each] 28)) := (Ext.refl w).alloc _
 have hX := Blk.new' (w := w) (g := w.heap.size) (t := 28) (cs := #[.int .i64 r.days, .int .i64 r.late, .int .i64 r.most, .int .i64 r.each]) rfl
 have lx := hX.lt
 have x0 := hX.cell 0
 have x1 := hX.cell 1
 have x2 := hX.cell 2
 have x3 := hX.cell 3
 clear h hX; replace hat := Lib.hid hat; replace hE := Lib.hid hE; replace hLe := Lib.hid hLe; replace hk := Lib.hid hk
 go_enter Tryz.func13, Tryz.ntmps13
 go_upto_region 1 with fail
 generalize w.heap.size = gx at *
 generalize (w.alloc (.cells #[.int .i64 r.days, .int .i64 r.late, .int .i64 r.most, .int .i64 r.each] 28)) = W1 at *
 refine wp_region_facts [11] [([],false,false),([],false,false),([],false,false),([],false,false),([],false,false),([],false,false),([],false,false),([4,5,6],false,false),([0,1,2,3,4,5,6,7],false,false),([0,1,2,3,4,5,6,7,8],false,false),([0,1,2,3,4,5,6,7,8,9],false,false),([0,1,2,3,4,5,6,7,8,9],false,false)] (Ext) Ext (fun _ => True) (by kernel_rfl) (by kernel_rfl) Ext.refl (fun _ _ _ => Ext.trans) (fun _ _ h => h) (fun _ _ h => h.size) (fun _ _ h _ => h) trivial ?_
 dsimp only [List.length_cons, List.length_nil, List.drop_succ_cons, List.drop_zero, List.drop_nil]
 refine fq 0 rfl rfl rfl cK rfl rfl ?_; apply Exists.intro; constructor
 ·intro sv w' hw' hfa
  refine ⟨rfl, ?_⟩; simp only [putsL]; change qT _; simp only [qT, Act.put, sIA, sCS, sCZ]; simp [go_sem, quietTo, Ext.refl]; all_goals rfl
 refine fq 1 rfl rfl rfl cK rfl rfl ?_; apply Exists.intro; constructor
 ·intro sv w' hw' hfa
  have hk9 := (Ext.refl W1).drew.trans hw'; obtain ⟨hc, -, -⟩ := hk9.walk; have y0 := (hc gx 0 lx).trans x0; have y1 := (hc gx 1 lx).trans x1; have y2 := (hc gx 2 lx).trans x2; have y3 := (hc gx 3 lx).trans x3
  refine ⟨rfl, ?_⟩; simp only [putsL]; change qT _; simp only [qT, Act.put, sIA, sCS, sCZ]; simp [go_sem, quietTo, Ext.refl, ↓IntWalk.iteOmega, y0, y1, y2, y3]; (all_goals try simp (disch := omega) only [IntWalk.i64_in]); all_goals rfl
 refine fq 2 rfl rfl rfl cK rfl rfl ?_; apply Exists.intro; constructor
 ·intro sv w' hw' hfa
  refine ⟨rfl, ?_⟩; simp only [putsL]; change qT _; simp only [qT, Act.put, sIA, sCS, sCZ]; simp [go_sem, quietTo, Ext.refl]; all_goals rfl
 refine fq 3 rfl rfl rfl cK rfl rfl ?_; apply Exists.intro; constructor
 ·intro sv w' hw' hfa
  refine ⟨rfl, ?_⟩; simp only [putsL]; change qT _; simp only [qT, Act.put, sIA, sCS, sCZ]; simp [go_sem, quietTo, Ext.refl]; all_goals rfl
 refine fq 4 rfl rfl rfl cK rfl rfl ?_; apply Exists.intro; constructor
 ·intro sv w' hw' hfa
  refine ⟨rfl, ?_⟩; simp only [putsL]; change qT _; simp only [qT, Act.put, sIA, sCS, sCZ]; simp [go_sem, quietTo, Ext.refl]; all_goals rfl
 refine fq 5 rfl rfl rfl cK rfl rfl ?_; apply Exists.intro; constructor
 ·intro sv w' hw' hfa
  refine ⟨rfl, ?_⟩; simp only [putsL]; change qT _; simp only [qT, Act.put, sIA, sCS, sCZ]; simp [go_sem, quietTo, Ext.refl]; all_goals rfl
 refine fq 6 rfl rfl rfl cK rfl rfl ?_; apply Exists.intro; constructor
 ·intro sv w' hw' hfa
  refine ⟨rfl, ?_⟩; simp only [putsL]; change qT _; simp only [qT, Act.put, sIA, sCS, sCZ]; simp [go_sem, quietTo, Ext.refl]; all_goals rfl
 refine fac_any 7 rfl rfl rfl cK ?_
 refine ⟨(fun y u => ∃ gT gP gN : Nat, y 7 = .func (.func 126) #[] #[.pointer (some ⟨gT, 0, none⟩), .pointer (some ⟨gP, 0, none⟩), .pointer (some ⟨gN, 0, none⟩)] ∧ Blk u gT 26 #[.slice tp tn tc] ∧ Blk u gP 9 #[.string p] ∧ Blk u gN 3 #[.int .i64 no]), fun sv w' hw' hfa => ?_, ?_, ?_⟩
 ·obtain ⟨(f4 : sv 4 = _), (f5 : sv 5 = _), (f6 : sv 6 = _), -⟩ := hfa; (try dsimp only at f4 f5 f6)
  have hk9 := (Ext.refl W1).drew.trans hw'; obtain ⟨hc, -, -⟩ := hk9.walk; have y0 := (hc gx 0 lx).trans x0; have y1 := (hc gx 1 lx).trans x1; have y2 := (hc gx 2 lx).trans x2; have y3 := (hc gx 3 lx).trans x3
  refine ⟨rfl, ?_⟩
  simp only [putsL]
  change outc _ _ (Sem.run _ (execOp (Act.eval (pT (pT (pT _ 23 (sv 6)) 22 (sv 5)) 21 (sv 4))) _) _)
  try simp only [pT, Act.put, sIA, sCS, sCZ]
  simp [go_sem, outc, f4, f5, f6]
  refine (copyFault_any tp tn tc p no _).mono ?_
  rintro e w9 ⟨gT, gP, gN, rfl, h1, h2, h3, hb9⟩
  exact ⟨_, rfl, hb9, gT, gP, gN, by simp [upd], h1, h2, h3⟩
 ·exact fun x w w' ⟨a, b, c, h1, h2, h3, h4⟩ he => ⟨a, b, c, h1, h2.ext he, h3.ext he, h4.ext he⟩
 refine fac_any 8 rfl rfl rfl cK ?_
 refine ⟨(fun y u => ∃ bb : Nat, y 8 = .tuple #[.pointer (some ⟨bb, 0, none⟩), .int .i64 0] ∧ LibP tp tn tc r L u bb), fun sv w' hw' hfa => ?_, ?_, ?_⟩
 ·obtain ⟨(f0 : sv 0 = _), (f1 : sv 1 = _), (f2 : sv 2 = _), (f3 : sv 3 = _), (f4 : sv 4 = _), (f5 : sv 5 = _), (f6 : sv 6 = _), f7, -⟩ := hfa; (try dsimp only at f0 f1 f2 f3 f4 f5 f6)
  obtain ⟨gT, gP, gN, f7, hB1, hB2, hB3⟩ := f7
  replace f7 : sv 7 = _ := f7
  have hk9 := (Ext.refl W1).drew.trans hw'; obtain ⟨hc, -, -⟩ := hk9.walk; have y0 := (hc gx 0 lx).trans x0; have y1 := (hc gx 1 lx).trans x1; have y2 := (hc gx 2 lx).trans x2; have y3 := (hc gx 3 lx).trans x3
  refine ⟨rfl, ?_⟩
  simp only [putsL]
  change outc _ _ (Sem.run _ (execOp (Act.eval (pT (pT (pT (pT (pT (pT (pT (pT _ 24 (sv 7)) 23 (sv 6)) 22 (sv 5)) 21 (sv 4)) 20 (sv 3)) 19 (sv 2)) 18 (sv 1)) 17 (sv 0))) _) _)
  try simp only [pT, Act.put, sIA, sCS, sCZ]
  simp [go_sem, outc, f0, f1, f2, f3, f7]
  refine (hat.out _ gT gP gN (hE.out.trans hk9) hB1 hB2 hB3).mono ?_
  rintro e w9 ⟨base, bb, ms, ml, mh, q, rfl, hL, hb9⟩
  exact ⟨_, rfl, hb9, bb, by simp [upd], base, ms, ml, mh, q, by rw [hLe.out]; exact hL⟩
 ·exact fun x w w' ⟨a, h1, h2⟩ he => ⟨a, h1, h2.ext he⟩
 refine fac_any 9 rfl rfl rfl cK ?_
 refine ⟨(fun y u => ∃ bb : Nat, y 9 = .tuple #[.pointer (some ⟨bb, 0, none⟩), .int .i64 0] ∧ LibP tp tn tc r L u bb), fun sv w' hw' hfa => ?_, ?_, ?_⟩
 ·obtain ⟨(f0 : sv 0 = _), (f1 : sv 1 = _), (f2 : sv 2 = _), (f3 : sv 3 = _), (f4 : sv 4 = _), (f5 : sv 5 = _), (f6 : sv 6 = _), f7, f8, -⟩ := hfa; (try dsimp only at f0 f1 f2 f3 f4 f5 f6)
  obtain ⟨gT, gP, gN, f7, hB1, hB2, hB3⟩ := f7
  replace f7 : sv 7 = _ := f7
  obtain ⟨bb8, f8, hP8⟩ := f8
  replace f8 : sv 8 = _ := f8
  have hk9 := (Ext.refl W1).drew.trans hw'; obtain ⟨hc, -, -⟩ := hk9.walk; have y0 := (hc gx 0 lx).trans x0; have y1 := (hc gx 1 lx).trans x1; have y2 := (hc gx 2 lx).trans x2; have y3 := (hc gx 3 lx).trans x3
  refine ⟨rfl, ?_⟩
  simp only [putsL]
  change outc _ _ (Sem.run _ (execOp (Act.eval (pT (pT (pT (pT (pT (pT (pT (pT (pT _ 25 (sv 8)) 24 (sv 7)) 23 (sv 6)) 22 (sv 5)) 21 (sv 4)) 20 (sv 3)) 19 (sv 2)) 18 (sv 1)) 17 (sv 0))) _) _)
  try simp only [pT, Act.put, sIA, sCS, sCZ]
  simp [go_sem, outc, f8]
  exact ⟨Ext.refl _, bb8, by simp [upd], hP8⟩
 ·exact fun x w w' ⟨a, h1, h2⟩ he => ⟨a, h1, h2.ext he⟩
 refine fac_any 10 rfl rfl rfl cK ?_
 refine ⟨(fun y u => ∃ bb : Nat, y 10 = .pointer (some ⟨bb, 0, none⟩) ∧ LibP tp tn tc r L u bb), fun sv w' hw' hfa => ?_, ?_, ?_⟩
 ·obtain ⟨(f0 : sv 0 = _), (f1 : sv 1 = _), (f2 : sv 2 = _), (f3 : sv 3 = _), (f4 : sv 4 = _), (f5 : sv 5 = _), (f6 : sv 6 = _), f7, f8, f9, -⟩ := hfa; (try dsimp only at f0 f1 f2 f3 f4 f5 f6)
  obtain ⟨gT, gP, gN, f7, hB1, hB2, hB3⟩ := f7
  replace f7 : sv 7 = _ := f7
  obtain ⟨bb8, f8, hP8⟩ := f8
  replace f8 : sv 8 = _ := f8
  obtain ⟨bb9, f9, hP9⟩ := f9
  replace f9 : sv 9 = _ := f9
  have hk9 := (Ext.refl W1).drew.trans hw'; obtain ⟨hc, -, -⟩ := hk9.walk; have y0 := (hc gx 0 lx).trans x0; have y1 := (hc gx 1 lx).trans x1; have y2 := (hc gx 2 lx).trans x2; have y3 := (hc gx 3 lx).trans x3
  refine ⟨rfl, ?_⟩
  simp only [putsL]
  change outc _ _ (Sem.run _ (execOp (Act.eval (pT (pT (pT (pT (pT (pT (pT (pT (pT (pT _ 16 (sv 9)) 25 (sv 8)) 24 (sv 7)) 23 (sv 6)) 22 (sv 5)) 21 (sv 4)) 20 (sv 3)) 19 (sv 2)) 18 (sv 1)) 17 (sv 0))) _) _)
  try simp only [pT, Act.put, sIA, sCS, sCZ]
  simp [go_sem, outc, f9]
  exact ⟨Ext.refl _, bb9, by simp [upd], hP9⟩
 ·exact fun x w w' ⟨a, h1, h2⟩ he => ⟨a, h1, h2.ext he⟩
 refine fac_late 11 rfl rfl Ext.refl cK rfl rfl (fun _ _ _ _ h => h) ?_; apply Exists.intro; constructor
 ·rintro sv w' hw' ⟨_, _, _, _, _, _, _, _, _, f9, -⟩
  obtain ⟨bb9, f9, hP9⟩ := f9
  replace f9 : sv 9 = _ := f9
  refine ⟨rfl, fun w2 => ?_⟩
  simp only [putsL]
  change pureTo _ _ (Sem.run _ (execOp (Act.eval (Act.put (Act.put (Act.put (Act.put (Act.put (Act.put (Act.put (Act.put (Act.put (Act.put _ (some 16) (sv 9)) (some 25) (sv 8)) (some 24) (sv 7)) (some 23) (sv 6)) (some 22) (sv 5)) (some 21) (sv 4)) (some 20) (sv 3)) (some 19) (sv 2)) (some 18) (sv 1)) (some 17) (sv 0))) _) _)
  try simp only [Act.put, sIA, sCS, sCZ]
  simp [go_sem, pureTo, f9]
  (all_goals try simp (disch := omega) only [IntWalk.i64_in]); all_goals rfl
 refine fac_nil fun xa wra hera hfra hcra holda hapa => ?_
 obtain ⟨(f0 : xa 0 = _), (f1 : xa 1 = _), (f2 : xa 2 = _), (f3 : xa 3 = _), (f4 : xa 4 = _), (f5 : xa 5 = _), (f6 : xa 6 = _), f7, f8, f9, f10, f11, -⟩ := hfra; (try dsimp only at f0 f1 f2 f3 f4 f5 f6)
 obtain ⟨gT, gP, gN, f7, hB1, hB2, hB3⟩ := f7
 replace f7 : xa 7 = _ := f7
 obtain ⟨bb8, f8, hP8⟩ := f8
 replace f8 : xa 8 = _ := f8
 obtain ⟨bb9, f9, hP9⟩ := f9
 replace f9 : xa 9 = _ := f9
 obtain ⟨bb, f10, hP10⟩ := f10
 replace f10 : xa 10 = _ := f10; replace f11 : xa 11 = _ := f11
 try dsimp only at f11
 change wpList _ _ _ _ (pT (pT (pT (pT (pT (pT (pT (pT (pT (pT (pT (pT _ 17 (xa 0)) 18 (xa 1)) 19 (xa 2)) 20 (xa 3)) 21 (xa 4)) 22 (xa 5)) 23 (xa 6)) 24 (xa 7)) 25 (xa 8)) 16 (xa 9)) 26 (xa 10)) 27 (xa 11)) _
 simp only [putsL, Nat.reduceAdd, List.drop_succ_cons, List.drop_zero, List.drop_nil, pT, Act.put, sIA, sCS, sCZ]
 try simp only [f0, f1, f2, f3, f4, f5, f6, f7, f8, f9, f10, f11]
 clear f0 f1 f2 f3 f4 f5 f6 f11; clear holda hapa
 have hEw2 := (hE.out.trans (Ext.refl W1).drew).trans hera
 obtain ⟨base, ms, ml, mh, q, hL⟩ := hP10
 have hst := state_any hL p no hk.out
 replace hst := Lib.hid hst; clear hat hL
 go_wp2_with (go_at_call 66; (with_reducible refine Calls.mono hst.out ?_); rintro e w4 ⟨rfl, hb4⟩)
 go_ret2
 exact ⟨rfl, hEw2.trans hb4⟩
end Go.Proofs.YtkjhbofbcmelgaaGreatDoor
