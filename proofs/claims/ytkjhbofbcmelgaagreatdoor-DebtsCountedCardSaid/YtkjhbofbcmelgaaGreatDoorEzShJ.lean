/- The document's library follows a slip other than lending: the walk of do. Conditions: sizes. (Printed by gen_shj.py.) -/
import Derived.Test.YtkjhbofbcmelgaaGreatDoorEzJ34
import Derived.Test.YtkjhbofbcmelgaaGreatDoorEzJ31
import Derived.Test.YtkjhbofbcmelgaaGreatDoorEzLbE
import Derived.Test.YtkjhbofbcmelgaaGreatDoorEzJ21
set_option linter.unusedSimpArgs false
set_option linter.unusedVariables false
namespace Go.Proofs.YtkjhbofbcmelgaaGreatDoor
open Go Go.RowKit
set_option maxRecDepth 100000 in
set_option maxHeartbeats 6400000 in
theorem do2_any {base : Nat} {w : World} {bb ms mr q nr n : Nat} {tp : Option Addr} {tn tc : Nat} {T : List TitleV} {r : LendR} {t : Int} {L : LibS} {F : Int → Option Int} (h : ShM base w bb ms mr q nr tp tn tc r L F) (hT : Slc 3 titleC w tp tn tc T) (htn : tn ≤ 1000) (hI : LibI r.each t L) (hLL : LibL L) (hN : LibN n L) (hln : L.loans.length ≤ 1000) (by_ : ByteArray) (no at_ : Int) (piece : ByteArray) (copy : Int) (singer : ByteArray) (hok : okSN (piece, copy)) (hc : isCopyT T (piece, copy) = true) (hq : q ≤ 1000000) (hbase : base ≤ w.heap.size) :
 Calls Tryz.prog 137 #[.pointer (some ⟨bb, 0, none⟩), .agg #[.string by_, .int .i64 no, .int .i64 at_, .int .i64 2, .string piece, .int .i64 copy, .string singer]] w fun e w' => e = .returned (.int .i64 (slipD T r L ⟨by_, no, at_, 2, piece, copy, singer⟩).2) ∧ ShM base w' bb ms mr (q + 1) nr tp tn tc r (slipD T r L ⟨by_, no, at_, 2, piece, copy, singer⟩).1 F ∧ KeepL base bb ms mr mr w w' := by
 obtain ⟨D, hD⟩ : ∃ D, D = slipD T r L ⟨by_, no, at_, 2, piece, copy, singer⟩ := ⟨_, rfl⟩
 rw [← hD]
 have hbad : L.at_ (piece, copy) ≠ outW → D = (L, 11) := fun hs => by
  rw [hD]
  exact (other_same (T := T) (r := r) (L := L) (x := ⟨by_, no, at_, 2, piece, copy, singer⟩) hc (by show (2 : Int) ≤ 2 ∧ (2 : Int) ≤ 5; decide)).1 hs
 have hgood : L.at_ (piece, copy) = outW → D.2 = 0 ∧ D.1.st = setF L.st (piece, copy) inW ∧ D.1.loans = L.loans.set (lastI L (piece, copy)) ⟨(lastL L (piece, copy)).piece, (lastL L (piece, copy)).no, (lastL L (piece, copy)).singer, (lastL L (piece, copy)).since, at_, (lastL L (piece, copy)).lost⟩ := fun hs => by
  rw [hD]
  exact other_doc (T := T) (r := r) (x := ⟨by_, no, at_, 2, piece, copy, singer⟩) hI hLL hc (by show (2 : Int) ≤ 2 ∧ (2 : Int) ≤ 5; decide) hs
 have hlast : L.at_ (piece, copy) = outW → ∃ l, L.loans[lastI L (piece, copy)]? = some l ∧ lastL L (piece, copy) = l ∧ idL l = (piece, copy) ∧ ∀ (j : Nat) (m : LoanV), lastI L (piece, copy) < j → L.loans[j]? = some m → idL m ≠ (piece, copy) := fun hs => last_is hI hN (.inl hs)
 replace hlast := Lib.hid hlast
 have hE1 : Ext w ((w.alloc (.cells #[.string by_, .int .i64 no, .int .i64 at_, .int .i64 2, .string piece, .int .i64 copy, .string singer] 101)).alloc (.cells #[.string piece, .int .i64 copy] 146)) := ((Ext.refl w).alloc _).alloc _
 have hx1 : Blk ((w.alloc (.cells #[.string by_, .int .i64 no, .int .i64 at_, .int .i64 2, .string piece, .int .i64 copy, .string singer] 101)).alloc (.cells #[.string piece, .int .i64 copy] 146)) w.heap.size 101 #[.string by_, .int .i64 no, .int .i64 at_, .int .i64 2, .string piece, .int .i64 copy, .string singer] := (Blk.new' rfl).alloc _
 have hk1 : Blk ((w.alloc (.cells #[.string by_, .int .i64 no, .int .i64 at_, .int .i64 2, .string piece, .int .i64 copy, .string singer] 101)).alloc (.cells #[.string piece, .int .i64 copy] 146)) (w.heap.size + 1) 146 #[.string piece, .int .i64 copy] := Blk.new' (by simp)
 have hcf : ∀ u, Ext ((w.alloc (.cells #[.string by_, .int .i64 no, .int .i64 at_, .int .i64 2, .string piece, .int .i64 copy, .string singer] 101)).alloc (.cells #[.string piece, .int .i64 copy] 146)) u → Calls Tryz.prog 18 #[.slice tp tn tc, .string piece, .int .i64 copy] u fun e w' => e = .returned (.int .i64 0) ∧ Ext u w' := fun u hu => by
  have h9 := copyFault1_any tp tn tc T piece copy u (hT.ext (hE1.trans hu)) htn
  rw [show copyF T (piece, copy) = 0 by unfold copyF; rw [if_pos hc]] at h9
  exact h9
 have hst := fun u (hu : Ext w u) => shState_any (h.ext hu) piece copy hok
 have hA0 := KeepL.refl (base := base) (bb := bb) (ms := ms) (ml := mr) (mh := mr) w
 replace hcf := Lib.hid hcf; replace hst := Lib.hid hst; replace hbad := Lib.hid hbad; replace hgood := Lib.hid hgood; replace h := Lib.hid h; clear hT hI hLL hN hD hc
 go_enter Tryz.func137, Tryz.ntmps137
 go_upto_region 2 with fail
 generalize ((w.alloc (.cells #[.string by_, .int .i64 no, .int .i64 at_, .int .i64 2, .string piece, .int .i64 copy, .string singer] 101)).alloc (.cells #[.string piece, .int .i64 copy] 146)) = W1 at *
 generalize hgx : w.heap.size = gx at *
 generalize hgk : gx + 1 = gk at *
 have d0 : W1.cell? ⟨bb, 0, none⟩ = some (.slice tp tn tc) := by
  obtain ⟨⟨lv, hB, -⟩, -⟩ := h.out.ext hE1
  exact hB.cell 0
 have lb : bb < W1.heap.size := by
  obtain ⟨⟨lv, hB, -⟩, -⟩ := h.out.ext hE1
  exact hB.lt
 have lx := hx1.lt
 have lk := hk1.lt
 have e4 := hx1.cell 4
 have e5 := hx1.cell 5
 replace hgx := Lib.hid hgx; replace hgk := Lib.hid hgk
 refine wp_region_facts [] [([],false,false),([0],false,false),([0,1],false,false),([0,1,2],false,false),([],false,false),([4],false,false),([],false,false),([6],false,false),([0,1,2,3,4,5,6,7],false,false)] (Ext) Ext (fun _ => True) (by kernel_rfl) (by kernel_rfl) Ext.refl (fun _ _ _ => Ext.trans) (fun _ _ h => h) (fun _ _ h => h.size) (fun _ _ h _ => h) trivial ?_
 dsimp only [List.length_cons, List.length_nil, List.drop_succ_cons, List.drop_zero, List.drop_nil]
 refine fq 0 rfl rfl rfl cK rfl rfl ?_; apply Exists.intro; constructor
 ·intro sv w' hw' hfa
  refine ⟨rfl, ?_⟩; simp only [putsL]; change qT _; simp only [qT, Act.put, sIA, sCS, sCZ]; simp [go_sem, quietTo, Ext.refl]; all_goals rfl
 refine fq 1 rfl rfl rfl cK rfl rfl ?_; apply Exists.intro; constructor
 ·rintro sv w' hw' ⟨(f0 : sv 0 = _), -⟩; (try dsimp only at f0)
  refine ⟨rfl, ?_⟩; simp only [putsL]; change qT (pT _ 13 (sv 0)); simp only [qT, pT, Act.put, sIA, sCS, sCZ]; simp [go_sem, quietTo, Ext.refl, f0]; all_goals rfl
 refine fq 2 rfl rfl rfl cK rfl rfl ?_; apply Exists.intro; constructor
 ·rintro sv w' hw' ⟨_, (f1 : sv 1 = _), -⟩; (try dsimp only at f1)
  refine ⟨rfl, ?_⟩; simp only [putsL]; change qT (pT (pT _ 14 (sv 1)) 13 (sv 0)); simp only [qT, pT, Act.put, sIA, sCS, sCZ]; simp [go_sem, quietTo, Ext.refl, f1]; all_goals rfl
 refine fq 3 rfl rfl rfl cK rfl rfl ?_; apply Exists.intro; constructor
 ·rintro sv w' hw' ⟨_, _, (f2 : sv 2 = _), -⟩; (try dsimp only at f2)
  have hk9 := (Ext.refl W1).drew.trans hw'; obtain ⟨hc, hf, hz9⟩ := hk9.walk; have y0 := (hc bb 0 lb).trans d0
  refine ⟨rfl, ?_⟩; simp only [putsL]; change qT (pT (pT (pT _ 15 (sv 2)) 14 (sv 1)) 13 (sv 0)); simp only [qT, pT, Act.put, sIA, sCS, sCZ]; simp [go_sem, quietTo, Ext.refl, ↓IntWalk.iteOmega, f2, y0]; (all_goals try simp (disch := omega) only [IntWalk.i64_in]); all_goals rfl
 refine fq 4 rfl rfl rfl cK rfl rfl ?_; apply Exists.intro; constructor
 ·intro sv w' hw' hfa
  refine ⟨rfl, ?_⟩; simp only [putsL]; change qT _; simp only [qT, Act.put, sIA, sCS, sCZ]; simp [go_sem, quietTo, Ext.refl]; all_goals rfl
 refine fq 5 rfl rfl rfl cK rfl rfl ?_; apply Exists.intro; constructor
 ·rintro sv w' hw' ⟨(f4 : sv 4 = _), -⟩; (try dsimp only at f4)
  have hk9 := (Ext.refl W1).drew.trans hw'; obtain ⟨hc, hf, hz9⟩ := hk9.walk; have x4 := (hc gx 4 lx).trans e4
  refine ⟨rfl, ?_⟩; simp only [putsL]; change qT (pT _ 17 (sv 4)); simp only [qT, pT, Act.put, sIA, sCS, sCZ]; simp [go_sem, quietTo, Ext.refl, ↓IntWalk.iteOmega, f4, x4]; (all_goals try simp (disch := omega) only [IntWalk.i64_in]); all_goals rfl
 refine fq 6 rfl rfl rfl cK rfl rfl ?_; apply Exists.intro; constructor
 ·intro sv w' hw' hfa
  refine ⟨rfl, ?_⟩; simp only [putsL]; change qT _; simp only [qT, Act.put, sIA, sCS, sCZ]; simp [go_sem, quietTo, Ext.refl]; all_goals rfl
 refine fq 7 rfl rfl rfl cK rfl rfl ?_; apply Exists.intro; constructor
 ·rintro sv w' hw' ⟨(f6 : sv 6 = _), -⟩; (try dsimp only at f6)
  have hk9 := (Ext.refl W1).drew.trans hw'; obtain ⟨hc, hf, hz9⟩ := hk9.walk; have x5 := (hc gx 5 lx).trans e5
  refine ⟨rfl, ?_⟩; simp only [putsL]; change qT (pT _ 19 (sv 6)); simp only [qT, pT, Act.put, sIA, sCS, sCZ]; simp [go_sem, quietTo, Ext.refl, ↓IntWalk.iteOmega, f6, x5]; (all_goals try simp (disch := omega) only [IntWalk.i64_in]); all_goals rfl
 refine fq 8 rfl rfl rfl cK rfl rfl ?_; apply Exists.intro; constructor
 ·rintro sv w' hw' ⟨(f0 : sv 0 = _), (f1 : sv 1 = _), (f2 : sv 2 = _), (f3 : sv 3 = _), (f4 : sv 4 = _), (f5 : sv 5 = _), (f6 : sv 6 = _), (f7 : sv 7 = _), -⟩; (try dsimp only at f0 f1 f2 f3 f4 f5 f6 f7)
  have hk9 := (Ext.refl W1).drew.trans hw'
  refine ⟨rfl, ?_⟩; simp only [putsL]; change qT (pT (pT (pT (pT (pT (pT (pT (pT _ 20 (sv 7)) 19 (sv 6)) 18 (sv 5)) 17 (sv 4)) 16 (sv 3)) 15 (sv 2)) 14 (sv 1)) 13 (sv 0)); simp only [qT, pT, Act.put, sIA, sCS, sCZ]; simp [go_sem, quietTo, Ext.refl, ↓IntWalk.iteOmega, f3, f5, f7]; (all_goals try simp (disch := omega) only [IntWalk.i64_in]); all_goals first | rfl | (exact hcf.out _ hk9)
 refine fac_nil fun xa wra hera hfra hcra holda hapa => ?_
 obtain ⟨(f0 : xa 0 = _), (f1 : xa 1 = _), (f2 : xa 2 = _), (f3 : xa 3 = _), (f4 : xa 4 = _), (f5 : xa 5 = _), (f6 : xa 6 = _), (f7 : xa 7 = _), (f8 : xa 8 = _), -⟩ := hfra; (try dsimp only at f0 f1 f2 f3 f4 f5 f6 f7 f8)
 change wpList _ _ _ _ (pT (pT (pT (pT (pT (pT (pT (pT (pT _ 13 (xa 0)) 14 (xa 1)) 15 (xa 2)) 16 (xa 3)) 17 (xa 4)) 18 (xa 5)) 19 (xa 6)) 20 (xa 7)) 21 (xa 8)) _
 simp only [putsL, Nat.reduceAdd, List.drop_succ_cons, List.drop_zero, List.drop_nil, pT, Act.put, sIA, sCS, sCZ]
 try simp only [f0, f1, f2, f3, f4, f5, f6, f7, f8]
 clear f0 f1 f2 f3 f4 f5 f6 f7 f8; clear holda hapa
 have hka := (Ext.refl W1).drew.trans hera
 have hEa := hE1.trans hka
 have hxa := hx1.ext hka
 have hka1 := hk1.ext hka
 clear hera hcra hcf hx1 hk1 hE1 d0 lb lx lk e4 e5 hka
 have e3 := hxa.cell 3
 have lx := hxa.lt
 go_upto_region 8 with fail
 have z0' := hka1.cell 0
 have z1' := hka1.cell 1
 have lk := hka1.lt
 generalize hat : L.at_ (piece, copy) = st at *
 replace hat := Lib.hid hat
 have hil : outW.toList = [111,117,116] := by rw [Lib.toList_data]; rfl
 cases hsb : (st.toList == [111,117,116])
 ·have hde := hbad.out (fun e => by rw [e, hil] at hsb; exact absurd hsb (by decide))
  subst hde
  clear hgood hbad
  refine wp_region_facts [] [([],false,false),([],false,false),([0,1],false,false),([], false, true),([],false,false),([3,4],false,false),([3,4,5],false,false),([0,1,2,3,4,5,6],false,false)] (Ext) Ext (fun _ => True) (by kernel_rfl) (by kernel_rfl) Ext.refl (fun _ _ _ => Ext.trans) (fun _ _ h => h) (fun _ _ h => h.size) (fun _ _ h _ => h) trivial ?_
  dsimp only [List.length_cons, List.length_nil, List.drop_succ_cons, List.drop_zero, List.drop_nil]
  refine fq 0 rfl rfl rfl cK rfl rfl ?_; apply Exists.intro; constructor
  ·intro sv w' hw' hfa
   refine ⟨rfl, ?_⟩; simp only [putsL]; change qT _; simp only [qT, Act.put, sIA, sCS, sCZ]; simp [go_sem, quietTo, Ext.refl]; all_goals rfl
  refine fq 1 rfl rfl rfl cK rfl rfl ?_; apply Exists.intro; constructor
  ·intro sv w' hw' hfa
   have hk9 := (Ext.refl wra).drew.trans hw'; obtain ⟨hc, hf, hz9⟩ := hk9.walk; have z0 := (hc gk 0 lk).trans z0'; have z1 := (hc gk 1 lk).trans z1'
   refine ⟨rfl, ?_⟩; simp only [putsL]; change qT _; simp only [qT, Act.put, sIA, sCS, sCZ]; simp [go_sem, quietTo, Ext.refl, ↓IntWalk.iteOmega, z0, z1]; (all_goals try simp (disch := omega) only [IntWalk.i64_in]); all_goals rfl
  refine fq 2 rfl rfl rfl cK rfl rfl ?_; apply Exists.intro; constructor
  ·rintro sv w' hw' ⟨(f0 : sv 0 = _), (f1 : sv 1 = _), -⟩; (try dsimp only at f0 f1)
   have hk9 := (Ext.refl wra).drew.trans hw'; obtain ⟨hc, hf, hz9⟩ := hk9.walk; have z0 := (hc gk 0 lk).trans z0'; have z1 := (hc gk 1 lk).trans z1'
   refine ⟨rfl, ?_⟩; simp only [putsL]; change qT (pT (pT _ 36 (sv 1)) 35 (sv 0)); simp only [qT, pT, Act.put, sIA, sCS, sCZ]; simp [go_sem, quietTo, Ext.refl, ↓IntWalk.iteOmega, f0, f1]; (all_goals try simp (disch := omega) only [IntWalk.i64_in]); all_goals first | rfl | (exact hst.out _ (hEa.trans hk9))
  refine fac_row 3 rfl rfl rfl cK (fun _ _ h => h.size) (fun _ _ _ _ _ he _ hb => hb.ext he) ?_
  apply Exists.intro
  apply Exists.intro
  apply Exists.intro
  apply Exists.intro
  refine ⟨fun sv w' hw' hfa => ?_, ?_⟩
  ·refine ⟨rfl, ?_⟩; simp only [putsL]; change rowTo _ _ _ _ _ (Sem.run _ (execOp (Act.eval _) _) _); (try simp only [Act.put, sIA, sCS, sCZ]); simp [go_sem, rowTo, Ext.refl]; (all_goals try simp (disch := omega) only [IntWalk.i64_in]); all_goals first | rfl | exact ⟨rfl, rfl⟩ | exact ⟨⟨rfl, rfl⟩, rfl⟩
  refine fq 4 rfl rfl rfl cK rfl rfl ?_; apply Exists.intro; constructor
  ·intro sv w' hw' hfa
   refine ⟨rfl, ?_⟩; simp only [putsL]; change qT _; simp only [qT, Act.put, sIA, sCS, sCZ]; simp [go_sem, quietTo, Ext.refl]; all_goals rfl
  refine fac_via 5 rfl rfl 3 (fun g => .slice (some ⟨g, 0, none⟩) 4 4) (fun _ _ h => by simpa using h) (by decide) rfl cK ?_ ?_
  ·intro sv w' hfa
   obtain ⟨f3, (f4 : sv 4 = _), -⟩ := hfa; (try dsimp only at f4)
   obtain ⟨g3, f3, l3, b3⟩ := f3; replace f3 : sv 3 = _ := f3; obtain ⟨p3, q3⟩ := b3.walk
   exact ⟨_, f3⟩
  apply Exists.intro
  refine ⟨fun sv w' g hw' hfa hgi => ?_, ?_⟩
  ·obtain ⟨f3, (f4 : sv 4 = _), -⟩ := hfa; (try dsimp only at f4)
   obtain ⟨g3, f3, l3, b3⟩ := f3; replace f3 : sv 3 = _ := f3; obtain ⟨p3, q3⟩ := b3.walk
   have hgg := f3.symm.trans hgi
   simp only [Value.slice.injEq, Value.pointer.injEq, Option.some.injEq, Addr.mk.injEq, and_true] at hgg
   subst hgg
   have hk9 := (Ext.refl wra).drew.trans hw'; obtain ⟨hc, hf, hz9⟩ := hk9.walk; have z0 := (hc gk 0 lk).trans z0'; have z1 := (hc gk 1 lk).trans z1'
   refine ⟨rfl, ?_⟩; simp only [putsL]; change qT (pT (pT _ 39 (sv 4)) 38 (sv 3)); simp only [qT, pT, Act.put, sIA, sCS, sCZ]; simp [go_sem, quietTo, Ext.refl, ↓IntWalk.iteOmega, f3, f4, p3, q3]; (all_goals try simp (disch := omega) only [IntWalk.i64_in]); all_goals rfl
  refine fq 6 rfl rfl rfl cK rfl rfl ?_; apply Exists.intro; constructor
  ·rintro sv w' hw' ⟨f3, _, f5, -⟩
   obtain ⟨g3, f3, l3, b3⟩ := f3; replace f3 : sv 3 = _ := f3; obtain ⟨p3, q3⟩ := b3.walk; replace f5 : sv 5 = _ := f5 _ f3
   try dsimp only at f5
   refine ⟨rfl, ?_⟩; simp only [putsL]; change qT (pT (pT (pT _ 40 (sv 5)) 39 (sv 4)) 38 (sv 3)); simp only [qT, pT, Act.put, sIA, sCS, sCZ]; simp [go_sem, quietTo, Ext.refl, ↓IntWalk.iteOmega, f5, p3, q3]; (all_goals try simp (disch := omega) only [IntWalk.i64_in]); all_goals rfl
  refine fq 7 rfl rfl rfl cK rfl rfl ?_; apply Exists.intro; constructor
  ·rintro sv w' hw' ⟨_, _, (f2 : sv 2 = _), f3, _, _, (f6 : sv 6 = _), -⟩; (try dsimp only at f2 f6)
   obtain ⟨g3, f3, l3, b3⟩ := f3; replace f3 : sv 3 = _ := f3; obtain ⟨p3, q3⟩ := b3.walk
   have hk9 := (Ext.refl wra).drew.trans hw'; obtain ⟨hc, hf, hz9⟩ := hk9.walk; have z0 := (hc gk 0 lk).trans z0'; have z1 := (hc gk 1 lk).trans z1'
   refine ⟨rfl, ?_⟩; simp only [putsL]; change qT (pT (pT (pT (pT (pT (pT (pT _ 41 (sv 6)) 40 (sv 5)) 39 (sv 4)) 38 (sv 3)) 37 (sv 2)) 36 (sv 1)) 35 (sv 0)); simp only [qT, pT, Act.put, sIA, sCS, sCZ]; simp [go_sem, quietTo, Ext.refl, ↓IntWalk.iteOmega, f2, f6, p3, q3, hsb]; (all_goals try simp (disch := omega) only [IntWalk.i64_in]); all_goals rfl
  refine fac_nil fun xb wrb herb hfrb hcrb holdb hapb => ?_
  obtain ⟨(f0 : xb 0 = _), (f1 : xb 1 = _), (f2 : xb 2 = _), f3, (f4 : xb 4 = _), f5, (f6 : xb 6 = _), (f7 : xb 7 = _), -⟩ := hfrb; (try dsimp only at f0 f1 f2 f4 f6 f7)
  obtain ⟨g3, f3, l3, b3⟩ := f3; replace f3 : xb 3 = _ := f3; obtain ⟨p3, q3⟩ := b3.walk; replace f5 : xb 5 = _ := f5 _ f3
  try dsimp only at f5
  change wpList _ _ _ _ (pT (pT (pT (pT (pT (pT (pT (pT _ 35 (xb 0)) 36 (xb 1)) 37 (xb 2)) 38 (xb 3)) 39 (xb 4)) 40 (xb 5)) 41 (xb 6)) 42 (xb 7)) _
  simp only [putsL, Nat.reduceAdd, List.drop_succ_cons, List.drop_zero, List.drop_nil, pT, Act.put, sIA, sCS, sCZ]
  try simp only [f0, f1, f2, f3, f4, f5, f6, f7]
  clear f0 f1 f2 f4 f6 f7; clear holdb hapb
  have hkb := hEa.trans ((Ext.refl wra).drew.trans herb)
  go_wp2
  go_ret
  exact ⟨rfl, (h.out.ext hkb).more (by omega), hA0.ext hkb⟩
 ·have hs : st = outW := bytesB.1 (by rw [hil]; exact hsb)
  obtain ⟨hd2, hds, hdl⟩ := hgood.out hs
  obtain ⟨l, hl, hll, hid, hlt⟩ := hlast.out hs
  rw [hll] at hdl
  generalize lastI L (piece, copy) = i at *
  have hil := (List.getElem?_eq_some_iff.1 hl).1
  clear hll; replace hl := Lib.hid hl; replace hid := Lib.hid hid; replace hlt := Lib.hid hlt; clear hlast; replace hd2 := Lib.hid hd2; replace hds := Lib.hid hds; replace hdl := Lib.hid hdl; clear hs hgood hbad
  refine wp_region_facts [] [([],false,false),([],false,false),([0,1],false,false),([], false, true),([],false,false),([3,4],false,false),([3,4,5],false,false),([0,1,2,3,4,5,6],false,false)] (Ext) Ext (fun _ => True) (by kernel_rfl) (by kernel_rfl) Ext.refl (fun _ _ _ => Ext.trans) (fun _ _ h => h) (fun _ _ h => h.size) (fun _ _ h _ => h) trivial ?_
  dsimp only [List.length_cons, List.length_nil, List.drop_succ_cons, List.drop_zero, List.drop_nil]
  refine fq 0 rfl rfl rfl cK rfl rfl ?_; apply Exists.intro; constructor
  ·intro sv w' hw' hfa
   refine ⟨rfl, ?_⟩; simp only [putsL]; change qT _; simp only [qT, Act.put, sIA, sCS, sCZ]; simp [go_sem, quietTo, Ext.refl]; all_goals rfl
  refine fq 1 rfl rfl rfl cK rfl rfl ?_; apply Exists.intro; constructor
  ·intro sv w' hw' hfa
   have hk9 := (Ext.refl wra).drew.trans hw'; obtain ⟨hc, hf, hz9⟩ := hk9.walk; have z0 := (hc gk 0 lk).trans z0'; have z1 := (hc gk 1 lk).trans z1'
   refine ⟨rfl, ?_⟩; simp only [putsL]; change qT _; simp only [qT, Act.put, sIA, sCS, sCZ]; simp [go_sem, quietTo, Ext.refl, ↓IntWalk.iteOmega, z0, z1]; (all_goals try simp (disch := omega) only [IntWalk.i64_in]); all_goals rfl
  refine fq 2 rfl rfl rfl cK rfl rfl ?_; apply Exists.intro; constructor
  ·rintro sv w' hw' ⟨(f0 : sv 0 = _), (f1 : sv 1 = _), -⟩; (try dsimp only at f0 f1)
   have hk9 := (Ext.refl wra).drew.trans hw'; obtain ⟨hc, hf, hz9⟩ := hk9.walk; have z0 := (hc gk 0 lk).trans z0'; have z1 := (hc gk 1 lk).trans z1'
   refine ⟨rfl, ?_⟩; simp only [putsL]; change qT (pT (pT _ 36 (sv 1)) 35 (sv 0)); simp only [qT, pT, Act.put, sIA, sCS, sCZ]; simp [go_sem, quietTo, Ext.refl, ↓IntWalk.iteOmega, f0, f1]; (all_goals try simp (disch := omega) only [IntWalk.i64_in]); all_goals first | rfl | (exact hst.out _ (hEa.trans hk9))
  refine fac_row 3 rfl rfl rfl cK (fun _ _ h => h.size) (fun _ _ _ _ _ he _ hb => hb.ext he) ?_
  apply Exists.intro
  apply Exists.intro
  apply Exists.intro
  apply Exists.intro
  refine ⟨fun sv w' hw' hfa => ?_, ?_⟩
  ·refine ⟨rfl, ?_⟩; simp only [putsL]; change rowTo _ _ _ _ _ (Sem.run _ (execOp (Act.eval _) _) _); (try simp only [Act.put, sIA, sCS, sCZ]); simp [go_sem, rowTo, Ext.refl]; (all_goals try simp (disch := omega) only [IntWalk.i64_in]); all_goals first | rfl | exact ⟨rfl, rfl⟩ | exact ⟨⟨rfl, rfl⟩, rfl⟩
  refine fq 4 rfl rfl rfl cK rfl rfl ?_; apply Exists.intro; constructor
  ·intro sv w' hw' hfa
   refine ⟨rfl, ?_⟩; simp only [putsL]; change qT _; simp only [qT, Act.put, sIA, sCS, sCZ]; simp [go_sem, quietTo, Ext.refl]; all_goals rfl
  refine fac_via 5 rfl rfl 3 (fun g => .slice (some ⟨g, 0, none⟩) 4 4) (fun _ _ h => by simpa using h) (by decide) rfl cK ?_ ?_
  ·intro sv w' hfa
   obtain ⟨f3, (f4 : sv 4 = _), -⟩ := hfa; (try dsimp only at f4)
   obtain ⟨g3, f3, l3, b3⟩ := f3; replace f3 : sv 3 = _ := f3; obtain ⟨p3, q3⟩ := b3.walk
   exact ⟨_, f3⟩
  apply Exists.intro
  refine ⟨fun sv w' g hw' hfa hgi => ?_, ?_⟩
  ·obtain ⟨f3, (f4 : sv 4 = _), -⟩ := hfa; (try dsimp only at f4)
   obtain ⟨g3, f3, l3, b3⟩ := f3; replace f3 : sv 3 = _ := f3; obtain ⟨p3, q3⟩ := b3.walk
   have hgg := f3.symm.trans hgi
   simp only [Value.slice.injEq, Value.pointer.injEq, Option.some.injEq, Addr.mk.injEq, and_true] at hgg
   subst hgg
   have hk9 := (Ext.refl wra).drew.trans hw'; obtain ⟨hc, hf, hz9⟩ := hk9.walk; have z0 := (hc gk 0 lk).trans z0'; have z1 := (hc gk 1 lk).trans z1'
   refine ⟨rfl, ?_⟩; simp only [putsL]; change qT (pT (pT _ 39 (sv 4)) 38 (sv 3)); simp only [qT, pT, Act.put, sIA, sCS, sCZ]; simp [go_sem, quietTo, Ext.refl, ↓IntWalk.iteOmega, f3, f4, p3, q3]; (all_goals try simp (disch := omega) only [IntWalk.i64_in]); all_goals rfl
  refine fq 6 rfl rfl rfl cK rfl rfl ?_; apply Exists.intro; constructor
  ·rintro sv w' hw' ⟨f3, _, f5, -⟩
   obtain ⟨g3, f3, l3, b3⟩ := f3; replace f3 : sv 3 = _ := f3; obtain ⟨p3, q3⟩ := b3.walk; replace f5 : sv 5 = _ := f5 _ f3
   try dsimp only at f5
   refine ⟨rfl, ?_⟩; simp only [putsL]; change qT (pT (pT (pT _ 40 (sv 5)) 39 (sv 4)) 38 (sv 3)); simp only [qT, pT, Act.put, sIA, sCS, sCZ]; simp [go_sem, quietTo, Ext.refl, ↓IntWalk.iteOmega, f5, p3, q3]; (all_goals try simp (disch := omega) only [IntWalk.i64_in]); all_goals rfl
  refine fq 7 rfl rfl rfl cK rfl rfl ?_; apply Exists.intro; constructor
  ·rintro sv w' hw' ⟨_, _, (f2 : sv 2 = _), f3, _, _, (f6 : sv 6 = _), -⟩; (try dsimp only at f2 f6)
   obtain ⟨g3, f3, l3, b3⟩ := f3; replace f3 : sv 3 = _ := f3; obtain ⟨p3, q3⟩ := b3.walk
   have hk9 := (Ext.refl wra).drew.trans hw'; obtain ⟨hc, hf, hz9⟩ := hk9.walk; have z0 := (hc gk 0 lk).trans z0'; have z1 := (hc gk 1 lk).trans z1'
   refine ⟨rfl, ?_⟩; simp only [putsL]; change qT (pT (pT (pT (pT (pT (pT (pT _ 41 (sv 6)) 40 (sv 5)) 39 (sv 4)) 38 (sv 3)) 37 (sv 2)) 36 (sv 1)) 35 (sv 0)); simp only [qT, pT, Act.put, sIA, sCS, sCZ]; simp [go_sem, quietTo, Ext.refl, ↓IntWalk.iteOmega, f2, f6, p3, q3, hsb]; (all_goals try simp (disch := omega) only [IntWalk.i64_in]); all_goals rfl
  refine fac_nil fun xb wrb herb hfrb hcrb holdb hapb => ?_
  obtain ⟨(f0 : xb 0 = _), (f1 : xb 1 = _), (f2 : xb 2 = _), f3, (f4 : xb 4 = _), f5, (f6 : xb 6 = _), (f7 : xb 7 = _), -⟩ := hfrb; (try dsimp only at f0 f1 f2 f4 f6 f7)
  obtain ⟨g3, f3, l3, b3⟩ := f3; replace f3 : xb 3 = _ := f3; obtain ⟨p3, q3⟩ := b3.walk; replace f5 : xb 5 = _ := f5 _ f3
  try dsimp only at f5
  change wpList _ _ _ _ (pT (pT (pT (pT (pT (pT (pT (pT _ 35 (xb 0)) 36 (xb 1)) 37 (xb 2)) 38 (xb 3)) 39 (xb 4)) 40 (xb 5)) 41 (xb 6)) 42 (xb 7)) _
  simp only [putsL, Nat.reduceAdd, List.drop_succ_cons, List.drop_zero, List.drop_nil, pT, Act.put, sIA, sCS, sCZ]
  try simp only [f0, f1, f2, f3, f4, f5, f6, f7]
  clear f0 f1 f2 f4 f6 f7; clear holdb hapb
  have hkb := (Ext.refl wra).drew.trans herb
  have hEb := hEa.trans hkb
  have hxb := hxa.ext hkb
  have hkb1 := hka1.ext hkb
  obtain ⟨lv, hrow, hm⟩ := (h.out.ext hEb).parts
  obtain ⟨g, cap, rfl, hg0, hgl⟩ := hrow.2.form (by omega)
  have hAb := hA0.ext hEb
  have hbs : base ≤ wrb.heap.size := by have := hEb.size; have := hgx.out; omega
  clear herb hcrb hEa hxa hka1 hst h e3 lx z0' z1' lk hsb hA0 hkb hEb
  go_upto_region 10 with fail
  have lb := hrow.1.lt
  have lk := hkb1.lt
  have c5 := hrow.1.cell 5
  have k0 := hkb1.cell 0
  have k1 := hkb1.cell 1
  unfold shC at c5
  refine wp_region_facts [] [([],false,false),([0],false,false),([0,1],false,false),([0,1,2],false,false),([],false,false),([], false, true),([],false,false),([5,6],false,false),([5,6,7],false,false)] (Ext) Ext (fun _ => True) (by kernel_rfl) (by kernel_rfl) Ext.refl (fun _ _ _ => Ext.trans) (fun _ _ h => h) (fun _ _ h => h.size) (fun _ _ h _ => h) trivial ?_
  dsimp only [List.length_cons, List.length_nil, List.drop_succ_cons, List.drop_zero, List.drop_nil]
  refine fq 0 rfl rfl rfl cK rfl rfl ?_; apply Exists.intro; constructor
  ·intro sv w' hw' hfa
   refine ⟨rfl, ?_⟩; simp only [putsL]; change qT _; simp only [qT, Act.put, sIA, sCS, sCZ]; simp [go_sem, quietTo, Ext.refl]; all_goals rfl
  refine fq 1 rfl rfl rfl cK rfl rfl ?_; apply Exists.intro; constructor
  ·rintro sv w' hw' ⟨(f0 : sv 0 = _), -⟩; (try dsimp only at f0)
   refine ⟨rfl, ?_⟩; simp only [putsL]; change qT (pT _ 43 (sv 0)); simp only [qT, pT, Act.put, sIA, sCS, sCZ]; simp [go_sem, quietTo, Ext.refl, f0]; all_goals rfl
  refine fq 2 rfl rfl rfl cK rfl rfl ?_; apply Exists.intro; constructor
  ·rintro sv w' hw' ⟨_, (f1 : sv 1 = _), -⟩; (try dsimp only at f1)
   refine ⟨rfl, ?_⟩; simp only [putsL]; change qT (pT (pT _ 44 (sv 1)) 43 (sv 0)); simp only [qT, pT, Act.put, sIA, sCS, sCZ]; simp [go_sem, quietTo, Ext.refl, f1]; all_goals rfl
  refine fq 3 rfl rfl rfl cK rfl rfl ?_; apply Exists.intro; constructor
  ·rintro sv w' hw' ⟨_, _, (f2 : sv 2 = _), -⟩; (try dsimp only at f2)
   have hk9 := (Ext.refl wrb).drew.trans hw'; obtain ⟨hc, hf, hz9⟩ := hk9.walk; have y5 := (hc bb 5 lb).trans c5
   refine ⟨rfl, ?_⟩; simp only [putsL]; change qT (pT (pT (pT _ 45 (sv 2)) 44 (sv 1)) 43 (sv 0)); simp only [qT, pT, Act.put, sIA, sCS, sCZ]; simp [go_sem, quietTo, Ext.refl, ↓IntWalk.iteOmega, f2, y5]; (all_goals try simp (disch := omega) only [IntWalk.i64_in]); all_goals rfl
  refine fq 4 rfl rfl rfl cK rfl rfl ?_; apply Exists.intro; constructor
  ·intro sv w' hw' hfa
   have hk9 := (Ext.refl wrb).drew.trans hw'; obtain ⟨hc, hf, hz9⟩ := hk9.walk; have z0 := (hc gk 0 lk).trans k0; have z1 := (hc gk 1 lk).trans k1
   refine ⟨rfl, ?_⟩; simp only [putsL]; change qT _; simp only [qT, Act.put, sIA, sCS, sCZ]; simp [go_sem, quietTo, Ext.refl, ↓IntWalk.iteOmega, z0, z1]; (all_goals try simp (disch := omega) only [IntWalk.i64_in]); all_goals rfl
  refine fac_row 5 rfl rfl rfl cK (fun _ _ h => h.size) (fun _ _ _ _ _ he _ hb => hb.ext he) ?_
  apply Exists.intro
  apply Exists.intro
  apply Exists.intro
  apply Exists.intro
  refine ⟨fun sv w' hw' hfa => ?_, ?_⟩
  ·refine ⟨rfl, ?_⟩; simp only [putsL]; change rowTo _ _ _ _ _ (Sem.run _ (execOp (Act.eval _) _) _); (try simp only [Act.put, sIA, sCS, sCZ]); simp [go_sem, rowTo, Ext.refl]; (all_goals try simp (disch := omega) only [IntWalk.i64_in]); all_goals first | rfl | exact ⟨rfl, rfl⟩ | exact ⟨⟨rfl, rfl⟩, rfl⟩
  refine fq 6 rfl rfl rfl cK rfl rfl ?_; apply Exists.intro; constructor
  ·intro sv w' hw' hfa
   refine ⟨rfl, ?_⟩; simp only [putsL]; change qT _; simp only [qT, Act.put, sIA, sCS, sCZ]; simp [go_sem, quietTo, Ext.refl]; all_goals rfl
  refine fac_via 7 rfl rfl 5 (fun g => .slice (some ⟨g, 0, none⟩) 4 4) (fun _ _ h => by simpa using h) (by decide) rfl cK ?_ ?_
  ·intro sv w' hfa
   obtain ⟨f5, (f6 : sv 6 = _), -⟩ := hfa; (try dsimp only at f6)
   obtain ⟨g5, f5, l5, b5⟩ := f5; replace f5 : sv 5 = _ := f5; obtain ⟨p5, q5⟩ := b5.walk
   exact ⟨_, f5⟩
  apply Exists.intro
  refine ⟨fun sv w' g hw' hfa hgi => ?_, ?_⟩
  ·obtain ⟨f5, (f6 : sv 6 = _), -⟩ := hfa; (try dsimp only at f6)
   obtain ⟨g5, f5, l5, b5⟩ := f5; replace f5 : sv 5 = _ := f5; obtain ⟨p5, q5⟩ := b5.walk
   have hgg := f5.symm.trans hgi
   simp only [Value.slice.injEq, Value.pointer.injEq, Option.some.injEq, Addr.mk.injEq, and_true] at hgg
   subst hgg
   refine ⟨rfl, ?_⟩; simp only [putsL]; change qT (pT (pT _ 49 (sv 6)) 48 (sv 5)); simp only [qT, pT, Act.put, sIA, sCS, sCZ]; simp [go_sem, quietTo, Ext.refl, ↓IntWalk.iteOmega, f5, f6, p5, q5]; (all_goals try simp (disch := omega) only [IntWalk.i64_in]); all_goals rfl
  refine fq 8 rfl rfl rfl cK rfl rfl ?_; apply Exists.intro; constructor
  ·rintro sv w' hw' ⟨f5, _, f7, -⟩
   obtain ⟨g5, f5, l5, b5⟩ := f5; replace f5 : sv 5 = _ := f5; obtain ⟨p5, q5⟩ := b5.walk; replace f7 : sv 7 = _ := f7 _ f5
   try dsimp only at f7
   refine ⟨rfl, ?_⟩; simp only [putsL]; change qT (pT (pT (pT _ 50 (sv 7)) 49 (sv 6)) 48 (sv 5)); simp only [qT, pT, Act.put, sIA, sCS, sCZ]; simp [go_sem, quietTo, Ext.refl, ↓IntWalk.iteOmega, f7, p5, q5]; (all_goals try simp (disch := omega) only [IntWalk.i64_in]); all_goals rfl
  refine fac_nil fun xc wrc herc hfrc hcrc holdc hapc => ?_
  obtain ⟨(f0 : xc 0 = _), (f1 : xc 1 = _), (f2 : xc 2 = _), (f3 : xc 3 = _), (f4 : xc 4 = _), f5, (f6 : xc 6 = _), f7, (f8 : xc 8 = _), -⟩ := hfrc; (try dsimp only at f0 f1 f2 f3 f4 f6 f8)
  obtain ⟨g5, f5, l5, b5⟩ := f5; replace f5 : xc 5 = _ := f5; obtain ⟨p5, q5⟩ := b5.walk; replace f7 : xc 7 = _ := f7 _ f5
  try dsimp only at f7
  change wpList _ _ _ _ (pT (pT (pT (pT (pT (pT (pT (pT (pT _ 43 (xc 0)) 44 (xc 1)) 45 (xc 2)) 46 (xc 3)) 47 (xc 4)) 48 (xc 5)) 49 (xc 6)) 50 (xc 7)) 51 (xc 8)) _
  simp only [putsL, Nat.reduceAdd, List.drop_succ_cons, List.drop_zero, List.drop_nil, pT, Act.put, sIA, sCS, sCZ]
  try simp only [f0, f1, f2, f3, f4, f5, f6, f7, f8]
  clear f0 f1 f2 f3 f4 f6 f8; clear holdc hapc
  have hkc := (Ext.refl wrb).drew.trans herc
  obtain ⟨w6, hr6, hm6, hg6⟩ := (hm.ext hkc).put (k := (piece, copy)) hok (by omega) inW
  unfold snV inW at hr6
  have hrow6 := (hrow.ext hkc).turned hg6 (hm.ext hkc).st.isMap
  have hx6 : Blk w6 gx 101 #[.string by_, .int .i64 no, .int .i64 at_, .int .i64 2, .string piece, .int .i64 copy, .string singer] := (hg6.block gx (hxb.ext hkc).lt fun e => by cases e; exact blk_mapK_ne (hm.ext hkc).st (hxb.ext hkc) rfl).trans (hxb.ext hkc)
  have hk6 : Blk w6 gk 146 #[.string piece, .int .i64 copy] := (hg6.block gk (hkb1.ext hkc).lt fun e => by cases e; exact blk_mapK_ne (hm.ext hkc).st (hkb1.ext hkc) rfl).trans (hkb1.ext hkc)
  have hA6 : KeepL base bb ms mr mr w w6 := (hAb.ext hkc).grown hg6 (.inr (.inl rfl))
  replace hr6 := Lib.hid hr6; replace hm6 := Lib.hid hm6; replace hA6 := Lib.hid hA6; clear hrow hm hxb hkb1 hAb hg6 lb lk c5 k0 k1 herc hkc
  have lx := hx6.lt
  have e3 := hx6.cell 3
  have lk := hk6.lt
  have k0 := hk6.cell 0
  have k1 := hk6.cell 1
  have e2 := hx6.cell 2
  have hla : ∀ u, Ext w6 u → Calls Tryz.prog 176 #[.pointer (some ⟨bb, 0, none⟩), .agg #[.string piece, .int .i64 copy]] u fun e W' => e = .returned (.pointer (some ⟨g, i * 6, none⟩)) ∧ Ext u W' := fun u hu => last_any (q := 0) (nr := 0) (F := fun _ => none) (hrow6.ext hu).1 (hrow6.ext hu).2 hln (piece, copy) i l hl.out hid.out hlt.out
  replace hla := Lib.hid hla; replace hrow6 := Lib.hid hrow6
  go_upto_region 13 with (refine wpList_putM rfl _ _ _ 140 rfl (.map (some ms)) (.agg #[.string piece, .int .i64 copy]) (.string ⟨#[105,110]⟩) rfl rfl rfl w6 hr6.out ?_)
  clear hr6
  refine wp_region_facts [] [([],false,false),([],false,false),([0,1],false,false),([],false,false),([3],false,false)] (Ext) Ext (fun _ => True) (by kernel_rfl) (by kernel_rfl) Ext.refl (fun _ _ _ => Ext.trans) (fun _ _ h => h) (fun _ _ h => h.size) (fun _ _ h _ => h) trivial ?_
  dsimp only [List.length_cons, List.length_nil, List.drop_succ_cons, List.drop_zero, List.drop_nil]
  refine fq 0 rfl rfl rfl cK rfl rfl ?_; apply Exists.intro; constructor
  ·intro sv w' hw' hfa
   refine ⟨rfl, ?_⟩; simp only [putsL]; change qT _; simp only [qT, Act.put, sIA, sCS, sCZ]; simp [go_sem, quietTo, Ext.refl]; all_goals rfl
  refine fq 1 rfl rfl rfl cK rfl rfl ?_; apply Exists.intro; constructor
  ·intro sv w' hw' hfa
   have hk9 := (Ext.refl w6).drew.trans hw'; obtain ⟨hc, hf, hz9⟩ := hk9.walk; have z0 := (hc gk 0 lk).trans k0; have z1 := (hc gk 1 lk).trans k1
   refine ⟨rfl, ?_⟩; simp only [putsL]; change qT _; simp only [qT, Act.put, sIA, sCS, sCZ]; simp [go_sem, quietTo, Ext.refl, ↓IntWalk.iteOmega, z0, z1]; (all_goals try simp (disch := omega) only [IntWalk.i64_in]); all_goals rfl
  refine fq 2 rfl rfl rfl cK rfl rfl ?_; apply Exists.intro; constructor
  ·rintro sv w' hw' ⟨(f0 : sv 0 = _), (f1 : sv 1 = _), -⟩; (try dsimp only at f0 f1)
   have hk9 := (Ext.refl w6).drew.trans hw'
   refine ⟨rfl, ?_⟩; simp only [putsL]; change qT (pT (pT _ 57 (sv 1)) 56 (sv 0)); simp only [qT, pT, Act.put, sIA, sCS, sCZ]; simp [go_sem, quietTo, Ext.refl, ↓IntWalk.iteOmega, f0, f1]; (all_goals try simp (disch := omega) only [IntWalk.i64_in]); all_goals first | rfl | (exact hla.out _ hk9)
  refine fq 3 rfl rfl rfl cK rfl rfl ?_; apply Exists.intro; constructor
  ·intro sv w' hw' hfa
   refine ⟨rfl, ?_⟩; simp only [putsL]; change qT _; simp only [qT, Act.put, sIA, sCS, sCZ]; simp [go_sem, quietTo, Ext.refl]; all_goals rfl
  refine fq 4 rfl rfl rfl cK rfl rfl ?_; apply Exists.intro; constructor
  ·rintro sv w' hw' ⟨(f3 : sv 3 = _), -⟩; (try dsimp only at f3)
   have hk9 := (Ext.refl w6).drew.trans hw'; obtain ⟨hc, hf, hz9⟩ := hk9.walk; have v2 := (hc gx 2 lx).trans e2
   refine ⟨rfl, ?_⟩; simp only [putsL]; change qT (pT _ 59 (sv 3)); simp only [qT, pT, Act.put, sIA, sCS, sCZ]; simp [go_sem, quietTo, Ext.refl, ↓IntWalk.iteOmega, f3, v2]; (all_goals try simp (disch := omega) only [IntWalk.i64_in]); all_goals rfl
  refine fac_nil fun xd wrd herd hfrd hcrd holdd hapd => ?_
  obtain ⟨(f0 : xd 0 = _), (f1 : xd 1 = _), (f2 : xd 2 = _), (f3 : xd 3 = _), (f4 : xd 4 = _), -⟩ := hfrd; (try dsimp only at f0 f1 f2 f3 f4)
  change wpList _ _ _ _ (pT (pT (pT (pT (pT _ 56 (xd 0)) 57 (xd 1)) 58 (xd 2)) 59 (xd 3)) 60 (xd 4)) _
  simp only [putsL, Nat.reduceAdd, List.drop_succ_cons, List.drop_zero, List.drop_nil, pT, Act.put, sIA, sCS, sCZ]
  try simp only [f0, f1, f2, f3, f4]
  clear f0 f1 f2 f3 f4; clear holdd hapd
  have hkd := (Ext.refl w6).drew.trans herd
  have hrowd := hrow6.out.ext hkd
  have hmd := hm6.out.ext hkd
  have hAd := hA6.out.ext hkd
  clear hrow6 hm6 hA6 hla k0 k1 e2 e3 lx lk herd hcrd hx6 hk6 hkd
  have hbg : bb ≠ g := fun e => own_no hrowd.2 hrowd.1 (by decide) (by rw [e]; rfl)
  have c4 : wrd.cell? ⟨g, i * 6 + 4, none⟩ = some (.int .i64 l.till) := own_cell loanC_len hrowd.2 hl.out 4 rfl hil
  have c5 : wrd.cell? ⟨g, i * 6 + 5, none⟩ = some (.bool l.lost) := own_cell loanC_len hrowd.2 hl.out 5 rfl hil
  have zf : ∀ o, wrd.frozen? ⟨g, o, none⟩ = false := fun o => hrowd.2.frozenAt o
  have hgla : g < wrd.heap.size := (hrowd.2.lt g rfl).2
  have own7 := own_set1 loanC_len hrowd.2 ⟨l.piece, l.no, l.singer, l.since, at_, l.lost⟩ hl.out 4 (by decide) (.int .i64 at_) rfl
  have hB7 := hrowd.1.far (p := ⟨g, i * 6 + 4, none⟩) hbg (.int .i64 at_)
  have hm7 := hmd.kept (grown_set wrd ⟨g, i * 6 + 4, none⟩ (.int .i64 at_)) (NoMap.own hrowd.2)
  have hA7 := hAd.app hrowd.2 (grown_set wrd ⟨g, i * 6 + 4, none⟩ (.int .i64 at_))
  have hXl : (L.loans.set i ⟨l.piece, l.no, l.singer, l.since, at_, l.lost⟩).length = L.loans.length := List.length_set
  replace own7 := Lib.hid own7; replace hB7 := Lib.hid hB7; replace hm7 := Lib.hid hm7; replace hA7 := Lib.hid hA7; replace hXl := Lib.hid hXl; clear hrowd hmd hAd
  go_wp2
  go_ret
  exact ⟨by rw [hd2.out]; rfl, DRow.lib (L := D.1) (lv := .slice (some ⟨g, 0, none⟩) L.loans.length cap) (by rw [hdl.out]; exact ⟨hB7.out, by rw [hXl.out]; exact own7.out⟩) (by rw [hds.out]; exact hm7.out), hA7.out⟩
set_option maxRecDepth 100000 in
set_option maxHeartbeats 6400000 in
theorem do3_any {base : Nat} {w : World} {bb ms mr q nr n : Nat} {tp : Option Addr} {tn tc : Nat} {T : List TitleV} {r : LendR} {t : Int} {L : LibS} {F : Int → Option Int} (h : ShM base w bb ms mr q nr tp tn tc r L F) (hT : Slc 3 titleC w tp tn tc T) (htn : tn ≤ 1000) (hI : LibI r.each t L) (hLL : LibL L) (hN : LibN n L) (hln : L.loans.length ≤ 1000) (by_ : ByteArray) (no at_ : Int) (piece : ByteArray) (copy : Int) (singer : ByteArray) (hok : okSN (piece, copy)) (hc : isCopyT T (piece, copy) = true) (hq : q ≤ 1000000) (hbase : base ≤ w.heap.size) :
 Calls Tryz.prog 137 #[.pointer (some ⟨bb, 0, none⟩), .agg #[.string by_, .int .i64 no, .int .i64 at_, .int .i64 3, .string piece, .int .i64 copy, .string singer]] w fun e w' => e = .returned (.int .i64 (slipD T r L ⟨by_, no, at_, 3, piece, copy, singer⟩).2) ∧ ShM base w' bb ms mr (q + 1) nr tp tn tc r (slipD T r L ⟨by_, no, at_, 3, piece, copy, singer⟩).1 F ∧ KeepL base bb ms mr mr w w' := by
 obtain ⟨D, hD⟩ : ∃ D, D = slipD T r L ⟨by_, no, at_, 3, piece, copy, singer⟩ := ⟨_, rfl⟩
 rw [← hD]
 have hbad : L.at_ (piece, copy) ≠ outW → D = (L, 11) := fun hs => by
  rw [hD]
  exact (other_same (T := T) (r := r) (L := L) (x := ⟨by_, no, at_, 3, piece, copy, singer⟩) hc (by show (2 : Int) ≤ 3 ∧ (3 : Int) ≤ 5; decide)).1 hs
 have hgood : L.at_ (piece, copy) = outW → D.2 = 0 ∧ D.1.st = setF L.st (piece, copy) lostW ∧ D.1.loans = L.loans.set (lastI L (piece, copy)) ⟨(lastL L (piece, copy)).piece, (lastL L (piece, copy)).no, (lastL L (piece, copy)).singer, (lastL L (piece, copy)).since, at_, true⟩ := fun hs => by
  rw [hD]
  exact other_doc (T := T) (r := r) (x := ⟨by_, no, at_, 3, piece, copy, singer⟩) hI hLL hc (by show (2 : Int) ≤ 3 ∧ (3 : Int) ≤ 5; decide) hs
 have hlast : L.at_ (piece, copy) = outW → ∃ l, L.loans[lastI L (piece, copy)]? = some l ∧ lastL L (piece, copy) = l ∧ idL l = (piece, copy) ∧ ∀ (j : Nat) (m : LoanV), lastI L (piece, copy) < j → L.loans[j]? = some m → idL m ≠ (piece, copy) := fun hs => last_is hI hN (.inl hs)
 replace hlast := Lib.hid hlast
 have hE1 : Ext w ((w.alloc (.cells #[.string by_, .int .i64 no, .int .i64 at_, .int .i64 3, .string piece, .int .i64 copy, .string singer] 101)).alloc (.cells #[.string piece, .int .i64 copy] 146)) := ((Ext.refl w).alloc _).alloc _
 have hx1 : Blk ((w.alloc (.cells #[.string by_, .int .i64 no, .int .i64 at_, .int .i64 3, .string piece, .int .i64 copy, .string singer] 101)).alloc (.cells #[.string piece, .int .i64 copy] 146)) w.heap.size 101 #[.string by_, .int .i64 no, .int .i64 at_, .int .i64 3, .string piece, .int .i64 copy, .string singer] := (Blk.new' rfl).alloc _
 have hk1 : Blk ((w.alloc (.cells #[.string by_, .int .i64 no, .int .i64 at_, .int .i64 3, .string piece, .int .i64 copy, .string singer] 101)).alloc (.cells #[.string piece, .int .i64 copy] 146)) (w.heap.size + 1) 146 #[.string piece, .int .i64 copy] := Blk.new' (by simp)
 have hcf : ∀ u, Ext ((w.alloc (.cells #[.string by_, .int .i64 no, .int .i64 at_, .int .i64 3, .string piece, .int .i64 copy, .string singer] 101)).alloc (.cells #[.string piece, .int .i64 copy] 146)) u → Calls Tryz.prog 18 #[.slice tp tn tc, .string piece, .int .i64 copy] u fun e w' => e = .returned (.int .i64 0) ∧ Ext u w' := fun u hu => by
  have h9 := copyFault1_any tp tn tc T piece copy u (hT.ext (hE1.trans hu)) htn
  rw [show copyF T (piece, copy) = 0 by unfold copyF; rw [if_pos hc]] at h9
  exact h9
 have hst := fun u (hu : Ext w u) => shState_any (h.ext hu) piece copy hok
 have hA0 := KeepL.refl (base := base) (bb := bb) (ms := ms) (ml := mr) (mh := mr) w
 replace hcf := Lib.hid hcf; replace hst := Lib.hid hst; replace hbad := Lib.hid hbad; replace hgood := Lib.hid hgood; replace h := Lib.hid h; clear hT hI hLL hN hD hc
 go_enter Tryz.func137, Tryz.ntmps137
 go_upto_region 2 with fail
 generalize ((w.alloc (.cells #[.string by_, .int .i64 no, .int .i64 at_, .int .i64 3, .string piece, .int .i64 copy, .string singer] 101)).alloc (.cells #[.string piece, .int .i64 copy] 146)) = W1 at *
 generalize hgx : w.heap.size = gx at *
 generalize hgk : gx + 1 = gk at *
 have d0 : W1.cell? ⟨bb, 0, none⟩ = some (.slice tp tn tc) := by
  obtain ⟨⟨lv, hB, -⟩, -⟩ := h.out.ext hE1
  exact hB.cell 0
 have lb : bb < W1.heap.size := by
  obtain ⟨⟨lv, hB, -⟩, -⟩ := h.out.ext hE1
  exact hB.lt
 have lx := hx1.lt
 have lk := hk1.lt
 have e4 := hx1.cell 4
 have e5 := hx1.cell 5
 replace hgx := Lib.hid hgx; replace hgk := Lib.hid hgk
 refine wp_region_facts [] [([],false,false),([0],false,false),([0,1],false,false),([0,1,2],false,false),([],false,false),([4],false,false),([],false,false),([6],false,false),([0,1,2,3,4,5,6,7],false,false)] (Ext) Ext (fun _ => True) (by kernel_rfl) (by kernel_rfl) Ext.refl (fun _ _ _ => Ext.trans) (fun _ _ h => h) (fun _ _ h => h.size) (fun _ _ h _ => h) trivial ?_
 dsimp only [List.length_cons, List.length_nil, List.drop_succ_cons, List.drop_zero, List.drop_nil]
 refine fq 0 rfl rfl rfl cK rfl rfl ?_; apply Exists.intro; constructor
 ·intro sv w' hw' hfa
  refine ⟨rfl, ?_⟩; simp only [putsL]; change qT _; simp only [qT, Act.put, sIA, sCS, sCZ]; simp [go_sem, quietTo, Ext.refl]; all_goals rfl
 refine fq 1 rfl rfl rfl cK rfl rfl ?_; apply Exists.intro; constructor
 ·rintro sv w' hw' ⟨(f0 : sv 0 = _), -⟩; (try dsimp only at f0)
  refine ⟨rfl, ?_⟩; simp only [putsL]; change qT (pT _ 13 (sv 0)); simp only [qT, pT, Act.put, sIA, sCS, sCZ]; simp [go_sem, quietTo, Ext.refl, f0]; all_goals rfl
 refine fq 2 rfl rfl rfl cK rfl rfl ?_; apply Exists.intro; constructor
 ·rintro sv w' hw' ⟨_, (f1 : sv 1 = _), -⟩; (try dsimp only at f1)
  refine ⟨rfl, ?_⟩; simp only [putsL]; change qT (pT (pT _ 14 (sv 1)) 13 (sv 0)); simp only [qT, pT, Act.put, sIA, sCS, sCZ]; simp [go_sem, quietTo, Ext.refl, f1]; all_goals rfl
 refine fq 3 rfl rfl rfl cK rfl rfl ?_; apply Exists.intro; constructor
 ·rintro sv w' hw' ⟨_, _, (f2 : sv 2 = _), -⟩; (try dsimp only at f2)
  have hk9 := (Ext.refl W1).drew.trans hw'; obtain ⟨hc, hf, hz9⟩ := hk9.walk; have y0 := (hc bb 0 lb).trans d0
  refine ⟨rfl, ?_⟩; simp only [putsL]; change qT (pT (pT (pT _ 15 (sv 2)) 14 (sv 1)) 13 (sv 0)); simp only [qT, pT, Act.put, sIA, sCS, sCZ]; simp [go_sem, quietTo, Ext.refl, ↓IntWalk.iteOmega, f2, y0]; (all_goals try simp (disch := omega) only [IntWalk.i64_in]); all_goals rfl
 refine fq 4 rfl rfl rfl cK rfl rfl ?_; apply Exists.intro; constructor
 ·intro sv w' hw' hfa
  refine ⟨rfl, ?_⟩; simp only [putsL]; change qT _; simp only [qT, Act.put, sIA, sCS, sCZ]; simp [go_sem, quietTo, Ext.refl]; all_goals rfl
 refine fq 5 rfl rfl rfl cK rfl rfl ?_; apply Exists.intro; constructor
 ·rintro sv w' hw' ⟨(f4 : sv 4 = _), -⟩; (try dsimp only at f4)
  have hk9 := (Ext.refl W1).drew.trans hw'; obtain ⟨hc, hf, hz9⟩ := hk9.walk; have x4 := (hc gx 4 lx).trans e4
  refine ⟨rfl, ?_⟩; simp only [putsL]; change qT (pT _ 17 (sv 4)); simp only [qT, pT, Act.put, sIA, sCS, sCZ]; simp [go_sem, quietTo, Ext.refl, ↓IntWalk.iteOmega, f4, x4]; (all_goals try simp (disch := omega) only [IntWalk.i64_in]); all_goals rfl
 refine fq 6 rfl rfl rfl cK rfl rfl ?_; apply Exists.intro; constructor
 ·intro sv w' hw' hfa
  refine ⟨rfl, ?_⟩; simp only [putsL]; change qT _; simp only [qT, Act.put, sIA, sCS, sCZ]; simp [go_sem, quietTo, Ext.refl]; all_goals rfl
 refine fq 7 rfl rfl rfl cK rfl rfl ?_; apply Exists.intro; constructor
 ·rintro sv w' hw' ⟨(f6 : sv 6 = _), -⟩; (try dsimp only at f6)
  have hk9 := (Ext.refl W1).drew.trans hw'; obtain ⟨hc, hf, hz9⟩ := hk9.walk; have x5 := (hc gx 5 lx).trans e5
  refine ⟨rfl, ?_⟩; simp only [putsL]; change qT (pT _ 19 (sv 6)); simp only [qT, pT, Act.put, sIA, sCS, sCZ]; simp [go_sem, quietTo, Ext.refl, ↓IntWalk.iteOmega, f6, x5]; (all_goals try simp (disch := omega) only [IntWalk.i64_in]); all_goals rfl
 refine fq 8 rfl rfl rfl cK rfl rfl ?_; apply Exists.intro; constructor
 ·rintro sv w' hw' ⟨(f0 : sv 0 = _), (f1 : sv 1 = _), (f2 : sv 2 = _), (f3 : sv 3 = _), (f4 : sv 4 = _), (f5 : sv 5 = _), (f6 : sv 6 = _), (f7 : sv 7 = _), -⟩; (try dsimp only at f0 f1 f2 f3 f4 f5 f6 f7)
  have hk9 := (Ext.refl W1).drew.trans hw'
  refine ⟨rfl, ?_⟩; simp only [putsL]; change qT (pT (pT (pT (pT (pT (pT (pT (pT _ 20 (sv 7)) 19 (sv 6)) 18 (sv 5)) 17 (sv 4)) 16 (sv 3)) 15 (sv 2)) 14 (sv 1)) 13 (sv 0)); simp only [qT, pT, Act.put, sIA, sCS, sCZ]; simp [go_sem, quietTo, Ext.refl, ↓IntWalk.iteOmega, f3, f5, f7]; (all_goals try simp (disch := omega) only [IntWalk.i64_in]); all_goals first | rfl | (exact hcf.out _ hk9)
 refine fac_nil fun xa wra hera hfra hcra holda hapa => ?_
 obtain ⟨(f0 : xa 0 = _), (f1 : xa 1 = _), (f2 : xa 2 = _), (f3 : xa 3 = _), (f4 : xa 4 = _), (f5 : xa 5 = _), (f6 : xa 6 = _), (f7 : xa 7 = _), (f8 : xa 8 = _), -⟩ := hfra; (try dsimp only at f0 f1 f2 f3 f4 f5 f6 f7 f8)
 change wpList _ _ _ _ (pT (pT (pT (pT (pT (pT (pT (pT (pT _ 13 (xa 0)) 14 (xa 1)) 15 (xa 2)) 16 (xa 3)) 17 (xa 4)) 18 (xa 5)) 19 (xa 6)) 20 (xa 7)) 21 (xa 8)) _
 simp only [putsL, Nat.reduceAdd, List.drop_succ_cons, List.drop_zero, List.drop_nil, pT, Act.put, sIA, sCS, sCZ]
 try simp only [f0, f1, f2, f3, f4, f5, f6, f7, f8]
 clear f0 f1 f2 f3 f4 f5 f6 f7 f8; clear holda hapa
 have hka := (Ext.refl W1).drew.trans hera
 have hEa := hE1.trans hka
 have hxa := hx1.ext hka
 have hka1 := hk1.ext hka
 clear hera hcra hcf hx1 hk1 hE1 d0 lb lx lk e4 e5 hka
 have e3 := hxa.cell 3
 have lx := hxa.lt
 go_upto_region 8 with fail
 have z0' := hka1.cell 0
 have z1' := hka1.cell 1
 have lk := hka1.lt
 generalize hat : L.at_ (piece, copy) = st at *
 replace hat := Lib.hid hat
 have hil : outW.toList = [111,117,116] := by rw [Lib.toList_data]; rfl
 cases hsb : (st.toList == [111,117,116])
 ·have hde := hbad.out (fun e => by rw [e, hil] at hsb; exact absurd hsb (by decide))
  subst hde
  clear hgood hbad
  refine wp_region_facts [] [([],false,false),([],false,false),([0,1],false,false),([], false, true),([],false,false),([3,4],false,false),([3,4,5],false,false),([0,1,2,3,4,5,6],false,false)] (Ext) Ext (fun _ => True) (by kernel_rfl) (by kernel_rfl) Ext.refl (fun _ _ _ => Ext.trans) (fun _ _ h => h) (fun _ _ h => h.size) (fun _ _ h _ => h) trivial ?_
  dsimp only [List.length_cons, List.length_nil, List.drop_succ_cons, List.drop_zero, List.drop_nil]
  refine fq 0 rfl rfl rfl cK rfl rfl ?_; apply Exists.intro; constructor
  ·intro sv w' hw' hfa
   refine ⟨rfl, ?_⟩; simp only [putsL]; change qT _; simp only [qT, Act.put, sIA, sCS, sCZ]; simp [go_sem, quietTo, Ext.refl]; all_goals rfl
  refine fq 1 rfl rfl rfl cK rfl rfl ?_; apply Exists.intro; constructor
  ·intro sv w' hw' hfa
   have hk9 := (Ext.refl wra).drew.trans hw'; obtain ⟨hc, hf, hz9⟩ := hk9.walk; have z0 := (hc gk 0 lk).trans z0'; have z1 := (hc gk 1 lk).trans z1'
   refine ⟨rfl, ?_⟩; simp only [putsL]; change qT _; simp only [qT, Act.put, sIA, sCS, sCZ]; simp [go_sem, quietTo, Ext.refl, ↓IntWalk.iteOmega, z0, z1]; (all_goals try simp (disch := omega) only [IntWalk.i64_in]); all_goals rfl
  refine fq 2 rfl rfl rfl cK rfl rfl ?_; apply Exists.intro; constructor
  ·rintro sv w' hw' ⟨(f0 : sv 0 = _), (f1 : sv 1 = _), -⟩; (try dsimp only at f0 f1)
   have hk9 := (Ext.refl wra).drew.trans hw'; obtain ⟨hc, hf, hz9⟩ := hk9.walk; have z0 := (hc gk 0 lk).trans z0'; have z1 := (hc gk 1 lk).trans z1'
   refine ⟨rfl, ?_⟩; simp only [putsL]; change qT (pT (pT _ 36 (sv 1)) 35 (sv 0)); simp only [qT, pT, Act.put, sIA, sCS, sCZ]; simp [go_sem, quietTo, Ext.refl, ↓IntWalk.iteOmega, f0, f1]; (all_goals try simp (disch := omega) only [IntWalk.i64_in]); all_goals first | rfl | (exact hst.out _ (hEa.trans hk9))
  refine fac_row 3 rfl rfl rfl cK (fun _ _ h => h.size) (fun _ _ _ _ _ he _ hb => hb.ext he) ?_
  apply Exists.intro
  apply Exists.intro
  apply Exists.intro
  apply Exists.intro
  refine ⟨fun sv w' hw' hfa => ?_, ?_⟩
  ·refine ⟨rfl, ?_⟩; simp only [putsL]; change rowTo _ _ _ _ _ (Sem.run _ (execOp (Act.eval _) _) _); (try simp only [Act.put, sIA, sCS, sCZ]); simp [go_sem, rowTo, Ext.refl]; (all_goals try simp (disch := omega) only [IntWalk.i64_in]); all_goals first | rfl | exact ⟨rfl, rfl⟩ | exact ⟨⟨rfl, rfl⟩, rfl⟩
  refine fq 4 rfl rfl rfl cK rfl rfl ?_; apply Exists.intro; constructor
  ·intro sv w' hw' hfa
   refine ⟨rfl, ?_⟩; simp only [putsL]; change qT _; simp only [qT, Act.put, sIA, sCS, sCZ]; simp [go_sem, quietTo, Ext.refl]; all_goals rfl
  refine fac_via 5 rfl rfl 3 (fun g => .slice (some ⟨g, 0, none⟩) 4 4) (fun _ _ h => by simpa using h) (by decide) rfl cK ?_ ?_
  ·intro sv w' hfa
   obtain ⟨f3, (f4 : sv 4 = _), -⟩ := hfa; (try dsimp only at f4)
   obtain ⟨g3, f3, l3, b3⟩ := f3; replace f3 : sv 3 = _ := f3; obtain ⟨p3, q3⟩ := b3.walk
   exact ⟨_, f3⟩
  apply Exists.intro
  refine ⟨fun sv w' g hw' hfa hgi => ?_, ?_⟩
  ·obtain ⟨f3, (f4 : sv 4 = _), -⟩ := hfa; (try dsimp only at f4)
   obtain ⟨g3, f3, l3, b3⟩ := f3; replace f3 : sv 3 = _ := f3; obtain ⟨p3, q3⟩ := b3.walk
   have hgg := f3.symm.trans hgi
   simp only [Value.slice.injEq, Value.pointer.injEq, Option.some.injEq, Addr.mk.injEq, and_true] at hgg
   subst hgg
   have hk9 := (Ext.refl wra).drew.trans hw'; obtain ⟨hc, hf, hz9⟩ := hk9.walk; have z0 := (hc gk 0 lk).trans z0'; have z1 := (hc gk 1 lk).trans z1'
   refine ⟨rfl, ?_⟩; simp only [putsL]; change qT (pT (pT _ 39 (sv 4)) 38 (sv 3)); simp only [qT, pT, Act.put, sIA, sCS, sCZ]; simp [go_sem, quietTo, Ext.refl, ↓IntWalk.iteOmega, f3, f4, p3, q3]; (all_goals try simp (disch := omega) only [IntWalk.i64_in]); all_goals rfl
  refine fq 6 rfl rfl rfl cK rfl rfl ?_; apply Exists.intro; constructor
  ·rintro sv w' hw' ⟨f3, _, f5, -⟩
   obtain ⟨g3, f3, l3, b3⟩ := f3; replace f3 : sv 3 = _ := f3; obtain ⟨p3, q3⟩ := b3.walk; replace f5 : sv 5 = _ := f5 _ f3
   try dsimp only at f5
   refine ⟨rfl, ?_⟩; simp only [putsL]; change qT (pT (pT (pT _ 40 (sv 5)) 39 (sv 4)) 38 (sv 3)); simp only [qT, pT, Act.put, sIA, sCS, sCZ]; simp [go_sem, quietTo, Ext.refl, ↓IntWalk.iteOmega, f5, p3, q3]; (all_goals try simp (disch := omega) only [IntWalk.i64_in]); all_goals rfl
  refine fq 7 rfl rfl rfl cK rfl rfl ?_; apply Exists.intro; constructor
  ·rintro sv w' hw' ⟨_, _, (f2 : sv 2 = _), f3, _, _, (f6 : sv 6 = _), -⟩; (try dsimp only at f2 f6)
   obtain ⟨g3, f3, l3, b3⟩ := f3; replace f3 : sv 3 = _ := f3; obtain ⟨p3, q3⟩ := b3.walk
   have hk9 := (Ext.refl wra).drew.trans hw'; obtain ⟨hc, hf, hz9⟩ := hk9.walk; have z0 := (hc gk 0 lk).trans z0'; have z1 := (hc gk 1 lk).trans z1'
   refine ⟨rfl, ?_⟩; simp only [putsL]; change qT (pT (pT (pT (pT (pT (pT (pT _ 41 (sv 6)) 40 (sv 5)) 39 (sv 4)) 38 (sv 3)) 37 (sv 2)) 36 (sv 1)) 35 (sv 0)); simp only [qT, pT, Act.put, sIA, sCS, sCZ]; simp [go_sem, quietTo, Ext.refl, ↓IntWalk.iteOmega, f2, f6, p3, q3, hsb]; (all_goals try simp (disch := omega) only [IntWalk.i64_in]); all_goals rfl
  refine fac_nil fun xb wrb herb hfrb hcrb holdb hapb => ?_
  obtain ⟨(f0 : xb 0 = _), (f1 : xb 1 = _), (f2 : xb 2 = _), f3, (f4 : xb 4 = _), f5, (f6 : xb 6 = _), (f7 : xb 7 = _), -⟩ := hfrb; (try dsimp only at f0 f1 f2 f4 f6 f7)
  obtain ⟨g3, f3, l3, b3⟩ := f3; replace f3 : xb 3 = _ := f3; obtain ⟨p3, q3⟩ := b3.walk; replace f5 : xb 5 = _ := f5 _ f3
  try dsimp only at f5
  change wpList _ _ _ _ (pT (pT (pT (pT (pT (pT (pT (pT _ 35 (xb 0)) 36 (xb 1)) 37 (xb 2)) 38 (xb 3)) 39 (xb 4)) 40 (xb 5)) 41 (xb 6)) 42 (xb 7)) _
  simp only [putsL, Nat.reduceAdd, List.drop_succ_cons, List.drop_zero, List.drop_nil, pT, Act.put, sIA, sCS, sCZ]
  try simp only [f0, f1, f2, f3, f4, f5, f6, f7]
  clear f0 f1 f2 f4 f6 f7; clear holdb hapb
  have hkb := hEa.trans ((Ext.refl wra).drew.trans herb)
  go_wp2
  go_ret
  exact ⟨rfl, (h.out.ext hkb).more (by omega), hA0.ext hkb⟩
 ·have hs : st = outW := bytesB.1 (by rw [hil]; exact hsb)
  obtain ⟨hd2, hds, hdl⟩ := hgood.out hs
  obtain ⟨l, hl, hll, hid, hlt⟩ := hlast.out hs
  rw [hll] at hdl
  generalize lastI L (piece, copy) = i at *
  have hil := (List.getElem?_eq_some_iff.1 hl).1
  clear hll; replace hl := Lib.hid hl; replace hid := Lib.hid hid; replace hlt := Lib.hid hlt; clear hlast; replace hd2 := Lib.hid hd2; replace hds := Lib.hid hds; replace hdl := Lib.hid hdl; clear hs hgood hbad
  refine wp_region_facts [] [([],false,false),([],false,false),([0,1],false,false),([], false, true),([],false,false),([3,4],false,false),([3,4,5],false,false),([0,1,2,3,4,5,6],false,false)] (Ext) Ext (fun _ => True) (by kernel_rfl) (by kernel_rfl) Ext.refl (fun _ _ _ => Ext.trans) (fun _ _ h => h) (fun _ _ h => h.size) (fun _ _ h _ => h) trivial ?_
  dsimp only [List.length_cons, List.length_nil, List.drop_succ_cons, List.drop_zero, List.drop_nil]
  refine fq 0 rfl rfl rfl cK rfl rfl ?_; apply Exists.intro; constructor
  ·intro sv w' hw' hfa
   refine ⟨rfl, ?_⟩; simp only [putsL]; change qT _; simp only [qT, Act.put, sIA, sCS, sCZ]; simp [go_sem, quietTo, Ext.refl]; all_goals rfl
  refine fq 1 rfl rfl rfl cK rfl rfl ?_; apply Exists.intro; constructor
  ·intro sv w' hw' hfa
   have hk9 := (Ext.refl wra).drew.trans hw'; obtain ⟨hc, hf, hz9⟩ := hk9.walk; have z0 := (hc gk 0 lk).trans z0'; have z1 := (hc gk 1 lk).trans z1'
   refine ⟨rfl, ?_⟩; simp only [putsL]; change qT _; simp only [qT, Act.put, sIA, sCS, sCZ]; simp [go_sem, quietTo, Ext.refl, ↓IntWalk.iteOmega, z0, z1]; (all_goals try simp (disch := omega) only [IntWalk.i64_in]); all_goals rfl
  refine fq 2 rfl rfl rfl cK rfl rfl ?_; apply Exists.intro; constructor
  ·rintro sv w' hw' ⟨(f0 : sv 0 = _), (f1 : sv 1 = _), -⟩; (try dsimp only at f0 f1)
   have hk9 := (Ext.refl wra).drew.trans hw'; obtain ⟨hc, hf, hz9⟩ := hk9.walk; have z0 := (hc gk 0 lk).trans z0'; have z1 := (hc gk 1 lk).trans z1'
   refine ⟨rfl, ?_⟩; simp only [putsL]; change qT (pT (pT _ 36 (sv 1)) 35 (sv 0)); simp only [qT, pT, Act.put, sIA, sCS, sCZ]; simp [go_sem, quietTo, Ext.refl, ↓IntWalk.iteOmega, f0, f1]; (all_goals try simp (disch := omega) only [IntWalk.i64_in]); all_goals first | rfl | (exact hst.out _ (hEa.trans hk9))
  refine fac_row 3 rfl rfl rfl cK (fun _ _ h => h.size) (fun _ _ _ _ _ he _ hb => hb.ext he) ?_
  apply Exists.intro
  apply Exists.intro
  apply Exists.intro
  apply Exists.intro
  refine ⟨fun sv w' hw' hfa => ?_, ?_⟩
  ·refine ⟨rfl, ?_⟩; simp only [putsL]; change rowTo _ _ _ _ _ (Sem.run _ (execOp (Act.eval _) _) _); (try simp only [Act.put, sIA, sCS, sCZ]); simp [go_sem, rowTo, Ext.refl]; (all_goals try simp (disch := omega) only [IntWalk.i64_in]); all_goals first | rfl | exact ⟨rfl, rfl⟩ | exact ⟨⟨rfl, rfl⟩, rfl⟩
  refine fq 4 rfl rfl rfl cK rfl rfl ?_; apply Exists.intro; constructor
  ·intro sv w' hw' hfa
   refine ⟨rfl, ?_⟩; simp only [putsL]; change qT _; simp only [qT, Act.put, sIA, sCS, sCZ]; simp [go_sem, quietTo, Ext.refl]; all_goals rfl
  refine fac_via 5 rfl rfl 3 (fun g => .slice (some ⟨g, 0, none⟩) 4 4) (fun _ _ h => by simpa using h) (by decide) rfl cK ?_ ?_
  ·intro sv w' hfa
   obtain ⟨f3, (f4 : sv 4 = _), -⟩ := hfa; (try dsimp only at f4)
   obtain ⟨g3, f3, l3, b3⟩ := f3; replace f3 : sv 3 = _ := f3; obtain ⟨p3, q3⟩ := b3.walk
   exact ⟨_, f3⟩
  apply Exists.intro
  refine ⟨fun sv w' g hw' hfa hgi => ?_, ?_⟩
  ·obtain ⟨f3, (f4 : sv 4 = _), -⟩ := hfa; (try dsimp only at f4)
   obtain ⟨g3, f3, l3, b3⟩ := f3; replace f3 : sv 3 = _ := f3; obtain ⟨p3, q3⟩ := b3.walk
   have hgg := f3.symm.trans hgi
   simp only [Value.slice.injEq, Value.pointer.injEq, Option.some.injEq, Addr.mk.injEq, and_true] at hgg
   subst hgg
   have hk9 := (Ext.refl wra).drew.trans hw'; obtain ⟨hc, hf, hz9⟩ := hk9.walk; have z0 := (hc gk 0 lk).trans z0'; have z1 := (hc gk 1 lk).trans z1'
   refine ⟨rfl, ?_⟩; simp only [putsL]; change qT (pT (pT _ 39 (sv 4)) 38 (sv 3)); simp only [qT, pT, Act.put, sIA, sCS, sCZ]; simp [go_sem, quietTo, Ext.refl, ↓IntWalk.iteOmega, f3, f4, p3, q3]; (all_goals try simp (disch := omega) only [IntWalk.i64_in]); all_goals rfl
  refine fq 6 rfl rfl rfl cK rfl rfl ?_; apply Exists.intro; constructor
  ·rintro sv w' hw' ⟨f3, _, f5, -⟩
   obtain ⟨g3, f3, l3, b3⟩ := f3; replace f3 : sv 3 = _ := f3; obtain ⟨p3, q3⟩ := b3.walk; replace f5 : sv 5 = _ := f5 _ f3
   try dsimp only at f5
   refine ⟨rfl, ?_⟩; simp only [putsL]; change qT (pT (pT (pT _ 40 (sv 5)) 39 (sv 4)) 38 (sv 3)); simp only [qT, pT, Act.put, sIA, sCS, sCZ]; simp [go_sem, quietTo, Ext.refl, ↓IntWalk.iteOmega, f5, p3, q3]; (all_goals try simp (disch := omega) only [IntWalk.i64_in]); all_goals rfl
  refine fq 7 rfl rfl rfl cK rfl rfl ?_; apply Exists.intro; constructor
  ·rintro sv w' hw' ⟨_, _, (f2 : sv 2 = _), f3, _, _, (f6 : sv 6 = _), -⟩; (try dsimp only at f2 f6)
   obtain ⟨g3, f3, l3, b3⟩ := f3; replace f3 : sv 3 = _ := f3; obtain ⟨p3, q3⟩ := b3.walk
   have hk9 := (Ext.refl wra).drew.trans hw'; obtain ⟨hc, hf, hz9⟩ := hk9.walk; have z0 := (hc gk 0 lk).trans z0'; have z1 := (hc gk 1 lk).trans z1'
   refine ⟨rfl, ?_⟩; simp only [putsL]; change qT (pT (pT (pT (pT (pT (pT (pT _ 41 (sv 6)) 40 (sv 5)) 39 (sv 4)) 38 (sv 3)) 37 (sv 2)) 36 (sv 1)) 35 (sv 0)); simp only [qT, pT, Act.put, sIA, sCS, sCZ]; simp [go_sem, quietTo, Ext.refl, ↓IntWalk.iteOmega, f2, f6, p3, q3, hsb]; (all_goals try simp (disch := omega) only [IntWalk.i64_in]); all_goals rfl
  refine fac_nil fun xb wrb herb hfrb hcrb holdb hapb => ?_
  obtain ⟨(f0 : xb 0 = _), (f1 : xb 1 = _), (f2 : xb 2 = _), f3, (f4 : xb 4 = _), f5, (f6 : xb 6 = _), (f7 : xb 7 = _), -⟩ := hfrb; (try dsimp only at f0 f1 f2 f4 f6 f7)
  obtain ⟨g3, f3, l3, b3⟩ := f3; replace f3 : xb 3 = _ := f3; obtain ⟨p3, q3⟩ := b3.walk; replace f5 : xb 5 = _ := f5 _ f3
  try dsimp only at f5
  change wpList _ _ _ _ (pT (pT (pT (pT (pT (pT (pT (pT _ 35 (xb 0)) 36 (xb 1)) 37 (xb 2)) 38 (xb 3)) 39 (xb 4)) 40 (xb 5)) 41 (xb 6)) 42 (xb 7)) _
  simp only [putsL, Nat.reduceAdd, List.drop_succ_cons, List.drop_zero, List.drop_nil, pT, Act.put, sIA, sCS, sCZ]
  try simp only [f0, f1, f2, f3, f4, f5, f6, f7]
  clear f0 f1 f2 f4 f6 f7; clear holdb hapb
  have hkb := (Ext.refl wra).drew.trans herb
  have hEb := hEa.trans hkb
  have hxb := hxa.ext hkb
  have hkb1 := hka1.ext hkb
  obtain ⟨lv, hrow, hm⟩ := (h.out.ext hEb).parts
  obtain ⟨g, cap, rfl, hg0, hgl⟩ := hrow.2.form (by omega)
  have hAb := hA0.ext hEb
  have hbs : base ≤ wrb.heap.size := by have := hEb.size; have := hgx.out; omega
  clear herb hcrb hEa hxa hka1 hst h e3 lx z0' z1' lk hsb hA0 hkb hEb
  go_upto_region 10 with fail
  have lb := hrow.1.lt
  have lk := hkb1.lt
  have c5 := hrow.1.cell 5
  have k0 := hkb1.cell 0
  have k1 := hkb1.cell 1
  unfold shC at c5
  refine wp_region_facts [] [([],false,false),([0],false,false),([0,1],false,false),([0,1,2],false,false),([],false,false),([], false, true),([],false,false),([5,6],false,false),([5,6,7],false,false)] (Ext) Ext (fun _ => True) (by kernel_rfl) (by kernel_rfl) Ext.refl (fun _ _ _ => Ext.trans) (fun _ _ h => h) (fun _ _ h => h.size) (fun _ _ h _ => h) trivial ?_
  dsimp only [List.length_cons, List.length_nil, List.drop_succ_cons, List.drop_zero, List.drop_nil]
  refine fq 0 rfl rfl rfl cK rfl rfl ?_; apply Exists.intro; constructor
  ·intro sv w' hw' hfa
   refine ⟨rfl, ?_⟩; simp only [putsL]; change qT _; simp only [qT, Act.put, sIA, sCS, sCZ]; simp [go_sem, quietTo, Ext.refl]; all_goals rfl
  refine fq 1 rfl rfl rfl cK rfl rfl ?_; apply Exists.intro; constructor
  ·rintro sv w' hw' ⟨(f0 : sv 0 = _), -⟩; (try dsimp only at f0)
   refine ⟨rfl, ?_⟩; simp only [putsL]; change qT (pT _ 43 (sv 0)); simp only [qT, pT, Act.put, sIA, sCS, sCZ]; simp [go_sem, quietTo, Ext.refl, f0]; all_goals rfl
  refine fq 2 rfl rfl rfl cK rfl rfl ?_; apply Exists.intro; constructor
  ·rintro sv w' hw' ⟨_, (f1 : sv 1 = _), -⟩; (try dsimp only at f1)
   refine ⟨rfl, ?_⟩; simp only [putsL]; change qT (pT (pT _ 44 (sv 1)) 43 (sv 0)); simp only [qT, pT, Act.put, sIA, sCS, sCZ]; simp [go_sem, quietTo, Ext.refl, f1]; all_goals rfl
  refine fq 3 rfl rfl rfl cK rfl rfl ?_; apply Exists.intro; constructor
  ·rintro sv w' hw' ⟨_, _, (f2 : sv 2 = _), -⟩; (try dsimp only at f2)
   have hk9 := (Ext.refl wrb).drew.trans hw'; obtain ⟨hc, hf, hz9⟩ := hk9.walk; have y5 := (hc bb 5 lb).trans c5
   refine ⟨rfl, ?_⟩; simp only [putsL]; change qT (pT (pT (pT _ 45 (sv 2)) 44 (sv 1)) 43 (sv 0)); simp only [qT, pT, Act.put, sIA, sCS, sCZ]; simp [go_sem, quietTo, Ext.refl, ↓IntWalk.iteOmega, f2, y5]; (all_goals try simp (disch := omega) only [IntWalk.i64_in]); all_goals rfl
  refine fq 4 rfl rfl rfl cK rfl rfl ?_; apply Exists.intro; constructor
  ·intro sv w' hw' hfa
   have hk9 := (Ext.refl wrb).drew.trans hw'; obtain ⟨hc, hf, hz9⟩ := hk9.walk; have z0 := (hc gk 0 lk).trans k0; have z1 := (hc gk 1 lk).trans k1
   refine ⟨rfl, ?_⟩; simp only [putsL]; change qT _; simp only [qT, Act.put, sIA, sCS, sCZ]; simp [go_sem, quietTo, Ext.refl, ↓IntWalk.iteOmega, z0, z1]; (all_goals try simp (disch := omega) only [IntWalk.i64_in]); all_goals rfl
  refine fac_row 5 rfl rfl rfl cK (fun _ _ h => h.size) (fun _ _ _ _ _ he _ hb => hb.ext he) ?_
  apply Exists.intro
  apply Exists.intro
  apply Exists.intro
  apply Exists.intro
  refine ⟨fun sv w' hw' hfa => ?_, ?_⟩
  ·refine ⟨rfl, ?_⟩; simp only [putsL]; change rowTo _ _ _ _ _ (Sem.run _ (execOp (Act.eval _) _) _); (try simp only [Act.put, sIA, sCS, sCZ]); simp [go_sem, rowTo, Ext.refl]; (all_goals try simp (disch := omega) only [IntWalk.i64_in]); all_goals first | rfl | exact ⟨rfl, rfl⟩ | exact ⟨⟨rfl, rfl⟩, rfl⟩
  refine fq 6 rfl rfl rfl cK rfl rfl ?_; apply Exists.intro; constructor
  ·intro sv w' hw' hfa
   refine ⟨rfl, ?_⟩; simp only [putsL]; change qT _; simp only [qT, Act.put, sIA, sCS, sCZ]; simp [go_sem, quietTo, Ext.refl]; all_goals rfl
  refine fac_via 7 rfl rfl 5 (fun g => .slice (some ⟨g, 0, none⟩) 4 4) (fun _ _ h => by simpa using h) (by decide) rfl cK ?_ ?_
  ·intro sv w' hfa
   obtain ⟨f5, (f6 : sv 6 = _), -⟩ := hfa; (try dsimp only at f6)
   obtain ⟨g5, f5, l5, b5⟩ := f5; replace f5 : sv 5 = _ := f5; obtain ⟨p5, q5⟩ := b5.walk
   exact ⟨_, f5⟩
  apply Exists.intro
  refine ⟨fun sv w' g hw' hfa hgi => ?_, ?_⟩
  ·obtain ⟨f5, (f6 : sv 6 = _), -⟩ := hfa; (try dsimp only at f6)
   obtain ⟨g5, f5, l5, b5⟩ := f5; replace f5 : sv 5 = _ := f5; obtain ⟨p5, q5⟩ := b5.walk
   have hgg := f5.symm.trans hgi
   simp only [Value.slice.injEq, Value.pointer.injEq, Option.some.injEq, Addr.mk.injEq, and_true] at hgg
   subst hgg
   refine ⟨rfl, ?_⟩; simp only [putsL]; change qT (pT (pT _ 49 (sv 6)) 48 (sv 5)); simp only [qT, pT, Act.put, sIA, sCS, sCZ]; simp [go_sem, quietTo, Ext.refl, ↓IntWalk.iteOmega, f5, f6, p5, q5]; (all_goals try simp (disch := omega) only [IntWalk.i64_in]); all_goals rfl
  refine fq 8 rfl rfl rfl cK rfl rfl ?_; apply Exists.intro; constructor
  ·rintro sv w' hw' ⟨f5, _, f7, -⟩
   obtain ⟨g5, f5, l5, b5⟩ := f5; replace f5 : sv 5 = _ := f5; obtain ⟨p5, q5⟩ := b5.walk; replace f7 : sv 7 = _ := f7 _ f5
   try dsimp only at f7
   refine ⟨rfl, ?_⟩; simp only [putsL]; change qT (pT (pT (pT _ 50 (sv 7)) 49 (sv 6)) 48 (sv 5)); simp only [qT, pT, Act.put, sIA, sCS, sCZ]; simp [go_sem, quietTo, Ext.refl, ↓IntWalk.iteOmega, f7, p5, q5]; (all_goals try simp (disch := omega) only [IntWalk.i64_in]); all_goals rfl
  refine fac_nil fun xc wrc herc hfrc hcrc holdc hapc => ?_
  obtain ⟨(f0 : xc 0 = _), (f1 : xc 1 = _), (f2 : xc 2 = _), (f3 : xc 3 = _), (f4 : xc 4 = _), f5, (f6 : xc 6 = _), f7, (f8 : xc 8 = _), -⟩ := hfrc; (try dsimp only at f0 f1 f2 f3 f4 f6 f8)
  obtain ⟨g5, f5, l5, b5⟩ := f5; replace f5 : xc 5 = _ := f5; obtain ⟨p5, q5⟩ := b5.walk; replace f7 : xc 7 = _ := f7 _ f5
  try dsimp only at f7
  change wpList _ _ _ _ (pT (pT (pT (pT (pT (pT (pT (pT (pT _ 43 (xc 0)) 44 (xc 1)) 45 (xc 2)) 46 (xc 3)) 47 (xc 4)) 48 (xc 5)) 49 (xc 6)) 50 (xc 7)) 51 (xc 8)) _
  simp only [putsL, Nat.reduceAdd, List.drop_succ_cons, List.drop_zero, List.drop_nil, pT, Act.put, sIA, sCS, sCZ]
  try simp only [f0, f1, f2, f3, f4, f5, f6, f7, f8]
  clear f0 f1 f2 f3 f4 f6 f8; clear holdc hapc
  have hkc := (Ext.refl wrb).drew.trans herc
  obtain ⟨w6, hr6, hm6, hg6⟩ := (hm.ext hkc).put (k := (piece, copy)) hok (by omega) lostW
  unfold snV lostW at hr6
  have hrow6 := (hrow.ext hkc).turned hg6 (hm.ext hkc).st.isMap
  have hx6 : Blk w6 gx 101 #[.string by_, .int .i64 no, .int .i64 at_, .int .i64 3, .string piece, .int .i64 copy, .string singer] := (hg6.block gx (hxb.ext hkc).lt fun e => by cases e; exact blk_mapK_ne (hm.ext hkc).st (hxb.ext hkc) rfl).trans (hxb.ext hkc)
  have hk6 : Blk w6 gk 146 #[.string piece, .int .i64 copy] := (hg6.block gk (hkb1.ext hkc).lt fun e => by cases e; exact blk_mapK_ne (hm.ext hkc).st (hkb1.ext hkc) rfl).trans (hkb1.ext hkc)
  have hA6 : KeepL base bb ms mr mr w w6 := (hAb.ext hkc).grown hg6 (.inr (.inl rfl))
  replace hr6 := Lib.hid hr6; replace hm6 := Lib.hid hm6; replace hA6 := Lib.hid hA6; clear hrow hm hxb hkb1 hAb hg6 lb lk c5 k0 k1 herc hkc
  have lx := hx6.lt
  have e3 := hx6.cell 3
  have lk := hk6.lt
  have k0 := hk6.cell 0
  have k1 := hk6.cell 1
  have e2 := hx6.cell 2
  have hla : ∀ u, Ext w6 u → Calls Tryz.prog 176 #[.pointer (some ⟨bb, 0, none⟩), .agg #[.string piece, .int .i64 copy]] u fun e W' => e = .returned (.pointer (some ⟨g, i * 6, none⟩)) ∧ Ext u W' := fun u hu => last_any (q := 0) (nr := 0) (F := fun _ => none) (hrow6.ext hu).1 (hrow6.ext hu).2 hln (piece, copy) i l hl.out hid.out hlt.out
  replace hla := Lib.hid hla; replace hrow6 := Lib.hid hrow6
  go_upto_region 15 with (refine wpList_putM rfl _ _ _ 140 rfl (.map (some ms)) (.agg #[.string piece, .int .i64 copy]) (.string ⟨#[108,111,115,116]⟩) rfl rfl rfl w6 hr6.out ?_)
  clear hr6
  refine wp_region_facts [] [([],false,false),([],false,false),([0,1],false,false),([],false,false),([],false,false),([3,4],false,false),([],false,false),([6],false,false)] (Ext) Ext (fun _ => True) (by kernel_rfl) (by kernel_rfl) Ext.refl (fun _ _ _ => Ext.trans) (fun _ _ h => h) (fun _ _ h => h.size) (fun _ _ h _ => h) trivial ?_
  dsimp only [List.length_cons, List.length_nil, List.drop_succ_cons, List.drop_zero, List.drop_nil]
  refine fq 0 rfl rfl rfl cK rfl rfl ?_; apply Exists.intro; constructor
  ·intro sv w' hw' hfa
   refine ⟨rfl, ?_⟩; simp only [putsL]; change qT _; simp only [qT, Act.put, sIA, sCS, sCZ]; simp [go_sem, quietTo, Ext.refl]; all_goals rfl
  refine fq 1 rfl rfl rfl cK rfl rfl ?_; apply Exists.intro; constructor
  ·intro sv w' hw' hfa
   have hk9 := (Ext.refl w6).drew.trans hw'; obtain ⟨hc, hf, hz9⟩ := hk9.walk; have z0 := (hc gk 0 lk).trans k0; have z1 := (hc gk 1 lk).trans k1
   refine ⟨rfl, ?_⟩; simp only [putsL]; change qT _; simp only [qT, Act.put, sIA, sCS, sCZ]; simp [go_sem, quietTo, Ext.refl, ↓IntWalk.iteOmega, z0, z1]; (all_goals try simp (disch := omega) only [IntWalk.i64_in]); all_goals rfl
  refine fq 2 rfl rfl rfl cK rfl rfl ?_; apply Exists.intro; constructor
  ·rintro sv w' hw' ⟨(f0 : sv 0 = _), (f1 : sv 1 = _), -⟩; (try dsimp only at f0 f1)
   have hk9 := (Ext.refl w6).drew.trans hw'
   refine ⟨rfl, ?_⟩; simp only [putsL]; change qT (pT (pT _ 66 (sv 1)) 65 (sv 0)); simp only [qT, pT, Act.put, sIA, sCS, sCZ]; simp [go_sem, quietTo, Ext.refl, ↓IntWalk.iteOmega, f0, f1]; (all_goals try simp (disch := omega) only [IntWalk.i64_in]); all_goals first | rfl | (exact hla.out _ hk9)
  refine fq 3 rfl rfl rfl cK rfl rfl ?_; apply Exists.intro; constructor
  ·intro sv w' hw' hfa
   refine ⟨rfl, ?_⟩; simp only [putsL]; change qT _; simp only [qT, Act.put, sIA, sCS, sCZ]; simp [go_sem, quietTo, Ext.refl]; all_goals rfl
  refine fq 4 rfl rfl rfl cK rfl rfl ?_; apply Exists.intro; constructor
  ·intro sv w' hw' hfa
   have hk9 := (Ext.refl w6).drew.trans hw'; obtain ⟨hc, hf, hz9⟩ := hk9.walk; have z0 := (hc gk 0 lk).trans k0; have z1 := (hc gk 1 lk).trans k1
   refine ⟨rfl, ?_⟩; simp only [putsL]; change qT _; simp only [qT, Act.put, sIA, sCS, sCZ]; simp [go_sem, quietTo, Ext.refl, ↓IntWalk.iteOmega, z0, z1]; (all_goals try simp (disch := omega) only [IntWalk.i64_in]); all_goals rfl
  refine fq 5 rfl rfl rfl cK rfl rfl ?_; apply Exists.intro; constructor
  ·rintro sv w' hw' ⟨(f3 : sv 3 = _), (f4 : sv 4 = _), -⟩; (try dsimp only at f3 f4)
   have hk9 := (Ext.refl w6).drew.trans hw'
   refine ⟨rfl, ?_⟩; simp only [putsL]; change qT (pT (pT _ 69 (sv 4)) 68 (sv 3)); simp only [qT, pT, Act.put, sIA, sCS, sCZ]; simp [go_sem, quietTo, Ext.refl, ↓IntWalk.iteOmega, f3, f4]; (all_goals try simp (disch := omega) only [IntWalk.i64_in]); all_goals first | rfl | (exact hla.out _ hk9)
  refine fq 6 rfl rfl rfl cK rfl rfl ?_; apply Exists.intro; constructor
  ·intro sv w' hw' hfa
   refine ⟨rfl, ?_⟩; simp only [putsL]; change qT _; simp only [qT, Act.put, sIA, sCS, sCZ]; simp [go_sem, quietTo, Ext.refl]; all_goals rfl
  refine fq 7 rfl rfl rfl cK rfl rfl ?_; apply Exists.intro; constructor
  ·rintro sv w' hw' ⟨(f6 : sv 6 = _), -⟩; (try dsimp only at f6)
   have hk9 := (Ext.refl w6).drew.trans hw'; obtain ⟨hc, hf, hz9⟩ := hk9.walk; have v2 := (hc gx 2 lx).trans e2
   refine ⟨rfl, ?_⟩; simp only [putsL]; change qT (pT _ 71 (sv 6)); simp only [qT, pT, Act.put, sIA, sCS, sCZ]; simp [go_sem, quietTo, Ext.refl, ↓IntWalk.iteOmega, f6, v2]; (all_goals try simp (disch := omega) only [IntWalk.i64_in]); all_goals rfl
  refine fac_nil fun xd wrd herd hfrd hcrd holdd hapd => ?_
  obtain ⟨(f0 : xd 0 = _), (f1 : xd 1 = _), (f2 : xd 2 = _), (f3 : xd 3 = _), (f4 : xd 4 = _), (f5 : xd 5 = _), (f6 : xd 6 = _), (f7 : xd 7 = _), -⟩ := hfrd; (try dsimp only at f0 f1 f2 f3 f4 f5 f6 f7)
  change wpList _ _ _ _ (pT (pT (pT (pT (pT (pT (pT (pT _ 65 (xd 0)) 66 (xd 1)) 67 (xd 2)) 68 (xd 3)) 69 (xd 4)) 70 (xd 5)) 71 (xd 6)) 72 (xd 7)) _
  simp only [putsL, Nat.reduceAdd, List.drop_succ_cons, List.drop_zero, List.drop_nil, pT, Act.put, sIA, sCS, sCZ]
  try simp only [f0, f1, f2, f3, f4, f5, f6, f7]
  clear f0 f1 f2 f3 f4 f5 f6 f7; clear holdd hapd
  have hkd := (Ext.refl w6).drew.trans herd
  have hrowd := hrow6.out.ext hkd
  have hmd := hm6.out.ext hkd
  have hAd := hA6.out.ext hkd
  clear hrow6 hm6 hA6 hla k0 k1 e2 e3 lx lk herd hcrd hx6 hk6 hkd
  have hbg : bb ≠ g := fun e => own_no hrowd.2 hrowd.1 (by decide) (by rw [e]; rfl)
  have c4 : wrd.cell? ⟨g, i * 6 + 4, none⟩ = some (.int .i64 l.till) := own_cell loanC_len hrowd.2 hl.out 4 rfl hil
  have c5 : wrd.cell? ⟨g, i * 6 + 5, none⟩ = some (.bool l.lost) := own_cell loanC_len hrowd.2 hl.out 5 rfl hil
  have zf : ∀ o, wrd.frozen? ⟨g, o, none⟩ = false := fun o => hrowd.2.frozenAt o
  have hgla : g < wrd.heap.size := (hrowd.2.lt g rfl).2
  have own6 := own_set1 loanC_len hrowd.2 ⟨l.piece, l.no, l.singer, l.since, at_, l.lost⟩ hl.out 4 (by decide) (.int .i64 at_) rfl
  have own7 := own_set1 loanC_len own6 ⟨l.piece, l.no, l.singer, l.since, at_, true⟩ (List.getElem?_set_self hil) 5 (by decide) (.bool true) rfl
  rw [List.set_set] at own7
  have hB7 := (hrowd.1.far (p := ⟨g, i * 6 + 4, none⟩) hbg (.int .i64 at_)).far (p := ⟨g, i * 6 + 5, none⟩) hbg (.bool true)
  have hm7 := (hmd.kept (grown_set wrd ⟨g, i * 6 + 4, none⟩ (.int .i64 at_)) (NoMap.own hrowd.2)).kept (grown_set (wrd.setCell ⟨g, i * 6 + 4, none⟩ (.int .i64 at_)) ⟨g, i * 6 + 5, none⟩ (.bool true)) (NoMap.own own6)
  have hA7 := (hAd.app hrowd.2 (grown_set wrd ⟨g, i * 6 + 4, none⟩ (.int .i64 at_))).app own6 (grown_set (wrd.setCell ⟨g, i * 6 + 4, none⟩ (.int .i64 at_)) ⟨g, i * 6 + 5, none⟩ (.bool true))
  clear own6
  have hXl : (L.loans.set i ⟨l.piece, l.no, l.singer, l.since, at_, true⟩).length = L.loans.length := List.length_set
  replace own7 := Lib.hid own7; replace hB7 := Lib.hid hB7; replace hm7 := Lib.hid hm7; replace hA7 := Lib.hid hA7; replace hXl := Lib.hid hXl; clear hrowd hmd hAd
  go_wp2
  go_ret
  exact ⟨by rw [hd2.out]; rfl, DRow.lib (L := D.1) (lv := .slice (some ⟨g, 0, none⟩) L.loans.length cap) (by rw [hdl.out]; exact ⟨hB7.out, by rw [hXl.out]; exact own7.out⟩) (by rw [hds.out]; exact hm7.out), hA7.out⟩
set_option maxRecDepth 100000 in
set_option maxHeartbeats 6400000 in
theorem do4_any {base : Nat} {w : World} {bb ms mr q nr n : Nat} {tp : Option Addr} {tn tc : Nat} {T : List TitleV} {r : LendR} {t : Int} {L : LibS} {F : Int → Option Int} (h : ShM base w bb ms mr q nr tp tn tc r L F) (hT : Slc 3 titleC w tp tn tc T) (htn : tn ≤ 1000) (hI : LibI r.each t L) (hLL : LibL L) (hN : LibN n L) (hln : L.loans.length ≤ 1000) (by_ : ByteArray) (no at_ : Int) (piece : ByteArray) (copy : Int) (singer : ByteArray) (hok : okSN (piece, copy)) (hc : isCopyT T (piece, copy) = true) (hq : q ≤ 1000000) (hbase : base ≤ w.heap.size) :
 Calls Tryz.prog 137 #[.pointer (some ⟨bb, 0, none⟩), .agg #[.string by_, .int .i64 no, .int .i64 at_, .int .i64 4, .string piece, .int .i64 copy, .string singer]] w fun e w' => e = .returned (.int .i64 (slipD T r L ⟨by_, no, at_, 4, piece, copy, singer⟩).2) ∧ ShM base w' bb ms mr (q + 1) nr tp tn tc r (slipD T r L ⟨by_, no, at_, 4, piece, copy, singer⟩).1 F ∧ KeepL base bb ms mr mr w w' := by
 obtain ⟨D, hD⟩ : ∃ D, D = slipD T r L ⟨by_, no, at_, 4, piece, copy, singer⟩ := ⟨_, rfl⟩
 rw [← hD]
 have hbad : L.at_ (piece, copy) ≠ lostW → D = (L, 11) := fun hs => by
  rw [hD]
  exact (other_same (T := T) (r := r) (L := L) (x := ⟨by_, no, at_, 4, piece, copy, singer⟩) hc (by show (2 : Int) ≤ 4 ∧ (4 : Int) ≤ 5; decide)).1 hs
 have hgood : L.at_ (piece, copy) = lostW → D.2 = 0 ∧ D.1.st = setF L.st (piece, copy) inW ∧ D.1.loans = L.loans.set (lastI L (piece, copy)) ⟨(lastL L (piece, copy)).piece, (lastL L (piece, copy)).no, (lastL L (piece, copy)).singer, (lastL L (piece, copy)).since, (lastL L (piece, copy)).till, false⟩ := fun hs => by
  rw [hD]
  exact other_doc (T := T) (r := r) (x := ⟨by_, no, at_, 4, piece, copy, singer⟩) hI hLL hc (by show (2 : Int) ≤ 4 ∧ (4 : Int) ≤ 5; decide) hs
 have hlast : L.at_ (piece, copy) = lostW → ∃ l, L.loans[lastI L (piece, copy)]? = some l ∧ lastL L (piece, copy) = l ∧ idL l = (piece, copy) ∧ ∀ (j : Nat) (m : LoanV), lastI L (piece, copy) < j → L.loans[j]? = some m → idL m ≠ (piece, copy) := fun hs => last_is hI hN (.inr hs)
 replace hlast := Lib.hid hlast
 have hE1 : Ext w ((w.alloc (.cells #[.string by_, .int .i64 no, .int .i64 at_, .int .i64 4, .string piece, .int .i64 copy, .string singer] 101)).alloc (.cells #[.string piece, .int .i64 copy] 146)) := ((Ext.refl w).alloc _).alloc _
 have hx1 : Blk ((w.alloc (.cells #[.string by_, .int .i64 no, .int .i64 at_, .int .i64 4, .string piece, .int .i64 copy, .string singer] 101)).alloc (.cells #[.string piece, .int .i64 copy] 146)) w.heap.size 101 #[.string by_, .int .i64 no, .int .i64 at_, .int .i64 4, .string piece, .int .i64 copy, .string singer] := (Blk.new' rfl).alloc _
 have hk1 : Blk ((w.alloc (.cells #[.string by_, .int .i64 no, .int .i64 at_, .int .i64 4, .string piece, .int .i64 copy, .string singer] 101)).alloc (.cells #[.string piece, .int .i64 copy] 146)) (w.heap.size + 1) 146 #[.string piece, .int .i64 copy] := Blk.new' (by simp)
 have hcf : ∀ u, Ext ((w.alloc (.cells #[.string by_, .int .i64 no, .int .i64 at_, .int .i64 4, .string piece, .int .i64 copy, .string singer] 101)).alloc (.cells #[.string piece, .int .i64 copy] 146)) u → Calls Tryz.prog 18 #[.slice tp tn tc, .string piece, .int .i64 copy] u fun e w' => e = .returned (.int .i64 0) ∧ Ext u w' := fun u hu => by
  have h9 := copyFault1_any tp tn tc T piece copy u (hT.ext (hE1.trans hu)) htn
  rw [show copyF T (piece, copy) = 0 by unfold copyF; rw [if_pos hc]] at h9
  exact h9
 have hst := fun u (hu : Ext w u) => shState_any (h.ext hu) piece copy hok
 have hA0 := KeepL.refl (base := base) (bb := bb) (ms := ms) (ml := mr) (mh := mr) w
 replace hcf := Lib.hid hcf; replace hst := Lib.hid hst; replace hbad := Lib.hid hbad; replace hgood := Lib.hid hgood; replace h := Lib.hid h; clear hT hI hLL hN hD hc
 go_enter Tryz.func137, Tryz.ntmps137
 go_upto_region 2 with fail
 generalize ((w.alloc (.cells #[.string by_, .int .i64 no, .int .i64 at_, .int .i64 4, .string piece, .int .i64 copy, .string singer] 101)).alloc (.cells #[.string piece, .int .i64 copy] 146)) = W1 at *
 generalize hgx : w.heap.size = gx at *
 generalize hgk : gx + 1 = gk at *
 have d0 : W1.cell? ⟨bb, 0, none⟩ = some (.slice tp tn tc) := by
  obtain ⟨⟨lv, hB, -⟩, -⟩ := h.out.ext hE1
  exact hB.cell 0
 have lb : bb < W1.heap.size := by
  obtain ⟨⟨lv, hB, -⟩, -⟩ := h.out.ext hE1
  exact hB.lt
 have lx := hx1.lt
 have lk := hk1.lt
 have e4 := hx1.cell 4
 have e5 := hx1.cell 5
 replace hgx := Lib.hid hgx; replace hgk := Lib.hid hgk
 refine wp_region_facts [] [([],false,false),([0],false,false),([0,1],false,false),([0,1,2],false,false),([],false,false),([4],false,false),([],false,false),([6],false,false),([0,1,2,3,4,5,6,7],false,false)] (Ext) Ext (fun _ => True) (by kernel_rfl) (by kernel_rfl) Ext.refl (fun _ _ _ => Ext.trans) (fun _ _ h => h) (fun _ _ h => h.size) (fun _ _ h _ => h) trivial ?_
 dsimp only [List.length_cons, List.length_nil, List.drop_succ_cons, List.drop_zero, List.drop_nil]
 refine fq 0 rfl rfl rfl cK rfl rfl ?_; apply Exists.intro; constructor
 ·intro sv w' hw' hfa
  refine ⟨rfl, ?_⟩; simp only [putsL]; change qT _; simp only [qT, Act.put, sIA, sCS, sCZ]; simp [go_sem, quietTo, Ext.refl]; all_goals rfl
 refine fq 1 rfl rfl rfl cK rfl rfl ?_; apply Exists.intro; constructor
 ·rintro sv w' hw' ⟨(f0 : sv 0 = _), -⟩; (try dsimp only at f0)
  refine ⟨rfl, ?_⟩; simp only [putsL]; change qT (pT _ 13 (sv 0)); simp only [qT, pT, Act.put, sIA, sCS, sCZ]; simp [go_sem, quietTo, Ext.refl, f0]; all_goals rfl
 refine fq 2 rfl rfl rfl cK rfl rfl ?_; apply Exists.intro; constructor
 ·rintro sv w' hw' ⟨_, (f1 : sv 1 = _), -⟩; (try dsimp only at f1)
  refine ⟨rfl, ?_⟩; simp only [putsL]; change qT (pT (pT _ 14 (sv 1)) 13 (sv 0)); simp only [qT, pT, Act.put, sIA, sCS, sCZ]; simp [go_sem, quietTo, Ext.refl, f1]; all_goals rfl
 refine fq 3 rfl rfl rfl cK rfl rfl ?_; apply Exists.intro; constructor
 ·rintro sv w' hw' ⟨_, _, (f2 : sv 2 = _), -⟩; (try dsimp only at f2)
  have hk9 := (Ext.refl W1).drew.trans hw'; obtain ⟨hc, hf, hz9⟩ := hk9.walk; have y0 := (hc bb 0 lb).trans d0
  refine ⟨rfl, ?_⟩; simp only [putsL]; change qT (pT (pT (pT _ 15 (sv 2)) 14 (sv 1)) 13 (sv 0)); simp only [qT, pT, Act.put, sIA, sCS, sCZ]; simp [go_sem, quietTo, Ext.refl, ↓IntWalk.iteOmega, f2, y0]; (all_goals try simp (disch := omega) only [IntWalk.i64_in]); all_goals rfl
 refine fq 4 rfl rfl rfl cK rfl rfl ?_; apply Exists.intro; constructor
 ·intro sv w' hw' hfa
  refine ⟨rfl, ?_⟩; simp only [putsL]; change qT _; simp only [qT, Act.put, sIA, sCS, sCZ]; simp [go_sem, quietTo, Ext.refl]; all_goals rfl
 refine fq 5 rfl rfl rfl cK rfl rfl ?_; apply Exists.intro; constructor
 ·rintro sv w' hw' ⟨(f4 : sv 4 = _), -⟩; (try dsimp only at f4)
  have hk9 := (Ext.refl W1).drew.trans hw'; obtain ⟨hc, hf, hz9⟩ := hk9.walk; have x4 := (hc gx 4 lx).trans e4
  refine ⟨rfl, ?_⟩; simp only [putsL]; change qT (pT _ 17 (sv 4)); simp only [qT, pT, Act.put, sIA, sCS, sCZ]; simp [go_sem, quietTo, Ext.refl, ↓IntWalk.iteOmega, f4, x4]; (all_goals try simp (disch := omega) only [IntWalk.i64_in]); all_goals rfl
 refine fq 6 rfl rfl rfl cK rfl rfl ?_; apply Exists.intro; constructor
 ·intro sv w' hw' hfa
  refine ⟨rfl, ?_⟩; simp only [putsL]; change qT _; simp only [qT, Act.put, sIA, sCS, sCZ]; simp [go_sem, quietTo, Ext.refl]; all_goals rfl
 refine fq 7 rfl rfl rfl cK rfl rfl ?_; apply Exists.intro; constructor
 ·rintro sv w' hw' ⟨(f6 : sv 6 = _), -⟩; (try dsimp only at f6)
  have hk9 := (Ext.refl W1).drew.trans hw'; obtain ⟨hc, hf, hz9⟩ := hk9.walk; have x5 := (hc gx 5 lx).trans e5
  refine ⟨rfl, ?_⟩; simp only [putsL]; change qT (pT _ 19 (sv 6)); simp only [qT, pT, Act.put, sIA, sCS, sCZ]; simp [go_sem, quietTo, Ext.refl, ↓IntWalk.iteOmega, f6, x5]; (all_goals try simp (disch := omega) only [IntWalk.i64_in]); all_goals rfl
 refine fq 8 rfl rfl rfl cK rfl rfl ?_; apply Exists.intro; constructor
 ·rintro sv w' hw' ⟨(f0 : sv 0 = _), (f1 : sv 1 = _), (f2 : sv 2 = _), (f3 : sv 3 = _), (f4 : sv 4 = _), (f5 : sv 5 = _), (f6 : sv 6 = _), (f7 : sv 7 = _), -⟩; (try dsimp only at f0 f1 f2 f3 f4 f5 f6 f7)
  have hk9 := (Ext.refl W1).drew.trans hw'
  refine ⟨rfl, ?_⟩; simp only [putsL]; change qT (pT (pT (pT (pT (pT (pT (pT (pT _ 20 (sv 7)) 19 (sv 6)) 18 (sv 5)) 17 (sv 4)) 16 (sv 3)) 15 (sv 2)) 14 (sv 1)) 13 (sv 0)); simp only [qT, pT, Act.put, sIA, sCS, sCZ]; simp [go_sem, quietTo, Ext.refl, ↓IntWalk.iteOmega, f3, f5, f7]; (all_goals try simp (disch := omega) only [IntWalk.i64_in]); all_goals first | rfl | (exact hcf.out _ hk9)
 refine fac_nil fun xa wra hera hfra hcra holda hapa => ?_
 obtain ⟨(f0 : xa 0 = _), (f1 : xa 1 = _), (f2 : xa 2 = _), (f3 : xa 3 = _), (f4 : xa 4 = _), (f5 : xa 5 = _), (f6 : xa 6 = _), (f7 : xa 7 = _), (f8 : xa 8 = _), -⟩ := hfra; (try dsimp only at f0 f1 f2 f3 f4 f5 f6 f7 f8)
 change wpList _ _ _ _ (pT (pT (pT (pT (pT (pT (pT (pT (pT _ 13 (xa 0)) 14 (xa 1)) 15 (xa 2)) 16 (xa 3)) 17 (xa 4)) 18 (xa 5)) 19 (xa 6)) 20 (xa 7)) 21 (xa 8)) _
 simp only [putsL, Nat.reduceAdd, List.drop_succ_cons, List.drop_zero, List.drop_nil, pT, Act.put, sIA, sCS, sCZ]
 try simp only [f0, f1, f2, f3, f4, f5, f6, f7, f8]
 clear f0 f1 f2 f3 f4 f5 f6 f7 f8; clear holda hapa
 have hka := (Ext.refl W1).drew.trans hera
 have hEa := hE1.trans hka
 have hxa := hx1.ext hka
 have hka1 := hk1.ext hka
 clear hera hcra hcf hx1 hk1 hE1 d0 lb lx lk e4 e5 hka
 have e3 := hxa.cell 3
 have lx := hxa.lt
 go_upto_region 8 with fail
 have z0' := hka1.cell 0
 have z1' := hka1.cell 1
 have lk := hka1.lt
 generalize hat : L.at_ (piece, copy) = st at *
 replace hat := Lib.hid hat
 have hil : lostW.toList = [108,111,115,116] := by rw [Lib.toList_data]; rfl
 cases hsb : (st.toList == [108,111,115,116])
 ·have hde := hbad.out (fun e => by rw [e, hil] at hsb; exact absurd hsb (by decide))
  subst hde
  clear hgood hbad
  refine wp_region_facts [] [([],false,false),([],false,false),([0,1],false,false),([], false, true),([],false,false),([3,4],false,false),([3,4,5],false,false),([0,1,2,3,4,5,6],false,false)] (Ext) Ext (fun _ => True) (by kernel_rfl) (by kernel_rfl) Ext.refl (fun _ _ _ => Ext.trans) (fun _ _ h => h) (fun _ _ h => h.size) (fun _ _ h _ => h) trivial ?_
  dsimp only [List.length_cons, List.length_nil, List.drop_succ_cons, List.drop_zero, List.drop_nil]
  refine fq 0 rfl rfl rfl cK rfl rfl ?_; apply Exists.intro; constructor
  ·intro sv w' hw' hfa
   refine ⟨rfl, ?_⟩; simp only [putsL]; change qT _; simp only [qT, Act.put, sIA, sCS, sCZ]; simp [go_sem, quietTo, Ext.refl]; all_goals rfl
  refine fq 1 rfl rfl rfl cK rfl rfl ?_; apply Exists.intro; constructor
  ·intro sv w' hw' hfa
   have hk9 := (Ext.refl wra).drew.trans hw'; obtain ⟨hc, hf, hz9⟩ := hk9.walk; have z0 := (hc gk 0 lk).trans z0'; have z1 := (hc gk 1 lk).trans z1'
   refine ⟨rfl, ?_⟩; simp only [putsL]; change qT _; simp only [qT, Act.put, sIA, sCS, sCZ]; simp [go_sem, quietTo, Ext.refl, ↓IntWalk.iteOmega, z0, z1]; (all_goals try simp (disch := omega) only [IntWalk.i64_in]); all_goals rfl
  refine fq 2 rfl rfl rfl cK rfl rfl ?_; apply Exists.intro; constructor
  ·rintro sv w' hw' ⟨(f0 : sv 0 = _), (f1 : sv 1 = _), -⟩; (try dsimp only at f0 f1)
   have hk9 := (Ext.refl wra).drew.trans hw'; obtain ⟨hc, hf, hz9⟩ := hk9.walk; have z0 := (hc gk 0 lk).trans z0'; have z1 := (hc gk 1 lk).trans z1'
   refine ⟨rfl, ?_⟩; simp only [putsL]; change qT (pT (pT _ 36 (sv 1)) 35 (sv 0)); simp only [qT, pT, Act.put, sIA, sCS, sCZ]; simp [go_sem, quietTo, Ext.refl, ↓IntWalk.iteOmega, f0, f1]; (all_goals try simp (disch := omega) only [IntWalk.i64_in]); all_goals first | rfl | (exact hst.out _ (hEa.trans hk9))
  refine fac_row 3 rfl rfl rfl cK (fun _ _ h => h.size) (fun _ _ _ _ _ he _ hb => hb.ext he) ?_
  apply Exists.intro
  apply Exists.intro
  apply Exists.intro
  apply Exists.intro
  refine ⟨fun sv w' hw' hfa => ?_, ?_⟩
  ·refine ⟨rfl, ?_⟩; simp only [putsL]; change rowTo _ _ _ _ _ (Sem.run _ (execOp (Act.eval _) _) _); (try simp only [Act.put, sIA, sCS, sCZ]); simp [go_sem, rowTo, Ext.refl]; (all_goals try simp (disch := omega) only [IntWalk.i64_in]); all_goals first | rfl | exact ⟨rfl, rfl⟩ | exact ⟨⟨rfl, rfl⟩, rfl⟩
  refine fq 4 rfl rfl rfl cK rfl rfl ?_; apply Exists.intro; constructor
  ·intro sv w' hw' hfa
   refine ⟨rfl, ?_⟩; simp only [putsL]; change qT _; simp only [qT, Act.put, sIA, sCS, sCZ]; simp [go_sem, quietTo, Ext.refl]; all_goals rfl
  refine fac_via 5 rfl rfl 3 (fun g => .slice (some ⟨g, 0, none⟩) 4 4) (fun _ _ h => by simpa using h) (by decide) rfl cK ?_ ?_
  ·intro sv w' hfa
   obtain ⟨f3, (f4 : sv 4 = _), -⟩ := hfa; (try dsimp only at f4)
   obtain ⟨g3, f3, l3, b3⟩ := f3; replace f3 : sv 3 = _ := f3; obtain ⟨p3, q3⟩ := b3.walk
   exact ⟨_, f3⟩
  apply Exists.intro
  refine ⟨fun sv w' g hw' hfa hgi => ?_, ?_⟩
  ·obtain ⟨f3, (f4 : sv 4 = _), -⟩ := hfa; (try dsimp only at f4)
   obtain ⟨g3, f3, l3, b3⟩ := f3; replace f3 : sv 3 = _ := f3; obtain ⟨p3, q3⟩ := b3.walk
   have hgg := f3.symm.trans hgi
   simp only [Value.slice.injEq, Value.pointer.injEq, Option.some.injEq, Addr.mk.injEq, and_true] at hgg
   subst hgg
   have hk9 := (Ext.refl wra).drew.trans hw'; obtain ⟨hc, hf, hz9⟩ := hk9.walk; have z0 := (hc gk 0 lk).trans z0'; have z1 := (hc gk 1 lk).trans z1'
   refine ⟨rfl, ?_⟩; simp only [putsL]; change qT (pT (pT _ 39 (sv 4)) 38 (sv 3)); simp only [qT, pT, Act.put, sIA, sCS, sCZ]; simp [go_sem, quietTo, Ext.refl, ↓IntWalk.iteOmega, f3, f4, p3, q3]; (all_goals try simp (disch := omega) only [IntWalk.i64_in]); all_goals rfl
  refine fq 6 rfl rfl rfl cK rfl rfl ?_; apply Exists.intro; constructor
  ·rintro sv w' hw' ⟨f3, _, f5, -⟩
   obtain ⟨g3, f3, l3, b3⟩ := f3; replace f3 : sv 3 = _ := f3; obtain ⟨p3, q3⟩ := b3.walk; replace f5 : sv 5 = _ := f5 _ f3
   try dsimp only at f5
   refine ⟨rfl, ?_⟩; simp only [putsL]; change qT (pT (pT (pT _ 40 (sv 5)) 39 (sv 4)) 38 (sv 3)); simp only [qT, pT, Act.put, sIA, sCS, sCZ]; simp [go_sem, quietTo, Ext.refl, ↓IntWalk.iteOmega, f5, p3, q3]; (all_goals try simp (disch := omega) only [IntWalk.i64_in]); all_goals rfl
  refine fq 7 rfl rfl rfl cK rfl rfl ?_; apply Exists.intro; constructor
  ·rintro sv w' hw' ⟨_, _, (f2 : sv 2 = _), f3, _, _, (f6 : sv 6 = _), -⟩; (try dsimp only at f2 f6)
   obtain ⟨g3, f3, l3, b3⟩ := f3; replace f3 : sv 3 = _ := f3; obtain ⟨p3, q3⟩ := b3.walk
   have hk9 := (Ext.refl wra).drew.trans hw'; obtain ⟨hc, hf, hz9⟩ := hk9.walk; have z0 := (hc gk 0 lk).trans z0'; have z1 := (hc gk 1 lk).trans z1'
   refine ⟨rfl, ?_⟩; simp only [putsL]; change qT (pT (pT (pT (pT (pT (pT (pT _ 41 (sv 6)) 40 (sv 5)) 39 (sv 4)) 38 (sv 3)) 37 (sv 2)) 36 (sv 1)) 35 (sv 0)); simp only [qT, pT, Act.put, sIA, sCS, sCZ]; simp [go_sem, quietTo, Ext.refl, ↓IntWalk.iteOmega, f2, f6, p3, q3, hsb]; (all_goals try simp (disch := omega) only [IntWalk.i64_in]); all_goals rfl
  refine fac_nil fun xb wrb herb hfrb hcrb holdb hapb => ?_
  obtain ⟨(f0 : xb 0 = _), (f1 : xb 1 = _), (f2 : xb 2 = _), f3, (f4 : xb 4 = _), f5, (f6 : xb 6 = _), (f7 : xb 7 = _), -⟩ := hfrb; (try dsimp only at f0 f1 f2 f4 f6 f7)
  obtain ⟨g3, f3, l3, b3⟩ := f3; replace f3 : xb 3 = _ := f3; obtain ⟨p3, q3⟩ := b3.walk; replace f5 : xb 5 = _ := f5 _ f3
  try dsimp only at f5
  change wpList _ _ _ _ (pT (pT (pT (pT (pT (pT (pT (pT _ 35 (xb 0)) 36 (xb 1)) 37 (xb 2)) 38 (xb 3)) 39 (xb 4)) 40 (xb 5)) 41 (xb 6)) 42 (xb 7)) _
  simp only [putsL, Nat.reduceAdd, List.drop_succ_cons, List.drop_zero, List.drop_nil, pT, Act.put, sIA, sCS, sCZ]
  try simp only [f0, f1, f2, f3, f4, f5, f6, f7]
  clear f0 f1 f2 f4 f6 f7; clear holdb hapb
  have hkb := hEa.trans ((Ext.refl wra).drew.trans herb)
  go_wp2
  go_ret
  exact ⟨rfl, (h.out.ext hkb).more (by omega), hA0.ext hkb⟩
 ·have hs : st = lostW := bytesB.1 (by rw [hil]; exact hsb)
  obtain ⟨hd2, hds, hdl⟩ := hgood.out hs
  obtain ⟨l, hl, hll, hid, hlt⟩ := hlast.out hs
  rw [hll] at hdl
  generalize lastI L (piece, copy) = i at *
  have hil := (List.getElem?_eq_some_iff.1 hl).1
  clear hll; replace hl := Lib.hid hl; replace hid := Lib.hid hid; replace hlt := Lib.hid hlt; clear hlast; replace hd2 := Lib.hid hd2; replace hds := Lib.hid hds; replace hdl := Lib.hid hdl; clear hs hgood hbad
  refine wp_region_facts [] [([],false,false),([],false,false),([0,1],false,false),([], false, true),([],false,false),([3,4],false,false),([3,4,5],false,false),([0,1,2,3,4,5,6],false,false)] (Ext) Ext (fun _ => True) (by kernel_rfl) (by kernel_rfl) Ext.refl (fun _ _ _ => Ext.trans) (fun _ _ h => h) (fun _ _ h => h.size) (fun _ _ h _ => h) trivial ?_
  dsimp only [List.length_cons, List.length_nil, List.drop_succ_cons, List.drop_zero, List.drop_nil]
  refine fq 0 rfl rfl rfl cK rfl rfl ?_; apply Exists.intro; constructor
  ·intro sv w' hw' hfa
   refine ⟨rfl, ?_⟩; simp only [putsL]; change qT _; simp only [qT, Act.put, sIA, sCS, sCZ]; simp [go_sem, quietTo, Ext.refl]; all_goals rfl
  refine fq 1 rfl rfl rfl cK rfl rfl ?_; apply Exists.intro; constructor
  ·intro sv w' hw' hfa
   have hk9 := (Ext.refl wra).drew.trans hw'; obtain ⟨hc, hf, hz9⟩ := hk9.walk; have z0 := (hc gk 0 lk).trans z0'; have z1 := (hc gk 1 lk).trans z1'
   refine ⟨rfl, ?_⟩; simp only [putsL]; change qT _; simp only [qT, Act.put, sIA, sCS, sCZ]; simp [go_sem, quietTo, Ext.refl, ↓IntWalk.iteOmega, z0, z1]; (all_goals try simp (disch := omega) only [IntWalk.i64_in]); all_goals rfl
  refine fq 2 rfl rfl rfl cK rfl rfl ?_; apply Exists.intro; constructor
  ·rintro sv w' hw' ⟨(f0 : sv 0 = _), (f1 : sv 1 = _), -⟩; (try dsimp only at f0 f1)
   have hk9 := (Ext.refl wra).drew.trans hw'; obtain ⟨hc, hf, hz9⟩ := hk9.walk; have z0 := (hc gk 0 lk).trans z0'; have z1 := (hc gk 1 lk).trans z1'
   refine ⟨rfl, ?_⟩; simp only [putsL]; change qT (pT (pT _ 36 (sv 1)) 35 (sv 0)); simp only [qT, pT, Act.put, sIA, sCS, sCZ]; simp [go_sem, quietTo, Ext.refl, ↓IntWalk.iteOmega, f0, f1]; (all_goals try simp (disch := omega) only [IntWalk.i64_in]); all_goals first | rfl | (exact hst.out _ (hEa.trans hk9))
  refine fac_row 3 rfl rfl rfl cK (fun _ _ h => h.size) (fun _ _ _ _ _ he _ hb => hb.ext he) ?_
  apply Exists.intro
  apply Exists.intro
  apply Exists.intro
  apply Exists.intro
  refine ⟨fun sv w' hw' hfa => ?_, ?_⟩
  ·refine ⟨rfl, ?_⟩; simp only [putsL]; change rowTo _ _ _ _ _ (Sem.run _ (execOp (Act.eval _) _) _); (try simp only [Act.put, sIA, sCS, sCZ]); simp [go_sem, rowTo, Ext.refl]; (all_goals try simp (disch := omega) only [IntWalk.i64_in]); all_goals first | rfl | exact ⟨rfl, rfl⟩ | exact ⟨⟨rfl, rfl⟩, rfl⟩
  refine fq 4 rfl rfl rfl cK rfl rfl ?_; apply Exists.intro; constructor
  ·intro sv w' hw' hfa
   refine ⟨rfl, ?_⟩; simp only [putsL]; change qT _; simp only [qT, Act.put, sIA, sCS, sCZ]; simp [go_sem, quietTo, Ext.refl]; all_goals rfl
  refine fac_via 5 rfl rfl 3 (fun g => .slice (some ⟨g, 0, none⟩) 4 4) (fun _ _ h => by simpa using h) (by decide) rfl cK ?_ ?_
  ·intro sv w' hfa
   obtain ⟨f3, (f4 : sv 4 = _), -⟩ := hfa; (try dsimp only at f4)
   obtain ⟨g3, f3, l3, b3⟩ := f3; replace f3 : sv 3 = _ := f3; obtain ⟨p3, q3⟩ := b3.walk
   exact ⟨_, f3⟩
  apply Exists.intro
  refine ⟨fun sv w' g hw' hfa hgi => ?_, ?_⟩
  ·obtain ⟨f3, (f4 : sv 4 = _), -⟩ := hfa; (try dsimp only at f4)
   obtain ⟨g3, f3, l3, b3⟩ := f3; replace f3 : sv 3 = _ := f3; obtain ⟨p3, q3⟩ := b3.walk
   have hgg := f3.symm.trans hgi
   simp only [Value.slice.injEq, Value.pointer.injEq, Option.some.injEq, Addr.mk.injEq, and_true] at hgg
   subst hgg
   have hk9 := (Ext.refl wra).drew.trans hw'; obtain ⟨hc, hf, hz9⟩ := hk9.walk; have z0 := (hc gk 0 lk).trans z0'; have z1 := (hc gk 1 lk).trans z1'
   refine ⟨rfl, ?_⟩; simp only [putsL]; change qT (pT (pT _ 39 (sv 4)) 38 (sv 3)); simp only [qT, pT, Act.put, sIA, sCS, sCZ]; simp [go_sem, quietTo, Ext.refl, ↓IntWalk.iteOmega, f3, f4, p3, q3]; (all_goals try simp (disch := omega) only [IntWalk.i64_in]); all_goals rfl
  refine fq 6 rfl rfl rfl cK rfl rfl ?_; apply Exists.intro; constructor
  ·rintro sv w' hw' ⟨f3, _, f5, -⟩
   obtain ⟨g3, f3, l3, b3⟩ := f3; replace f3 : sv 3 = _ := f3; obtain ⟨p3, q3⟩ := b3.walk; replace f5 : sv 5 = _ := f5 _ f3
   try dsimp only at f5
   refine ⟨rfl, ?_⟩; simp only [putsL]; change qT (pT (pT (pT _ 40 (sv 5)) 39 (sv 4)) 38 (sv 3)); simp only [qT, pT, Act.put, sIA, sCS, sCZ]; simp [go_sem, quietTo, Ext.refl, ↓IntWalk.iteOmega, f5, p3, q3]; (all_goals try simp (disch := omega) only [IntWalk.i64_in]); all_goals rfl
  refine fq 7 rfl rfl rfl cK rfl rfl ?_; apply Exists.intro; constructor
  ·rintro sv w' hw' ⟨_, _, (f2 : sv 2 = _), f3, _, _, (f6 : sv 6 = _), -⟩; (try dsimp only at f2 f6)
   obtain ⟨g3, f3, l3, b3⟩ := f3; replace f3 : sv 3 = _ := f3; obtain ⟨p3, q3⟩ := b3.walk
   have hk9 := (Ext.refl wra).drew.trans hw'; obtain ⟨hc, hf, hz9⟩ := hk9.walk; have z0 := (hc gk 0 lk).trans z0'; have z1 := (hc gk 1 lk).trans z1'
   refine ⟨rfl, ?_⟩; simp only [putsL]; change qT (pT (pT (pT (pT (pT (pT (pT _ 41 (sv 6)) 40 (sv 5)) 39 (sv 4)) 38 (sv 3)) 37 (sv 2)) 36 (sv 1)) 35 (sv 0)); simp only [qT, pT, Act.put, sIA, sCS, sCZ]; simp [go_sem, quietTo, Ext.refl, ↓IntWalk.iteOmega, f2, f6, p3, q3, hsb]; (all_goals try simp (disch := omega) only [IntWalk.i64_in]); all_goals rfl
  refine fac_nil fun xb wrb herb hfrb hcrb holdb hapb => ?_
  obtain ⟨(f0 : xb 0 = _), (f1 : xb 1 = _), (f2 : xb 2 = _), f3, (f4 : xb 4 = _), f5, (f6 : xb 6 = _), (f7 : xb 7 = _), -⟩ := hfrb; (try dsimp only at f0 f1 f2 f4 f6 f7)
  obtain ⟨g3, f3, l3, b3⟩ := f3; replace f3 : xb 3 = _ := f3; obtain ⟨p3, q3⟩ := b3.walk; replace f5 : xb 5 = _ := f5 _ f3
  try dsimp only at f5
  change wpList _ _ _ _ (pT (pT (pT (pT (pT (pT (pT (pT _ 35 (xb 0)) 36 (xb 1)) 37 (xb 2)) 38 (xb 3)) 39 (xb 4)) 40 (xb 5)) 41 (xb 6)) 42 (xb 7)) _
  simp only [putsL, Nat.reduceAdd, List.drop_succ_cons, List.drop_zero, List.drop_nil, pT, Act.put, sIA, sCS, sCZ]
  try simp only [f0, f1, f2, f3, f4, f5, f6, f7]
  clear f0 f1 f2 f4 f6 f7; clear holdb hapb
  have hkb := (Ext.refl wra).drew.trans herb
  have hEb := hEa.trans hkb
  have hxb := hxa.ext hkb
  have hkb1 := hka1.ext hkb
  obtain ⟨lv, hrow, hm⟩ := (h.out.ext hEb).parts
  obtain ⟨g, cap, rfl, hg0, hgl⟩ := hrow.2.form (by omega)
  have hAb := hA0.ext hEb
  have hbs : base ≤ wrb.heap.size := by have := hEb.size; have := hgx.out; omega
  clear herb hcrb hEa hxa hka1 hst h e3 lx z0' z1' lk hsb hA0 hkb hEb
  go_upto_region 10 with fail
  have lb := hrow.1.lt
  have lk := hkb1.lt
  have c5 := hrow.1.cell 5
  have k0 := hkb1.cell 0
  have k1 := hkb1.cell 1
  unfold shC at c5
  refine wp_region_facts [] [([],false,false),([0],false,false),([0,1],false,false),([0,1,2],false,false),([],false,false),([], false, true),([],false,false),([5,6],false,false),([5,6,7],false,false)] (Ext) Ext (fun _ => True) (by kernel_rfl) (by kernel_rfl) Ext.refl (fun _ _ _ => Ext.trans) (fun _ _ h => h) (fun _ _ h => h.size) (fun _ _ h _ => h) trivial ?_
  dsimp only [List.length_cons, List.length_nil, List.drop_succ_cons, List.drop_zero, List.drop_nil]
  refine fq 0 rfl rfl rfl cK rfl rfl ?_; apply Exists.intro; constructor
  ·intro sv w' hw' hfa
   refine ⟨rfl, ?_⟩; simp only [putsL]; change qT _; simp only [qT, Act.put, sIA, sCS, sCZ]; simp [go_sem, quietTo, Ext.refl]; all_goals rfl
  refine fq 1 rfl rfl rfl cK rfl rfl ?_; apply Exists.intro; constructor
  ·rintro sv w' hw' ⟨(f0 : sv 0 = _), -⟩; (try dsimp only at f0)
   refine ⟨rfl, ?_⟩; simp only [putsL]; change qT (pT _ 43 (sv 0)); simp only [qT, pT, Act.put, sIA, sCS, sCZ]; simp [go_sem, quietTo, Ext.refl, f0]; all_goals rfl
  refine fq 2 rfl rfl rfl cK rfl rfl ?_; apply Exists.intro; constructor
  ·rintro sv w' hw' ⟨_, (f1 : sv 1 = _), -⟩; (try dsimp only at f1)
   refine ⟨rfl, ?_⟩; simp only [putsL]; change qT (pT (pT _ 44 (sv 1)) 43 (sv 0)); simp only [qT, pT, Act.put, sIA, sCS, sCZ]; simp [go_sem, quietTo, Ext.refl, f1]; all_goals rfl
  refine fq 3 rfl rfl rfl cK rfl rfl ?_; apply Exists.intro; constructor
  ·rintro sv w' hw' ⟨_, _, (f2 : sv 2 = _), -⟩; (try dsimp only at f2)
   have hk9 := (Ext.refl wrb).drew.trans hw'; obtain ⟨hc, hf, hz9⟩ := hk9.walk; have y5 := (hc bb 5 lb).trans c5
   refine ⟨rfl, ?_⟩; simp only [putsL]; change qT (pT (pT (pT _ 45 (sv 2)) 44 (sv 1)) 43 (sv 0)); simp only [qT, pT, Act.put, sIA, sCS, sCZ]; simp [go_sem, quietTo, Ext.refl, ↓IntWalk.iteOmega, f2, y5]; (all_goals try simp (disch := omega) only [IntWalk.i64_in]); all_goals rfl
  refine fq 4 rfl rfl rfl cK rfl rfl ?_; apply Exists.intro; constructor
  ·intro sv w' hw' hfa
   have hk9 := (Ext.refl wrb).drew.trans hw'; obtain ⟨hc, hf, hz9⟩ := hk9.walk; have z0 := (hc gk 0 lk).trans k0; have z1 := (hc gk 1 lk).trans k1
   refine ⟨rfl, ?_⟩; simp only [putsL]; change qT _; simp only [qT, Act.put, sIA, sCS, sCZ]; simp [go_sem, quietTo, Ext.refl, ↓IntWalk.iteOmega, z0, z1]; (all_goals try simp (disch := omega) only [IntWalk.i64_in]); all_goals rfl
  refine fac_row 5 rfl rfl rfl cK (fun _ _ h => h.size) (fun _ _ _ _ _ he _ hb => hb.ext he) ?_
  apply Exists.intro
  apply Exists.intro
  apply Exists.intro
  apply Exists.intro
  refine ⟨fun sv w' hw' hfa => ?_, ?_⟩
  ·refine ⟨rfl, ?_⟩; simp only [putsL]; change rowTo _ _ _ _ _ (Sem.run _ (execOp (Act.eval _) _) _); (try simp only [Act.put, sIA, sCS, sCZ]); simp [go_sem, rowTo, Ext.refl]; (all_goals try simp (disch := omega) only [IntWalk.i64_in]); all_goals first | rfl | exact ⟨rfl, rfl⟩ | exact ⟨⟨rfl, rfl⟩, rfl⟩
  refine fq 6 rfl rfl rfl cK rfl rfl ?_; apply Exists.intro; constructor
  ·intro sv w' hw' hfa
   refine ⟨rfl, ?_⟩; simp only [putsL]; change qT _; simp only [qT, Act.put, sIA, sCS, sCZ]; simp [go_sem, quietTo, Ext.refl]; all_goals rfl
  refine fac_via 7 rfl rfl 5 (fun g => .slice (some ⟨g, 0, none⟩) 4 4) (fun _ _ h => by simpa using h) (by decide) rfl cK ?_ ?_
  ·intro sv w' hfa
   obtain ⟨f5, (f6 : sv 6 = _), -⟩ := hfa; (try dsimp only at f6)
   obtain ⟨g5, f5, l5, b5⟩ := f5; replace f5 : sv 5 = _ := f5; obtain ⟨p5, q5⟩ := b5.walk
   exact ⟨_, f5⟩
  apply Exists.intro
  refine ⟨fun sv w' g hw' hfa hgi => ?_, ?_⟩
  ·obtain ⟨f5, (f6 : sv 6 = _), -⟩ := hfa; (try dsimp only at f6)
   obtain ⟨g5, f5, l5, b5⟩ := f5; replace f5 : sv 5 = _ := f5; obtain ⟨p5, q5⟩ := b5.walk
   have hgg := f5.symm.trans hgi
   simp only [Value.slice.injEq, Value.pointer.injEq, Option.some.injEq, Addr.mk.injEq, and_true] at hgg
   subst hgg
   refine ⟨rfl, ?_⟩; simp only [putsL]; change qT (pT (pT _ 49 (sv 6)) 48 (sv 5)); simp only [qT, pT, Act.put, sIA, sCS, sCZ]; simp [go_sem, quietTo, Ext.refl, ↓IntWalk.iteOmega, f5, f6, p5, q5]; (all_goals try simp (disch := omega) only [IntWalk.i64_in]); all_goals rfl
  refine fq 8 rfl rfl rfl cK rfl rfl ?_; apply Exists.intro; constructor
  ·rintro sv w' hw' ⟨f5, _, f7, -⟩
   obtain ⟨g5, f5, l5, b5⟩ := f5; replace f5 : sv 5 = _ := f5; obtain ⟨p5, q5⟩ := b5.walk; replace f7 : sv 7 = _ := f7 _ f5
   try dsimp only at f7
   refine ⟨rfl, ?_⟩; simp only [putsL]; change qT (pT (pT (pT _ 50 (sv 7)) 49 (sv 6)) 48 (sv 5)); simp only [qT, pT, Act.put, sIA, sCS, sCZ]; simp [go_sem, quietTo, Ext.refl, ↓IntWalk.iteOmega, f7, p5, q5]; (all_goals try simp (disch := omega) only [IntWalk.i64_in]); all_goals rfl
  refine fac_nil fun xc wrc herc hfrc hcrc holdc hapc => ?_
  obtain ⟨(f0 : xc 0 = _), (f1 : xc 1 = _), (f2 : xc 2 = _), (f3 : xc 3 = _), (f4 : xc 4 = _), f5, (f6 : xc 6 = _), f7, (f8 : xc 8 = _), -⟩ := hfrc; (try dsimp only at f0 f1 f2 f3 f4 f6 f8)
  obtain ⟨g5, f5, l5, b5⟩ := f5; replace f5 : xc 5 = _ := f5; obtain ⟨p5, q5⟩ := b5.walk; replace f7 : xc 7 = _ := f7 _ f5
  try dsimp only at f7
  change wpList _ _ _ _ (pT (pT (pT (pT (pT (pT (pT (pT (pT _ 43 (xc 0)) 44 (xc 1)) 45 (xc 2)) 46 (xc 3)) 47 (xc 4)) 48 (xc 5)) 49 (xc 6)) 50 (xc 7)) 51 (xc 8)) _
  simp only [putsL, Nat.reduceAdd, List.drop_succ_cons, List.drop_zero, List.drop_nil, pT, Act.put, sIA, sCS, sCZ]
  try simp only [f0, f1, f2, f3, f4, f5, f6, f7, f8]
  clear f0 f1 f2 f3 f4 f6 f8; clear holdc hapc
  have hkc := (Ext.refl wrb).drew.trans herc
  obtain ⟨w6, hr6, hm6, hg6⟩ := (hm.ext hkc).put (k := (piece, copy)) hok (by omega) inW
  unfold snV inW at hr6
  have hrow6 := (hrow.ext hkc).turned hg6 (hm.ext hkc).st.isMap
  have hx6 : Blk w6 gx 101 #[.string by_, .int .i64 no, .int .i64 at_, .int .i64 4, .string piece, .int .i64 copy, .string singer] := (hg6.block gx (hxb.ext hkc).lt fun e => by cases e; exact blk_mapK_ne (hm.ext hkc).st (hxb.ext hkc) rfl).trans (hxb.ext hkc)
  have hk6 : Blk w6 gk 146 #[.string piece, .int .i64 copy] := (hg6.block gk (hkb1.ext hkc).lt fun e => by cases e; exact blk_mapK_ne (hm.ext hkc).st (hkb1.ext hkc) rfl).trans (hkb1.ext hkc)
  have hA6 : KeepL base bb ms mr mr w w6 := (hAb.ext hkc).grown hg6 (.inr (.inl rfl))
  replace hr6 := Lib.hid hr6; replace hm6 := Lib.hid hm6; replace hA6 := Lib.hid hA6; clear hrow hm hxb hkb1 hAb hg6 lb lk c5 k0 k1 herc hkc
  have lx := hx6.lt
  have e3 := hx6.cell 3
  have lk := hk6.lt
  have k0 := hk6.cell 0
  have k1 := hk6.cell 1
  have e2 := hx6.cell 2
  have hla : ∀ u, Ext w6 u → Calls Tryz.prog 176 #[.pointer (some ⟨bb, 0, none⟩), .agg #[.string piece, .int .i64 copy]] u fun e W' => e = .returned (.pointer (some ⟨g, i * 6, none⟩)) ∧ Ext u W' := fun u hu => last_any (q := 0) (nr := 0) (F := fun _ => none) (hrow6.ext hu).1 (hrow6.ext hu).2 hln (piece, copy) i l hl.out hid.out hlt.out
  replace hla := Lib.hid hla; replace hrow6 := Lib.hid hrow6
  go_upto_region 17 with (refine wpList_putM rfl _ _ _ 140 rfl (.map (some ms)) (.agg #[.string piece, .int .i64 copy]) (.string ⟨#[105,110]⟩) rfl rfl rfl w6 hr6.out ?_)
  clear hr6
  go_wp2_with (go_at_call 176; (with_reducible refine Calls.mono (hla.out _ (Ext.refl _)) ?_); rintro e w9 ⟨rfl, hb9⟩; have hrowd := hrow6.out.ext hb9; have c5 : w9.cell? ⟨g, i * 6 + 5, none⟩ = some (.bool l.lost) := own_cell loanC_len hrowd.2 hl.out 5 rfl hil; have zf : ∀ o, w9.frozen? ⟨g, o, none⟩ = false := fun o => hrowd.2.frozenAt o; have hgla : g < w9.heap.size := (hrowd.2.lt g rfl).2; replace hrowd := Lib.hid hrowd)
  have hbg : bb ≠ g := fun e => own_no hrowd.out.2 hrowd.out.1 (by decide) (by rw [e]; rfl)
  have hmd := hm6.out.ext hb9
  have hAd := hA6.out.ext hb9
  have own7 := own_set1 loanC_len hrowd.out.2 ⟨l.piece, l.no, l.singer, l.since, l.till, false⟩ hl.out 5 (by decide) (.bool false) rfl
  have hB7 := hrowd.out.1.far (p := ⟨g, i * 6 + 5, none⟩) hbg (.bool false)
  have hm7 := hmd.kept (grown_set w9 ⟨g, i * 6 + 5, none⟩ (.bool false)) (NoMap.own hrowd.out.2)
  have hA7 := hAd.app hrowd.out.2 (grown_set w9 ⟨g, i * 6 + 5, none⟩ (.bool false))
  have hXl : (L.loans.set i ⟨l.piece, l.no, l.singer, l.since, l.till, false⟩).length = L.loans.length := List.length_set
  go_ret
  exact ⟨by rw [hd2.out]; rfl, DRow.lib (L := D.1) (lv := .slice (some ⟨g, 0, none⟩) L.loans.length cap) (by rw [hdl.out]; exact ⟨hB7, by rw [hXl]; exact own7⟩) (by rw [hds.out]; exact hm7), hA7⟩
set_option maxRecDepth 100000 in
set_option maxHeartbeats 6400000 in
theorem do5_any {base : Nat} {w : World} {bb ms mr q nr n : Nat} {tp : Option Addr} {tn tc : Nat} {T : List TitleV} {r : LendR} {t : Int} {L : LibS} {F : Int → Option Int} (h : ShM base w bb ms mr q nr tp tn tc r L F) (hT : Slc 3 titleC w tp tn tc T) (htn : tn ≤ 1000) (hI : LibI r.each t L) (hLL : LibL L) (hN : LibN n L) (hln : L.loans.length ≤ 1000) (by_ : ByteArray) (no at_ : Int) (piece : ByteArray) (copy : Int) (singer : ByteArray) (hok : okSN (piece, copy)) (hc : isCopyT T (piece, copy) = true) (hq : q ≤ 1000000) (hbase : base ≤ w.heap.size) :
 Calls Tryz.prog 137 #[.pointer (some ⟨bb, 0, none⟩), .agg #[.string by_, .int .i64 no, .int .i64 at_, .int .i64 5, .string piece, .int .i64 copy, .string singer]] w fun e w' => e = .returned (.int .i64 (slipD T r L ⟨by_, no, at_, 5, piece, copy, singer⟩).2) ∧ ShM base w' bb ms mr (q + 1) nr tp tn tc r (slipD T r L ⟨by_, no, at_, 5, piece, copy, singer⟩).1 F ∧ KeepL base bb ms mr mr w w' := by
 obtain ⟨D, hD⟩ : ∃ D, D = slipD T r L ⟨by_, no, at_, 5, piece, copy, singer⟩ := ⟨_, rfl⟩
 rw [← hD]
 have hbad : L.at_ (piece, copy) ≠ inW → D = (L, 11) := fun hs => by
  rw [hD]
  exact (other_same (T := T) (r := r) (L := L) (x := ⟨by_, no, at_, 5, piece, copy, singer⟩) hc (by show (2 : Int) ≤ 5 ∧ (5 : Int) ≤ 5; decide)).1 hs
 have hgood : L.at_ (piece, copy) = inW → D.2 = 0 ∧ D.1.st = setF L.st (piece, copy) goneW ∧ D.1.loans = L.loans := fun hs => by
  rw [hD]
  exact other_doc (T := T) (r := r) (x := ⟨by_, no, at_, 5, piece, copy, singer⟩) hI hLL hc (by show (2 : Int) ≤ 5 ∧ (5 : Int) ≤ 5; decide) hs
 have hE1 : Ext w ((w.alloc (.cells #[.string by_, .int .i64 no, .int .i64 at_, .int .i64 5, .string piece, .int .i64 copy, .string singer] 101)).alloc (.cells #[.string piece, .int .i64 copy] 146)) := ((Ext.refl w).alloc _).alloc _
 have hx1 : Blk ((w.alloc (.cells #[.string by_, .int .i64 no, .int .i64 at_, .int .i64 5, .string piece, .int .i64 copy, .string singer] 101)).alloc (.cells #[.string piece, .int .i64 copy] 146)) w.heap.size 101 #[.string by_, .int .i64 no, .int .i64 at_, .int .i64 5, .string piece, .int .i64 copy, .string singer] := (Blk.new' rfl).alloc _
 have hk1 : Blk ((w.alloc (.cells #[.string by_, .int .i64 no, .int .i64 at_, .int .i64 5, .string piece, .int .i64 copy, .string singer] 101)).alloc (.cells #[.string piece, .int .i64 copy] 146)) (w.heap.size + 1) 146 #[.string piece, .int .i64 copy] := Blk.new' (by simp)
 have hcf : ∀ u, Ext ((w.alloc (.cells #[.string by_, .int .i64 no, .int .i64 at_, .int .i64 5, .string piece, .int .i64 copy, .string singer] 101)).alloc (.cells #[.string piece, .int .i64 copy] 146)) u → Calls Tryz.prog 18 #[.slice tp tn tc, .string piece, .int .i64 copy] u fun e w' => e = .returned (.int .i64 0) ∧ Ext u w' := fun u hu => by
  have h9 := copyFault1_any tp tn tc T piece copy u (hT.ext (hE1.trans hu)) htn
  rw [show copyF T (piece, copy) = 0 by unfold copyF; rw [if_pos hc]] at h9
  exact h9
 have hst := fun u (hu : Ext w u) => shState_any (h.ext hu) piece copy hok
 have hA0 := KeepL.refl (base := base) (bb := bb) (ms := ms) (ml := mr) (mh := mr) w
 replace hcf := Lib.hid hcf; replace hst := Lib.hid hst; replace hbad := Lib.hid hbad; replace hgood := Lib.hid hgood; replace h := Lib.hid h; clear hT hI hLL hN hD hc
 go_enter Tryz.func137, Tryz.ntmps137
 go_upto_region 2 with fail
 generalize ((w.alloc (.cells #[.string by_, .int .i64 no, .int .i64 at_, .int .i64 5, .string piece, .int .i64 copy, .string singer] 101)).alloc (.cells #[.string piece, .int .i64 copy] 146)) = W1 at *
 generalize hgx : w.heap.size = gx at *
 generalize hgk : gx + 1 = gk at *
 have d0 : W1.cell? ⟨bb, 0, none⟩ = some (.slice tp tn tc) := by
  obtain ⟨⟨lv, hB, -⟩, -⟩ := h.out.ext hE1
  exact hB.cell 0
 have lb : bb < W1.heap.size := by
  obtain ⟨⟨lv, hB, -⟩, -⟩ := h.out.ext hE1
  exact hB.lt
 have lx := hx1.lt
 have lk := hk1.lt
 have e4 := hx1.cell 4
 have e5 := hx1.cell 5
 replace hgx := Lib.hid hgx; replace hgk := Lib.hid hgk
 refine wp_region_facts [] [([],false,false),([0],false,false),([0,1],false,false),([0,1,2],false,false),([],false,false),([4],false,false),([],false,false),([6],false,false),([0,1,2,3,4,5,6,7],false,false)] (Ext) Ext (fun _ => True) (by kernel_rfl) (by kernel_rfl) Ext.refl (fun _ _ _ => Ext.trans) (fun _ _ h => h) (fun _ _ h => h.size) (fun _ _ h _ => h) trivial ?_
 dsimp only [List.length_cons, List.length_nil, List.drop_succ_cons, List.drop_zero, List.drop_nil]
 refine fq 0 rfl rfl rfl cK rfl rfl ?_; apply Exists.intro; constructor
 ·intro sv w' hw' hfa
  refine ⟨rfl, ?_⟩; simp only [putsL]; change qT _; simp only [qT, Act.put, sIA, sCS, sCZ]; simp [go_sem, quietTo, Ext.refl]; all_goals rfl
 refine fq 1 rfl rfl rfl cK rfl rfl ?_; apply Exists.intro; constructor
 ·rintro sv w' hw' ⟨(f0 : sv 0 = _), -⟩; (try dsimp only at f0)
  refine ⟨rfl, ?_⟩; simp only [putsL]; change qT (pT _ 13 (sv 0)); simp only [qT, pT, Act.put, sIA, sCS, sCZ]; simp [go_sem, quietTo, Ext.refl, f0]; all_goals rfl
 refine fq 2 rfl rfl rfl cK rfl rfl ?_; apply Exists.intro; constructor
 ·rintro sv w' hw' ⟨_, (f1 : sv 1 = _), -⟩; (try dsimp only at f1)
  refine ⟨rfl, ?_⟩; simp only [putsL]; change qT (pT (pT _ 14 (sv 1)) 13 (sv 0)); simp only [qT, pT, Act.put, sIA, sCS, sCZ]; simp [go_sem, quietTo, Ext.refl, f1]; all_goals rfl
 refine fq 3 rfl rfl rfl cK rfl rfl ?_; apply Exists.intro; constructor
 ·rintro sv w' hw' ⟨_, _, (f2 : sv 2 = _), -⟩; (try dsimp only at f2)
  have hk9 := (Ext.refl W1).drew.trans hw'; obtain ⟨hc, hf, hz9⟩ := hk9.walk; have y0 := (hc bb 0 lb).trans d0
  refine ⟨rfl, ?_⟩; simp only [putsL]; change qT (pT (pT (pT _ 15 (sv 2)) 14 (sv 1)) 13 (sv 0)); simp only [qT, pT, Act.put, sIA, sCS, sCZ]; simp [go_sem, quietTo, Ext.refl, ↓IntWalk.iteOmega, f2, y0]; (all_goals try simp (disch := omega) only [IntWalk.i64_in]); all_goals rfl
 refine fq 4 rfl rfl rfl cK rfl rfl ?_; apply Exists.intro; constructor
 ·intro sv w' hw' hfa
  refine ⟨rfl, ?_⟩; simp only [putsL]; change qT _; simp only [qT, Act.put, sIA, sCS, sCZ]; simp [go_sem, quietTo, Ext.refl]; all_goals rfl
 refine fq 5 rfl rfl rfl cK rfl rfl ?_; apply Exists.intro; constructor
 ·rintro sv w' hw' ⟨(f4 : sv 4 = _), -⟩; (try dsimp only at f4)
  have hk9 := (Ext.refl W1).drew.trans hw'; obtain ⟨hc, hf, hz9⟩ := hk9.walk; have x4 := (hc gx 4 lx).trans e4
  refine ⟨rfl, ?_⟩; simp only [putsL]; change qT (pT _ 17 (sv 4)); simp only [qT, pT, Act.put, sIA, sCS, sCZ]; simp [go_sem, quietTo, Ext.refl, ↓IntWalk.iteOmega, f4, x4]; (all_goals try simp (disch := omega) only [IntWalk.i64_in]); all_goals rfl
 refine fq 6 rfl rfl rfl cK rfl rfl ?_; apply Exists.intro; constructor
 ·intro sv w' hw' hfa
  refine ⟨rfl, ?_⟩; simp only [putsL]; change qT _; simp only [qT, Act.put, sIA, sCS, sCZ]; simp [go_sem, quietTo, Ext.refl]; all_goals rfl
 refine fq 7 rfl rfl rfl cK rfl rfl ?_; apply Exists.intro; constructor
 ·rintro sv w' hw' ⟨(f6 : sv 6 = _), -⟩; (try dsimp only at f6)
  have hk9 := (Ext.refl W1).drew.trans hw'; obtain ⟨hc, hf, hz9⟩ := hk9.walk; have x5 := (hc gx 5 lx).trans e5
  refine ⟨rfl, ?_⟩; simp only [putsL]; change qT (pT _ 19 (sv 6)); simp only [qT, pT, Act.put, sIA, sCS, sCZ]; simp [go_sem, quietTo, Ext.refl, ↓IntWalk.iteOmega, f6, x5]; (all_goals try simp (disch := omega) only [IntWalk.i64_in]); all_goals rfl
 refine fq 8 rfl rfl rfl cK rfl rfl ?_; apply Exists.intro; constructor
 ·rintro sv w' hw' ⟨(f0 : sv 0 = _), (f1 : sv 1 = _), (f2 : sv 2 = _), (f3 : sv 3 = _), (f4 : sv 4 = _), (f5 : sv 5 = _), (f6 : sv 6 = _), (f7 : sv 7 = _), -⟩; (try dsimp only at f0 f1 f2 f3 f4 f5 f6 f7)
  have hk9 := (Ext.refl W1).drew.trans hw'
  refine ⟨rfl, ?_⟩; simp only [putsL]; change qT (pT (pT (pT (pT (pT (pT (pT (pT _ 20 (sv 7)) 19 (sv 6)) 18 (sv 5)) 17 (sv 4)) 16 (sv 3)) 15 (sv 2)) 14 (sv 1)) 13 (sv 0)); simp only [qT, pT, Act.put, sIA, sCS, sCZ]; simp [go_sem, quietTo, Ext.refl, ↓IntWalk.iteOmega, f3, f5, f7]; (all_goals try simp (disch := omega) only [IntWalk.i64_in]); all_goals first | rfl | (exact hcf.out _ hk9)
 refine fac_nil fun xa wra hera hfra hcra holda hapa => ?_
 obtain ⟨(f0 : xa 0 = _), (f1 : xa 1 = _), (f2 : xa 2 = _), (f3 : xa 3 = _), (f4 : xa 4 = _), (f5 : xa 5 = _), (f6 : xa 6 = _), (f7 : xa 7 = _), (f8 : xa 8 = _), -⟩ := hfra; (try dsimp only at f0 f1 f2 f3 f4 f5 f6 f7 f8)
 change wpList _ _ _ _ (pT (pT (pT (pT (pT (pT (pT (pT (pT _ 13 (xa 0)) 14 (xa 1)) 15 (xa 2)) 16 (xa 3)) 17 (xa 4)) 18 (xa 5)) 19 (xa 6)) 20 (xa 7)) 21 (xa 8)) _
 simp only [putsL, Nat.reduceAdd, List.drop_succ_cons, List.drop_zero, List.drop_nil, pT, Act.put, sIA, sCS, sCZ]
 try simp only [f0, f1, f2, f3, f4, f5, f6, f7, f8]
 clear f0 f1 f2 f3 f4 f5 f6 f7 f8; clear holda hapa
 have hka := (Ext.refl W1).drew.trans hera
 have hEa := hE1.trans hka
 have hxa := hx1.ext hka
 have hka1 := hk1.ext hka
 clear hera hcra hcf hx1 hk1 hE1 d0 lb lx lk e4 e5 hka
 have e3 := hxa.cell 3
 have lx := hxa.lt
 go_upto_region 8 with fail
 have z0' := hka1.cell 0
 have z1' := hka1.cell 1
 have lk := hka1.lt
 generalize hat : L.at_ (piece, copy) = st at *
 replace hat := Lib.hid hat
 have hil : inW.toList = [105,110] := by rw [Lib.toList_data]; rfl
 cases hsb : (st.toList == [105,110])
 ·have hde := hbad.out (fun e => by rw [e, hil] at hsb; exact absurd hsb (by decide))
  subst hde
  clear hgood hbad
  refine wp_region_facts [] [([],false,false),([],false,false),([0,1],false,false),([], false, true),([],false,false),([3,4],false,false),([3,4,5],false,false),([0,1,2,3,4,5,6],false,false)] (Ext) Ext (fun _ => True) (by kernel_rfl) (by kernel_rfl) Ext.refl (fun _ _ _ => Ext.trans) (fun _ _ h => h) (fun _ _ h => h.size) (fun _ _ h _ => h) trivial ?_
  dsimp only [List.length_cons, List.length_nil, List.drop_succ_cons, List.drop_zero, List.drop_nil]
  refine fq 0 rfl rfl rfl cK rfl rfl ?_; apply Exists.intro; constructor
  ·intro sv w' hw' hfa
   refine ⟨rfl, ?_⟩; simp only [putsL]; change qT _; simp only [qT, Act.put, sIA, sCS, sCZ]; simp [go_sem, quietTo, Ext.refl]; all_goals rfl
  refine fq 1 rfl rfl rfl cK rfl rfl ?_; apply Exists.intro; constructor
  ·intro sv w' hw' hfa
   have hk9 := (Ext.refl wra).drew.trans hw'; obtain ⟨hc, hf, hz9⟩ := hk9.walk; have z0 := (hc gk 0 lk).trans z0'; have z1 := (hc gk 1 lk).trans z1'
   refine ⟨rfl, ?_⟩; simp only [putsL]; change qT _; simp only [qT, Act.put, sIA, sCS, sCZ]; simp [go_sem, quietTo, Ext.refl, ↓IntWalk.iteOmega, z0, z1]; (all_goals try simp (disch := omega) only [IntWalk.i64_in]); all_goals rfl
  refine fq 2 rfl rfl rfl cK rfl rfl ?_; apply Exists.intro; constructor
  ·rintro sv w' hw' ⟨(f0 : sv 0 = _), (f1 : sv 1 = _), -⟩; (try dsimp only at f0 f1)
   have hk9 := (Ext.refl wra).drew.trans hw'; obtain ⟨hc, hf, hz9⟩ := hk9.walk; have z0 := (hc gk 0 lk).trans z0'; have z1 := (hc gk 1 lk).trans z1'
   refine ⟨rfl, ?_⟩; simp only [putsL]; change qT (pT (pT _ 36 (sv 1)) 35 (sv 0)); simp only [qT, pT, Act.put, sIA, sCS, sCZ]; simp [go_sem, quietTo, Ext.refl, ↓IntWalk.iteOmega, f0, f1]; (all_goals try simp (disch := omega) only [IntWalk.i64_in]); all_goals first | rfl | (exact hst.out _ (hEa.trans hk9))
  refine fac_row 3 rfl rfl rfl cK (fun _ _ h => h.size) (fun _ _ _ _ _ he _ hb => hb.ext he) ?_
  apply Exists.intro
  apply Exists.intro
  apply Exists.intro
  apply Exists.intro
  refine ⟨fun sv w' hw' hfa => ?_, ?_⟩
  ·refine ⟨rfl, ?_⟩; simp only [putsL]; change rowTo _ _ _ _ _ (Sem.run _ (execOp (Act.eval _) _) _); (try simp only [Act.put, sIA, sCS, sCZ]); simp [go_sem, rowTo, Ext.refl]; (all_goals try simp (disch := omega) only [IntWalk.i64_in]); all_goals first | rfl | exact ⟨rfl, rfl⟩ | exact ⟨⟨rfl, rfl⟩, rfl⟩
  refine fq 4 rfl rfl rfl cK rfl rfl ?_; apply Exists.intro; constructor
  ·intro sv w' hw' hfa
   refine ⟨rfl, ?_⟩; simp only [putsL]; change qT _; simp only [qT, Act.put, sIA, sCS, sCZ]; simp [go_sem, quietTo, Ext.refl]; all_goals rfl
  refine fac_via 5 rfl rfl 3 (fun g => .slice (some ⟨g, 0, none⟩) 4 4) (fun _ _ h => by simpa using h) (by decide) rfl cK ?_ ?_
  ·intro sv w' hfa
   obtain ⟨f3, (f4 : sv 4 = _), -⟩ := hfa; (try dsimp only at f4)
   obtain ⟨g3, f3, l3, b3⟩ := f3; replace f3 : sv 3 = _ := f3; obtain ⟨p3, q3⟩ := b3.walk
   exact ⟨_, f3⟩
  apply Exists.intro
  refine ⟨fun sv w' g hw' hfa hgi => ?_, ?_⟩
  ·obtain ⟨f3, (f4 : sv 4 = _), -⟩ := hfa; (try dsimp only at f4)
   obtain ⟨g3, f3, l3, b3⟩ := f3; replace f3 : sv 3 = _ := f3; obtain ⟨p3, q3⟩ := b3.walk
   have hgg := f3.symm.trans hgi
   simp only [Value.slice.injEq, Value.pointer.injEq, Option.some.injEq, Addr.mk.injEq, and_true] at hgg
   subst hgg
   have hk9 := (Ext.refl wra).drew.trans hw'; obtain ⟨hc, hf, hz9⟩ := hk9.walk; have z0 := (hc gk 0 lk).trans z0'; have z1 := (hc gk 1 lk).trans z1'
   refine ⟨rfl, ?_⟩; simp only [putsL]; change qT (pT (pT _ 39 (sv 4)) 38 (sv 3)); simp only [qT, pT, Act.put, sIA, sCS, sCZ]; simp [go_sem, quietTo, Ext.refl, ↓IntWalk.iteOmega, f3, f4, p3, q3]; (all_goals try simp (disch := omega) only [IntWalk.i64_in]); all_goals rfl
  refine fq 6 rfl rfl rfl cK rfl rfl ?_; apply Exists.intro; constructor
  ·rintro sv w' hw' ⟨f3, _, f5, -⟩
   obtain ⟨g3, f3, l3, b3⟩ := f3; replace f3 : sv 3 = _ := f3; obtain ⟨p3, q3⟩ := b3.walk; replace f5 : sv 5 = _ := f5 _ f3
   try dsimp only at f5
   refine ⟨rfl, ?_⟩; simp only [putsL]; change qT (pT (pT (pT _ 40 (sv 5)) 39 (sv 4)) 38 (sv 3)); simp only [qT, pT, Act.put, sIA, sCS, sCZ]; simp [go_sem, quietTo, Ext.refl, ↓IntWalk.iteOmega, f5, p3, q3]; (all_goals try simp (disch := omega) only [IntWalk.i64_in]); all_goals rfl
  refine fq 7 rfl rfl rfl cK rfl rfl ?_; apply Exists.intro; constructor
  ·rintro sv w' hw' ⟨_, _, (f2 : sv 2 = _), f3, _, _, (f6 : sv 6 = _), -⟩; (try dsimp only at f2 f6)
   obtain ⟨g3, f3, l3, b3⟩ := f3; replace f3 : sv 3 = _ := f3; obtain ⟨p3, q3⟩ := b3.walk
   have hk9 := (Ext.refl wra).drew.trans hw'; obtain ⟨hc, hf, hz9⟩ := hk9.walk; have z0 := (hc gk 0 lk).trans z0'; have z1 := (hc gk 1 lk).trans z1'
   refine ⟨rfl, ?_⟩; simp only [putsL]; change qT (pT (pT (pT (pT (pT (pT (pT _ 41 (sv 6)) 40 (sv 5)) 39 (sv 4)) 38 (sv 3)) 37 (sv 2)) 36 (sv 1)) 35 (sv 0)); simp only [qT, pT, Act.put, sIA, sCS, sCZ]; simp [go_sem, quietTo, Ext.refl, ↓IntWalk.iteOmega, f2, f6, p3, q3, hsb]; (all_goals try simp (disch := omega) only [IntWalk.i64_in]); all_goals rfl
  refine fac_nil fun xb wrb herb hfrb hcrb holdb hapb => ?_
  obtain ⟨(f0 : xb 0 = _), (f1 : xb 1 = _), (f2 : xb 2 = _), f3, (f4 : xb 4 = _), f5, (f6 : xb 6 = _), (f7 : xb 7 = _), -⟩ := hfrb; (try dsimp only at f0 f1 f2 f4 f6 f7)
  obtain ⟨g3, f3, l3, b3⟩ := f3; replace f3 : xb 3 = _ := f3; obtain ⟨p3, q3⟩ := b3.walk; replace f5 : xb 5 = _ := f5 _ f3
  try dsimp only at f5
  change wpList _ _ _ _ (pT (pT (pT (pT (pT (pT (pT (pT _ 35 (xb 0)) 36 (xb 1)) 37 (xb 2)) 38 (xb 3)) 39 (xb 4)) 40 (xb 5)) 41 (xb 6)) 42 (xb 7)) _
  simp only [putsL, Nat.reduceAdd, List.drop_succ_cons, List.drop_zero, List.drop_nil, pT, Act.put, sIA, sCS, sCZ]
  try simp only [f0, f1, f2, f3, f4, f5, f6, f7]
  clear f0 f1 f2 f4 f6 f7; clear holdb hapb
  have hkb := hEa.trans ((Ext.refl wra).drew.trans herb)
  go_wp2
  go_ret
  exact ⟨rfl, (h.out.ext hkb).more (by omega), hA0.ext hkb⟩
 ·have hs : st = inW := bytesB.1 (by rw [hil]; exact hsb)
  obtain ⟨hd2, hds, hdl⟩ := hgood.out hs
  replace hd2 := Lib.hid hd2; replace hds := Lib.hid hds; replace hdl := Lib.hid hdl; clear hs hgood hbad
  refine wp_region_facts [] [([],false,false),([],false,false),([0,1],false,false),([], false, true),([],false,false),([3,4],false,false),([3,4,5],false,false),([0,1,2,3,4,5,6],false,false)] (Ext) Ext (fun _ => True) (by kernel_rfl) (by kernel_rfl) Ext.refl (fun _ _ _ => Ext.trans) (fun _ _ h => h) (fun _ _ h => h.size) (fun _ _ h _ => h) trivial ?_
  dsimp only [List.length_cons, List.length_nil, List.drop_succ_cons, List.drop_zero, List.drop_nil]
  refine fq 0 rfl rfl rfl cK rfl rfl ?_; apply Exists.intro; constructor
  ·intro sv w' hw' hfa
   refine ⟨rfl, ?_⟩; simp only [putsL]; change qT _; simp only [qT, Act.put, sIA, sCS, sCZ]; simp [go_sem, quietTo, Ext.refl]; all_goals rfl
  refine fq 1 rfl rfl rfl cK rfl rfl ?_; apply Exists.intro; constructor
  ·intro sv w' hw' hfa
   have hk9 := (Ext.refl wra).drew.trans hw'; obtain ⟨hc, hf, hz9⟩ := hk9.walk; have z0 := (hc gk 0 lk).trans z0'; have z1 := (hc gk 1 lk).trans z1'
   refine ⟨rfl, ?_⟩; simp only [putsL]; change qT _; simp only [qT, Act.put, sIA, sCS, sCZ]; simp [go_sem, quietTo, Ext.refl, ↓IntWalk.iteOmega, z0, z1]; (all_goals try simp (disch := omega) only [IntWalk.i64_in]); all_goals rfl
  refine fq 2 rfl rfl rfl cK rfl rfl ?_; apply Exists.intro; constructor
  ·rintro sv w' hw' ⟨(f0 : sv 0 = _), (f1 : sv 1 = _), -⟩; (try dsimp only at f0 f1)
   have hk9 := (Ext.refl wra).drew.trans hw'; obtain ⟨hc, hf, hz9⟩ := hk9.walk; have z0 := (hc gk 0 lk).trans z0'; have z1 := (hc gk 1 lk).trans z1'
   refine ⟨rfl, ?_⟩; simp only [putsL]; change qT (pT (pT _ 36 (sv 1)) 35 (sv 0)); simp only [qT, pT, Act.put, sIA, sCS, sCZ]; simp [go_sem, quietTo, Ext.refl, ↓IntWalk.iteOmega, f0, f1]; (all_goals try simp (disch := omega) only [IntWalk.i64_in]); all_goals first | rfl | (exact hst.out _ (hEa.trans hk9))
  refine fac_row 3 rfl rfl rfl cK (fun _ _ h => h.size) (fun _ _ _ _ _ he _ hb => hb.ext he) ?_
  apply Exists.intro
  apply Exists.intro
  apply Exists.intro
  apply Exists.intro
  refine ⟨fun sv w' hw' hfa => ?_, ?_⟩
  ·refine ⟨rfl, ?_⟩; simp only [putsL]; change rowTo _ _ _ _ _ (Sem.run _ (execOp (Act.eval _) _) _); (try simp only [Act.put, sIA, sCS, sCZ]); simp [go_sem, rowTo, Ext.refl]; (all_goals try simp (disch := omega) only [IntWalk.i64_in]); all_goals first | rfl | exact ⟨rfl, rfl⟩ | exact ⟨⟨rfl, rfl⟩, rfl⟩
  refine fq 4 rfl rfl rfl cK rfl rfl ?_; apply Exists.intro; constructor
  ·intro sv w' hw' hfa
   refine ⟨rfl, ?_⟩; simp only [putsL]; change qT _; simp only [qT, Act.put, sIA, sCS, sCZ]; simp [go_sem, quietTo, Ext.refl]; all_goals rfl
  refine fac_via 5 rfl rfl 3 (fun g => .slice (some ⟨g, 0, none⟩) 4 4) (fun _ _ h => by simpa using h) (by decide) rfl cK ?_ ?_
  ·intro sv w' hfa
   obtain ⟨f3, (f4 : sv 4 = _), -⟩ := hfa; (try dsimp only at f4)
   obtain ⟨g3, f3, l3, b3⟩ := f3; replace f3 : sv 3 = _ := f3; obtain ⟨p3, q3⟩ := b3.walk
   exact ⟨_, f3⟩
  apply Exists.intro
  refine ⟨fun sv w' g hw' hfa hgi => ?_, ?_⟩
  ·obtain ⟨f3, (f4 : sv 4 = _), -⟩ := hfa; (try dsimp only at f4)
   obtain ⟨g3, f3, l3, b3⟩ := f3; replace f3 : sv 3 = _ := f3; obtain ⟨p3, q3⟩ := b3.walk
   have hgg := f3.symm.trans hgi
   simp only [Value.slice.injEq, Value.pointer.injEq, Option.some.injEq, Addr.mk.injEq, and_true] at hgg
   subst hgg
   have hk9 := (Ext.refl wra).drew.trans hw'; obtain ⟨hc, hf, hz9⟩ := hk9.walk; have z0 := (hc gk 0 lk).trans z0'; have z1 := (hc gk 1 lk).trans z1'
   refine ⟨rfl, ?_⟩; simp only [putsL]; change qT (pT (pT _ 39 (sv 4)) 38 (sv 3)); simp only [qT, pT, Act.put, sIA, sCS, sCZ]; simp [go_sem, quietTo, Ext.refl, ↓IntWalk.iteOmega, f3, f4, p3, q3]; (all_goals try simp (disch := omega) only [IntWalk.i64_in]); all_goals rfl
  refine fq 6 rfl rfl rfl cK rfl rfl ?_; apply Exists.intro; constructor
  ·rintro sv w' hw' ⟨f3, _, f5, -⟩
   obtain ⟨g3, f3, l3, b3⟩ := f3; replace f3 : sv 3 = _ := f3; obtain ⟨p3, q3⟩ := b3.walk; replace f5 : sv 5 = _ := f5 _ f3
   try dsimp only at f5
   refine ⟨rfl, ?_⟩; simp only [putsL]; change qT (pT (pT (pT _ 40 (sv 5)) 39 (sv 4)) 38 (sv 3)); simp only [qT, pT, Act.put, sIA, sCS, sCZ]; simp [go_sem, quietTo, Ext.refl, ↓IntWalk.iteOmega, f5, p3, q3]; (all_goals try simp (disch := omega) only [IntWalk.i64_in]); all_goals rfl
  refine fq 7 rfl rfl rfl cK rfl rfl ?_; apply Exists.intro; constructor
  ·rintro sv w' hw' ⟨_, _, (f2 : sv 2 = _), f3, _, _, (f6 : sv 6 = _), -⟩; (try dsimp only at f2 f6)
   obtain ⟨g3, f3, l3, b3⟩ := f3; replace f3 : sv 3 = _ := f3; obtain ⟨p3, q3⟩ := b3.walk
   have hk9 := (Ext.refl wra).drew.trans hw'; obtain ⟨hc, hf, hz9⟩ := hk9.walk; have z0 := (hc gk 0 lk).trans z0'; have z1 := (hc gk 1 lk).trans z1'
   refine ⟨rfl, ?_⟩; simp only [putsL]; change qT (pT (pT (pT (pT (pT (pT (pT _ 41 (sv 6)) 40 (sv 5)) 39 (sv 4)) 38 (sv 3)) 37 (sv 2)) 36 (sv 1)) 35 (sv 0)); simp only [qT, pT, Act.put, sIA, sCS, sCZ]; simp [go_sem, quietTo, Ext.refl, ↓IntWalk.iteOmega, f2, f6, p3, q3, hsb]; (all_goals try simp (disch := omega) only [IntWalk.i64_in]); all_goals rfl
  refine fac_nil fun xb wrb herb hfrb hcrb holdb hapb => ?_
  obtain ⟨(f0 : xb 0 = _), (f1 : xb 1 = _), (f2 : xb 2 = _), f3, (f4 : xb 4 = _), f5, (f6 : xb 6 = _), (f7 : xb 7 = _), -⟩ := hfrb; (try dsimp only at f0 f1 f2 f4 f6 f7)
  obtain ⟨g3, f3, l3, b3⟩ := f3; replace f3 : xb 3 = _ := f3; obtain ⟨p3, q3⟩ := b3.walk; replace f5 : xb 5 = _ := f5 _ f3
  try dsimp only at f5
  change wpList _ _ _ _ (pT (pT (pT (pT (pT (pT (pT (pT _ 35 (xb 0)) 36 (xb 1)) 37 (xb 2)) 38 (xb 3)) 39 (xb 4)) 40 (xb 5)) 41 (xb 6)) 42 (xb 7)) _
  simp only [putsL, Nat.reduceAdd, List.drop_succ_cons, List.drop_zero, List.drop_nil, pT, Act.put, sIA, sCS, sCZ]
  try simp only [f0, f1, f2, f3, f4, f5, f6, f7]
  clear f0 f1 f2 f4 f6 f7; clear holdb hapb
  have hkb := (Ext.refl wra).drew.trans herb
  have hEb := hEa.trans hkb
  have hxb := hxa.ext hkb
  have hkb1 := hka1.ext hkb
  obtain ⟨lv, hrow, hm⟩ := (h.out.ext hEb).parts
  have hAb := hA0.ext hEb
  have hbs : base ≤ wrb.heap.size := by have := hEb.size; have := hgx.out; omega
  clear herb hcrb hEa hxa hka1 hst h e3 lx z0' z1' lk hsb hA0 hkb hEb
  go_upto_region 10 with fail
  have lb := hrow.1.lt
  have lk := hkb1.lt
  have c5 := hrow.1.cell 5
  have k0 := hkb1.cell 0
  have k1 := hkb1.cell 1
  unfold shC at c5
  refine wp_region_facts [] [([],false,false),([0],false,false),([0,1],false,false),([0,1,2],false,false),([],false,false),([], false, true),([],false,false),([5,6],false,false),([5,6,7],false,false)] (Ext) Ext (fun _ => True) (by kernel_rfl) (by kernel_rfl) Ext.refl (fun _ _ _ => Ext.trans) (fun _ _ h => h) (fun _ _ h => h.size) (fun _ _ h _ => h) trivial ?_
  dsimp only [List.length_cons, List.length_nil, List.drop_succ_cons, List.drop_zero, List.drop_nil]
  refine fq 0 rfl rfl rfl cK rfl rfl ?_; apply Exists.intro; constructor
  ·intro sv w' hw' hfa
   refine ⟨rfl, ?_⟩; simp only [putsL]; change qT _; simp only [qT, Act.put, sIA, sCS, sCZ]; simp [go_sem, quietTo, Ext.refl]; all_goals rfl
  refine fq 1 rfl rfl rfl cK rfl rfl ?_; apply Exists.intro; constructor
  ·rintro sv w' hw' ⟨(f0 : sv 0 = _), -⟩; (try dsimp only at f0)
   refine ⟨rfl, ?_⟩; simp only [putsL]; change qT (pT _ 43 (sv 0)); simp only [qT, pT, Act.put, sIA, sCS, sCZ]; simp [go_sem, quietTo, Ext.refl, f0]; all_goals rfl
  refine fq 2 rfl rfl rfl cK rfl rfl ?_; apply Exists.intro; constructor
  ·rintro sv w' hw' ⟨_, (f1 : sv 1 = _), -⟩; (try dsimp only at f1)
   refine ⟨rfl, ?_⟩; simp only [putsL]; change qT (pT (pT _ 44 (sv 1)) 43 (sv 0)); simp only [qT, pT, Act.put, sIA, sCS, sCZ]; simp [go_sem, quietTo, Ext.refl, f1]; all_goals rfl
  refine fq 3 rfl rfl rfl cK rfl rfl ?_; apply Exists.intro; constructor
  ·rintro sv w' hw' ⟨_, _, (f2 : sv 2 = _), -⟩; (try dsimp only at f2)
   have hk9 := (Ext.refl wrb).drew.trans hw'; obtain ⟨hc, hf, hz9⟩ := hk9.walk; have y5 := (hc bb 5 lb).trans c5
   refine ⟨rfl, ?_⟩; simp only [putsL]; change qT (pT (pT (pT _ 45 (sv 2)) 44 (sv 1)) 43 (sv 0)); simp only [qT, pT, Act.put, sIA, sCS, sCZ]; simp [go_sem, quietTo, Ext.refl, ↓IntWalk.iteOmega, f2, y5]; (all_goals try simp (disch := omega) only [IntWalk.i64_in]); all_goals rfl
  refine fq 4 rfl rfl rfl cK rfl rfl ?_; apply Exists.intro; constructor
  ·intro sv w' hw' hfa
   have hk9 := (Ext.refl wrb).drew.trans hw'; obtain ⟨hc, hf, hz9⟩ := hk9.walk; have z0 := (hc gk 0 lk).trans k0; have z1 := (hc gk 1 lk).trans k1
   refine ⟨rfl, ?_⟩; simp only [putsL]; change qT _; simp only [qT, Act.put, sIA, sCS, sCZ]; simp [go_sem, quietTo, Ext.refl, ↓IntWalk.iteOmega, z0, z1]; (all_goals try simp (disch := omega) only [IntWalk.i64_in]); all_goals rfl
  refine fac_row 5 rfl rfl rfl cK (fun _ _ h => h.size) (fun _ _ _ _ _ he _ hb => hb.ext he) ?_
  apply Exists.intro
  apply Exists.intro
  apply Exists.intro
  apply Exists.intro
  refine ⟨fun sv w' hw' hfa => ?_, ?_⟩
  ·refine ⟨rfl, ?_⟩; simp only [putsL]; change rowTo _ _ _ _ _ (Sem.run _ (execOp (Act.eval _) _) _); (try simp only [Act.put, sIA, sCS, sCZ]); simp [go_sem, rowTo, Ext.refl]; (all_goals try simp (disch := omega) only [IntWalk.i64_in]); all_goals first | rfl | exact ⟨rfl, rfl⟩ | exact ⟨⟨rfl, rfl⟩, rfl⟩
  refine fq 6 rfl rfl rfl cK rfl rfl ?_; apply Exists.intro; constructor
  ·intro sv w' hw' hfa
   refine ⟨rfl, ?_⟩; simp only [putsL]; change qT _; simp only [qT, Act.put, sIA, sCS, sCZ]; simp [go_sem, quietTo, Ext.refl]; all_goals rfl
  refine fac_via 7 rfl rfl 5 (fun g => .slice (some ⟨g, 0, none⟩) 4 4) (fun _ _ h => by simpa using h) (by decide) rfl cK ?_ ?_
  ·intro sv w' hfa
   obtain ⟨f5, (f6 : sv 6 = _), -⟩ := hfa; (try dsimp only at f6)
   obtain ⟨g5, f5, l5, b5⟩ := f5; replace f5 : sv 5 = _ := f5; obtain ⟨p5, q5⟩ := b5.walk
   exact ⟨_, f5⟩
  apply Exists.intro
  refine ⟨fun sv w' g hw' hfa hgi => ?_, ?_⟩
  ·obtain ⟨f5, (f6 : sv 6 = _), -⟩ := hfa; (try dsimp only at f6)
   obtain ⟨g5, f5, l5, b5⟩ := f5; replace f5 : sv 5 = _ := f5; obtain ⟨p5, q5⟩ := b5.walk
   have hgg := f5.symm.trans hgi
   simp only [Value.slice.injEq, Value.pointer.injEq, Option.some.injEq, Addr.mk.injEq, and_true] at hgg
   subst hgg
   refine ⟨rfl, ?_⟩; simp only [putsL]; change qT (pT (pT _ 49 (sv 6)) 48 (sv 5)); simp only [qT, pT, Act.put, sIA, sCS, sCZ]; simp [go_sem, quietTo, Ext.refl, ↓IntWalk.iteOmega, f5, f6, p5, q5]; (all_goals try simp (disch := omega) only [IntWalk.i64_in]); all_goals rfl
  refine fq 8 rfl rfl rfl cK rfl rfl ?_; apply Exists.intro; constructor
  ·rintro sv w' hw' ⟨f5, _, f7, -⟩
   obtain ⟨g5, f5, l5, b5⟩ := f5; replace f5 : sv 5 = _ := f5; obtain ⟨p5, q5⟩ := b5.walk; replace f7 : sv 7 = _ := f7 _ f5
   try dsimp only at f7
   refine ⟨rfl, ?_⟩; simp only [putsL]; change qT (pT (pT (pT _ 50 (sv 7)) 49 (sv 6)) 48 (sv 5)); simp only [qT, pT, Act.put, sIA, sCS, sCZ]; simp [go_sem, quietTo, Ext.refl, ↓IntWalk.iteOmega, f7, p5, q5]; (all_goals try simp (disch := omega) only [IntWalk.i64_in]); all_goals rfl
  refine fac_nil fun xc wrc herc hfrc hcrc holdc hapc => ?_
  obtain ⟨(f0 : xc 0 = _), (f1 : xc 1 = _), (f2 : xc 2 = _), (f3 : xc 3 = _), (f4 : xc 4 = _), f5, (f6 : xc 6 = _), f7, (f8 : xc 8 = _), -⟩ := hfrc; (try dsimp only at f0 f1 f2 f3 f4 f6 f8)
  obtain ⟨g5, f5, l5, b5⟩ := f5; replace f5 : xc 5 = _ := f5; obtain ⟨p5, q5⟩ := b5.walk; replace f7 : xc 7 = _ := f7 _ f5
  try dsimp only at f7
  change wpList _ _ _ _ (pT (pT (pT (pT (pT (pT (pT (pT (pT _ 43 (xc 0)) 44 (xc 1)) 45 (xc 2)) 46 (xc 3)) 47 (xc 4)) 48 (xc 5)) 49 (xc 6)) 50 (xc 7)) 51 (xc 8)) _
  simp only [putsL, Nat.reduceAdd, List.drop_succ_cons, List.drop_zero, List.drop_nil, pT, Act.put, sIA, sCS, sCZ]
  try simp only [f0, f1, f2, f3, f4, f5, f6, f7, f8]
  clear f0 f1 f2 f3 f4 f6 f8; clear holdc hapc
  have hkc := (Ext.refl wrb).drew.trans herc
  obtain ⟨w6, hr6, hm6, hg6⟩ := (hm.ext hkc).put (k := (piece, copy)) hok (by omega) goneW
  unfold snV goneW at hr6
  have hrow6 := (hrow.ext hkc).turned hg6 (hm.ext hkc).st.isMap
  have hx6 : Blk w6 gx 101 #[.string by_, .int .i64 no, .int .i64 at_, .int .i64 5, .string piece, .int .i64 copy, .string singer] := (hg6.block gx (hxb.ext hkc).lt fun e => by cases e; exact blk_mapK_ne (hm.ext hkc).st (hxb.ext hkc) rfl).trans (hxb.ext hkc)
  have hk6 : Blk w6 gk 146 #[.string piece, .int .i64 copy] := (hg6.block gk (hkb1.ext hkc).lt fun e => by cases e; exact blk_mapK_ne (hm.ext hkc).st (hkb1.ext hkc) rfl).trans (hkb1.ext hkc)
  have hA6 : KeepL base bb ms mr mr w w6 := (hAb.ext hkc).grown hg6 (.inr (.inl rfl))
  replace hr6 := Lib.hid hr6; replace hm6 := Lib.hid hm6; replace hA6 := Lib.hid hA6; clear hrow hm hxb hkb1 hAb hg6 lb lk c5 k0 k1 herc hkc
  have lx := hx6.lt
  have e3 := hx6.cell 3
  replace hrow6 := Lib.hid hrow6
  go_wp2_with (refine wpList_putM rfl _ _ _ 140 rfl (.map (some ms)) (.agg #[.string piece, .int .i64 copy]) (.string ⟨#[103,111,110,101]⟩) rfl rfl rfl w6 hr6.out ?_)
  go_ret
  exact ⟨by rw [hd2.out]; rfl, DRow.lib (L := D.1) (by rw [hdl.out]; exact hrow6.out) (by rw [hds.out]; exact hm6.out), hA6.out⟩
end Go.Proofs.YtkjhbofbcmelgaaGreatDoor
