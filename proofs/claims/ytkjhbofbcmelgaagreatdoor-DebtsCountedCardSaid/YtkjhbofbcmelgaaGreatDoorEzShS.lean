/- What a singer owes: the walks of OwedBy and of Owes. Conditions: sizes; at most 19 slips. (Printed by gen_shs.py.) -/
import Derived.Test.YtkjhbofbcmelgaaGreatDoorEzShR
import Derived.Test.YtkjhbofbcmelgaaGreatDoorEzJ32
set_option linter.unusedSimpArgs false
set_option linter.unusedVariables false
namespace Go.Proofs.YtkjhbofbcmelgaaGreatDoor
open Go Go.RowKit
set_option maxRecDepth 100000 in
set_option maxHeartbeats 3200000 in
theorem owedBy_any (tp : Option Addr) (tn tc : Nat) (T : List TitleV) (r : LendR) (dp : Option Addr) (dn dc : Nat) (d : List SlipV) (s : ByteArray) (t : Int) (w : World) (h : ListsM w tp tn tc T r dp dn dc d) (ht : 0 ≤ t ∧ t ≤ 345686399999) :
 Calls Tryz.prog 34 #[.slice tp tn tc, lendVal r, .slice dp dn dc, .string s, .int .i64 t] w fun e w' => e = .returned (.int .i64 (sumD T r t (libAt T r d t).1.loans s)) ∧ Ext w w' := by
 have hsh := fun u hu => shelvedL h t u hu
 have hti := h.ti
 have htl := h.tl
 have hTo := titlesF_ok (libF_zero h.ok).1
 have hLe := lend_ok (libF_zero h.ok).2.1
 have hN := libAt_N (T := T) (r := r) (t := t) (slipsF_right (libF_zero h.ok).2.2) h.ss
 have hLT := libAt_T (T := T) (r := r) (t := t) (slipsF_right (libF_zero h.ok).2.2) h.ss
 have hdl := h.sl.1.1
 have hdn := h.sn
 have hLl : (libAt T r d t).1.loans.length ≤ 19 := by have := hN.loans; omega
 have hobd : ∀ l, LoanT l → 0 ≤ owedF T r t l ∧ owedF T r t l ≤ 20000 := fun l hl => owed_bound hTo hLe ht hl
 have hsbd : ∀ k : Nat, 0 ≤ sumD T r t ((libAt T r d t).1.loans.take k) s ∧ sumD T r t ((libAt T r d t).1.loans.take k) s ≤ 1000000 := fun k => by
  have h9 := sumD_bound hTo hLe ht s (X := (libAt T r d t).1.loans.take k) fun l hl => hLT l (List.mem_of_mem_take hl)
  have h8 : ((libAt T r d t).1.loans.take k).length ≤ 19 := by rw [List.length_take]; omega
  omega
 obtain ⟨L, hLq⟩ : ∃ L, L = (libAt T r d t).1 := ⟨_, rfl⟩
 have hE : Ext w (w.alloc (.cells #[.int .i64 r.days, .int .i64 r.late, .int .i64 r.most, .int .i64 r.each] 28)) := (Ext.refl w).alloc _
 have how := fun (u : World) (base bb ms mr q nr : Nat) (F : Int → Option Int) (hu : Ext w u) (hM : ShM base u bb ms mr q nr tp tn tc r L F) (l : LoanV) (hl : LoanT l) => owedDoc_any hM (hti.ext hu) htl hTo hLe t ht l hl
 rw [← hLq] at hLl hLT hsbd ⊢
 have hLT : ∀ l ∈ L.loans, LoanT l := hLT
 obtain ⟨X0, hXq⟩ : ∃ X0, L.loans = X0 := ⟨_, rfl⟩
 rw [hXq] at hLl hLT hsbd ⊢
 replace hXq := Lib.hid hXq
 unfold lendVal at hsh ⊢
 clear h hN hdl hdn hTo hLe hti; replace hsh := Lib.hid hsh; replace hLq := Lib.hid hLq; replace hE := Lib.hid hE; replace how := Lib.hid how; replace hLT := Lib.hid hLT; replace hobd := Lib.hid hobd; replace hsbd := Lib.hid hsbd
 go_enter Tryz.func34, Tryz.ntmps34
 go_wp2_with (go_at_call 77; (with_reducible refine Calls.mono (hsh.out _ hE.out) ?_); rintro e w4 ⟨base, bb, ms, mr, q, nr, rfl, hSM, hb4⟩; rw [← hLq.out] at hSM; obtain ⟨lv, hrow, hm⟩ := hSM.parts; obtain ⟨lp, lc, rfl, hS⟩ := slc_of_own loanC_len hrow.2 (by decide) (by rw [hXq.out]; omega); have y6 := hrow.1.cell 6; have lb := hrow.1.lt; unfold shC at y6; replace hS := Lib.hid hS; replace hSM := Lib.hid hSM; clear hrow hm)
 have hE4 := hE.out.trans hb4
 clear hsh hb4
 have how2 := fun (u : World) (hu : Ext w4 u) (l : LoanV) (hl : LoanT l) => how.out u base bb ms mr q nr _ (hE4.trans hu) (hSM.out.ext hu) l hl
 clear how hSM
 generalize L.loans = X at *
 have hXe := hXq.out
 clear hXq
 subst hXe
 replace how2 := Lib.hid how2
 go_loopw [12,25] (fun v12 v25 wr => ∃ k : Nat, v25 = .int .i64 k ∧ k ≤ X.length ∧ v12 = .int .i64 (sumD T r t (X.take k) s) ∧ Ext w4 wr) (fun _ v25 _ => X.length - (intOf v25).toNat)
 case atStart => exact ⟨0, rfl, Nat.zero_le _, rfl, Ext.refl _⟩
 case round =>
  obtain ⟨k, rfl, hk2, rfl, he⟩ := hrel
  by_cases hlt : k < X.length
  ·obtain ⟨l, hx⟩ := getD_some (rfl : X.length = X.length) hlt
   obtain ⟨b, off, rfl, hb, hEl⟩ := hS.out.1.2.2 (by omega)
   have hEr := hEl.ext he hb
   have d0 : wr.cell? ⟨b, off + k * 6, none⟩ = some (.string l.piece) := hEr k _ hx 0 _ rfl
   have d1 : wr.cell? ⟨b, off + k * 6 + 1, none⟩ = some (.int .i64 l.no) := hEr k _ hx 1 _ rfl
   have d2 : wr.cell? ⟨b, off + k * 6 + 2, none⟩ = some (.string l.singer) := hEr k _ hx 2 _ rfl
   have d3 : wr.cell? ⟨b, off + k * 6 + 3, none⟩ = some (.int .i64 l.since) := hEr k _ hx 3 _ rfl
   have d4 : wr.cell? ⟨b, off + k * 6 + 4, none⟩ = some (.int .i64 l.till) := hEr k _ hx 4 _ rfl
   have d5 : wr.cell? ⟨b, off + k * 6 + 5, none⟩ = some (.bool l.lost) := hEr k _ hx 5 _ rfl
   have hkI : (k : Int) < (X.length : Int) := by omega
   have hsn := sumD_snoc T r t (X.take k) l s
   rw [← take_snocL hx] at hsn
   have hlT := hLT.out l (List.mem_of_getElem? hx)
   have hob := hobd.out l hlT
   have hsb := hsbd.out k
   have hE1 : Ext w4 (wr.alloc (.cells #[.string l.piece, .int .i64 l.no, .string l.singer, .int .i64 l.since, .int .i64 l.till, .bool l.lost] 148)) := he.alloc _
   have hoc : Calls Tryz.prog 93 #[.pointer (some ⟨bb, 0, none⟩), .agg #[.string l.piece, .int .i64 l.no, .string l.singer, .int .i64 l.since, .int .i64 l.till, .bool l.lost], .int .i64 t] (wr.alloc (.cells #[.string l.piece, .int .i64 l.no, .string l.singer, .int .i64 l.since, .int .i64 l.till, .bool l.lost] 148)) fun e w' => e = .returned (.int .i64 (owedF T r t l)) ∧ Ext (wr.alloc (.cells #[.string l.piece, .int .i64 l.no, .string l.singer, .int .i64 l.since, .int .i64 l.till, .bool l.lost] 148)) w' := how2.out _ hE1 l hlT
   replace hx := Lib.hid hx; replace hEl := Lib.hid hEl; replace hE1 := Lib.hid hE1; clear hEr
   generalize sumD T r t (X.take k) s = sm at *
   generalize owedF T r t l = ov at *
   cases hq : (l.singer.toList == s.toList)
   ·rw [if_neg (fun e => by rw [bytesB.2 e] at hq; cases hq), Int.add_zero] at hsn
    replace hsn := Lib.hid hsn; clear hoc
    go_wp2
    go_roundw
    case rel => exact ⟨k + 1, by go_num, by omega, by rw [hsn.out], hE1.out⟩
    case measure => simp [intOf]; omega
   ·rw [if_pos (bytesB.1 hq)] at hsn
    replace hsn := Lib.hid hsn
    have hw : IntKind.i64.wrap (sm + ov) = sm + ov := IntWalk.i64_in _ (by omega)
    replace hoc := Lib.hid hoc
    go_wp2_with (go_at_call 93; (with_reducible refine Calls.mono hoc.out ?_); rintro e w6 ⟨rfl, hb6⟩)
    go_roundw
    case rel => exact ⟨k + 1, by go_num, by omega, by rw [hsn.out], hE1.out.trans hb6⟩
    case measure => simp [intOf]; omega
  ·obtain rfl : X.length = k := by omega
   rw [List.take_length]
   go_wp2
   go_ret
   exact ⟨rfl, hE4.trans he⟩
set_option maxRecDepth 100000 in
set_option maxHeartbeats 3200000 in
theorem owes_bad (tp : Option Addr) (tn tc : Nat) (T : List TitleV) (r : LendR) (dp : Option Addr) (dn dc : Nat) (d : List SlipV) (s : ByteArray) (t : Int) (w : World) (h : ListsW w tp tn tc T r dp dn dc d) (hs : s.size ≤ 1000000) (hf : atF T r d t (keyE s) ≠ 0) :
 Calls Tryz.prog 31 #[.slice tp tn tc, lendVal r, .slice dp dn dc, .string s, .int .i64 t] w fun e w' => e = .returned (.tuple #[.int .i64 0, .int .i64 (atF T r d t (keyE s))]) ∧ Ext w w' := by
 have hat := fun u g1 (hu : Ext w u) (h1 : Blk u g1 9 #[.string s]) => atS_bad tp tn tc T r dp dn dc d t (keyE s) g1 u (h.ext hu) hf fun h0 v hv => singerClo_any (h1.ext hv) (by omega)
 generalize atF T r d t (keyE s) = f at *
 have hfb : (f == 0) = false := beq_false_of_ne hf
 unfold lendVal at hat ⊢
 have hE : Ext w (w.alloc (.cells #[.int .i64 r.days, .int .i64 r.late, .int .i64 r.most, .int .i64 r.each] 28)) := (Ext.refl w).alloc _
 have hX : Blk (w.alloc (.cells #[.int .i64 r.days, .int .i64 r.late, .int .i64 r.most, .int .i64 r.each] 28)) w.heap.size 28 #[.int .i64 r.days, .int .i64 r.late, .int .i64 r.most, .int .i64 r.each] := Blk.new' rfl
 have lx := hX.lt
 have x0 := hX.cell 0
 have x1 := hX.cell 1
 have x2 := hX.cell 2
 have x3 := hX.cell 3
 clear h hX; replace hf := Lib.hid hf; replace hat := Lib.hid hat; replace hE := Lib.hid hE
 go_enter Tryz.func31, Tryz.ntmps31
 go_upto_region 1 with fail
 generalize w.heap.size = gx at *
 generalize (w.alloc (.cells #[.int .i64 r.days, .int .i64 r.late, .int .i64 r.most, .int .i64 r.each] 28)) = W1 at *
 refine wp_region_facts [9] [([],false,false),([],false,false),([],false,false),([],false,false),([],false,false),([4],false,false),([0,1,2,3,4,5],false,false),([0,1,2,3,4,5,6],false,false),([0,1,2,3,4,5,6,7],false,false),([0,1,2,3,4,5,6,7],false,false)] (Ext) Ext (fun _ => True) (by kernel_rfl) (by kernel_rfl) Ext.refl (fun _ _ _ => Ext.trans) (fun _ _ h => h) (fun _ _ h => h.size) (fun _ _ h _ => h) trivial ?_
 dsimp only [List.length_cons, List.length_nil, List.drop_succ_cons, List.drop_zero, List.drop_nil]
 refine fq 0 rfl rfl rfl cK rfl rfl ?_; apply Exists.intro; constructor
 ·intro sv w' hw' hfa
  refine ⟨rfl, ?_⟩; simp only [putsL]; change qT _; simp only [qT, Act.put, sIA, sCS, sCZ]; simp [go_sem, quietTo, Ext.refl]; all_goals rfl
 refine fq 1 rfl rfl rfl cK rfl rfl ?_; apply Exists.intro; constructor
 ·intro sv w' hw' hfa
  have hk9 := (Ext.refl W1).drew.trans hw'; obtain ⟨hc, -, -⟩ := hk9.walk; have y0 := (hc gx 0 lx).trans x0; have y1 := (hc gx 1 lx).trans x1; have y2 := (hc gx 2 lx).trans x2; have y3 := (hc gx 3 lx).trans x3
  refine ⟨rfl, ?_⟩; simp only [putsL]; change qT _; simp only [qT, Act.put, sIA, sCS, sCZ]; simp [go_sem, quietTo, Ext.refl, ↓IntWalk.iteOmega, y0, y1, y2, y3]; (all_goals try simp (disch := omega) only [IntWalk.i64_in]); all_goals rfl
 refine fq 2 rfl rfl rfl cK rfl rfl ?_; apply Exists.intro; constructor
 ·intro sv w' hw' hfa
  refine ⟨rfl, ?_⟩; simp only [putsL]; change qT _; simp only [qT, Act.put, sIA, sCS, sCZ]; simp [go_sem, quietTo, Ext.refl]; all_goals rfl
 refine fq 3 rfl rfl rfl cK rfl rfl ?_; apply Exists.intro; constructor
 ·intro sv w' hw' hfa
  refine ⟨rfl, ?_⟩; simp only [putsL]; change qT _; simp only [qT, Act.put, sIA, sCS, sCZ]; simp [go_sem, quietTo, Ext.refl]; all_goals rfl
 refine fq 4 rfl rfl rfl cK rfl rfl ?_; apply Exists.intro; constructor
 ·intro sv w' hw' hfa
  refine ⟨rfl, ?_⟩; simp only [putsL]; change qT _; simp only [qT, Act.put, sIA, sCS, sCZ]; simp [go_sem, quietTo, Ext.refl]; all_goals rfl
 refine fac_any 5 rfl rfl rfl cK ?_
 refine ⟨(fun y u => ∃ gS : Nat, y 5 = .func (.func 131) #[] #[.pointer (some ⟨gS, 0, none⟩)] ∧ Blk u gS 9 #[.string s]), fun sv w' hw' hfa => ?_, ?_, ?_⟩
 ·obtain ⟨(f4 : sv 4 = _), -⟩ := hfa; (try dsimp only at f4)
  refine ⟨rfl, ?_⟩
  simp only [putsL]
  change outc _ _ (Sem.run _ (execOp (Act.eval (pT _ 22 (sv 4))) _) _)
  try simp only [pT, Act.put, sIA, sCS, sCZ]
  simp [go_sem, outc, f4]
  refine (singerFault_any s _).mono ?_
  rintro e w9 ⟨gS, rfl, h1, hb9⟩
  exact ⟨_, rfl, hb9, gS, by simp [upd], h1⟩
 ·exact fun x w w' ⟨a, h1, h2⟩ he => ⟨a, h1, h2.ext he⟩
 refine fac_any 6 rfl rfl rfl cK ?_
 refine ⟨(fun y u => y 6 = .tuple #[.pointer none, .int .i64 f]), fun sv w' hw' hfa => ?_, ?_, ?_⟩
 ·obtain ⟨(f0 : sv 0 = _), (f1 : sv 1 = _), (f2 : sv 2 = _), (f3 : sv 3 = _), (f4 : sv 4 = _), f5, -⟩ := hfa; (try dsimp only at f0 f1 f2 f3 f4)
  obtain ⟨gS, f5, hB1⟩ := f5
  replace f5 : sv 5 = _ := f5
  have hk9 := (Ext.refl W1).drew.trans hw'
  refine ⟨rfl, ?_⟩
  simp only [putsL]
  change outc _ _ (Sem.run _ (execOp (Act.eval (pT (pT (pT (pT (pT (pT _ 23 (sv 5)) 22 (sv 4)) 21 (sv 3)) 20 (sv 2)) 19 (sv 1)) 18 (sv 0))) _) _)
  try simp only [pT, Act.put, sIA, sCS, sCZ]
  simp [go_sem, outc, f0, f1, f2, f3, f5]
  refine (hat.out _ gS (hE.out.trans hk9) hB1).mono ?_
  rintro e w9 ⟨rfl, hb9⟩
  exact ⟨_, rfl, hb9, by simp [upd]⟩
 ·exact fun x w w' h he => h
 refine fq 7 rfl rfl rfl cK rfl rfl ?_; apply Exists.intro; constructor
 ·rintro sv w' hw' ⟨_, _, _, _, _, _, (f6 : sv 6 = _), -⟩
  refine ⟨rfl, ?_⟩; simp only [putsL]; change qT (pT (pT (pT (pT (pT (pT (pT _ 24 (sv 6)) 23 (sv 5)) 22 (sv 4)) 21 (sv 3)) 20 (sv 2)) 19 (sv 1)) 18 (sv 0)); simp only [qT, pT, Act.put, sIA, sCS, sCZ]; simp [go_sem, quietTo, Ext.refl, f6]; all_goals rfl
 refine fq 8 rfl rfl rfl cK rfl rfl ?_; apply Exists.intro; constructor
 ·rintro sv w' hw' ⟨_, _, _, _, _, _, _, (f7 : sv 7 = _), -⟩; (try dsimp only at f7)
  refine ⟨rfl, ?_⟩; simp only [putsL]; change qT (pT (pT (pT (pT (pT (pT (pT (pT _ 17 (sv 7)) 24 (sv 6)) 23 (sv 5)) 22 (sv 4)) 21 (sv 3)) 20 (sv 2)) 19 (sv 1)) 18 (sv 0)); simp only [qT, pT, Act.put, sIA, sCS, sCZ]; simp [go_sem, quietTo, Ext.refl, f7]; all_goals rfl
 refine fac_late 9 rfl rfl Ext.refl cK rfl rfl (fun _ _ _ _ h => h) ?_; apply Exists.intro; constructor
 ·rintro sv w' hw' ⟨_, _, _, _, _, _, _, (f7 : sv 7 = _), -⟩; (try dsimp only at f7)
  refine ⟨rfl, fun w2 => ?_⟩
  simp only [putsL]
  change pureTo _ _ (Sem.run _ (execOp (Act.eval (Act.put (Act.put (Act.put (Act.put (Act.put (Act.put (Act.put (Act.put _ (some 17) (sv 7)) (some 24) (sv 6)) (some 23) (sv 5)) (some 22) (sv 4)) (some 21) (sv 3)) (some 20) (sv 2)) (some 19) (sv 1)) (some 18) (sv 0))) _) _)
  try simp only [Act.put, sIA, sCS, sCZ]
  simp [go_sem, pureTo, f7]
  (all_goals try simp (disch := omega) only [IntWalk.i64_in]); all_goals rfl
 refine fac_nil fun xa wra hera hfra hcra holda hapa => ?_
 obtain ⟨(f0 : xa 0 = _), (f1 : xa 1 = _), (f2 : xa 2 = _), (f3 : xa 3 = _), (f4 : xa 4 = _), f5, f6, f7, f8, f9, -⟩ := hfra; (try dsimp only at f0 f1 f2 f3 f4)
 obtain ⟨gS, f5, hB1⟩ := f5
 replace f5 : xa 5 = _ := f5; replace f6 : xa 6 = _ := f6; replace f7 : xa 7 = _ := f7
 try dsimp only at f7
 replace f8 : xa 8 = _ := f8
 try dsimp only at f8
 replace f9 : xa 9 = _ := f9
 try dsimp only at f9
 change wpList _ _ _ _ (pT (pT (pT (pT (pT (pT (pT (pT (pT (pT _ 18 (xa 0)) 19 (xa 1)) 20 (xa 2)) 21 (xa 3)) 22 (xa 4)) 23 (xa 5)) 24 (xa 6)) 17 (xa 7)) 25 (xa 8)) 26 (xa 9)) _
 simp only [putsL, Nat.reduceAdd, List.drop_succ_cons, List.drop_zero, List.drop_nil, pT, Act.put, sIA, sCS, sCZ]
 try simp only [f0, f1, f2, f3, f4, f5, f6, f7, f8, f9]
 clear f0 f1 f2 f3 f4 f7 f8 f9; clear holda hapa
 have hEw2 := (hE.out.trans (Ext.refl W1).drew).trans hera
 go_wp2
 go_ret2
 exact ⟨rfl, hEw2⟩
set_option maxRecDepth 100000 in
set_option maxHeartbeats 6400000 in
theorem owes_any (tp : Option Addr) (tn tc : Nat) (T : List TitleV) (r : LendR) (dp : Option Addr) (dn dc : Nat) (d : List SlipV) (s : ByteArray) (t : Int) (w : World) (h : ListsM w tp tn tc T r dp dn dc d) (hs : s.size ≤ 1000000) (hk : keyE s = 0) (hto : outB t 0 345686399999 = false) (ht : 0 ≤ t ∧ t ≤ 345686399999) :
 Calls Tryz.prog 31 #[.slice tp tn tc, lendVal r, .slice dp dn dc, .string s, .int .i64 t] w fun e w' => e = .returned (.tuple #[.int .i64 (sumD T r t (libAt T r d t).1.loans s), .int .i64 0]) ∧ Ext w w' := by
 have hti := h.ti
 have hTo := titlesF_ok (libF_zero h.ok).1
 have hLe := lend_ok (libF_zero h.ok).2.1
 have hN := libAt_N (T := T) (r := r) (t := t) (slipsF_right (libF_zero h.ok).2.2) h.ss
 have hLT := libAt_T (T := T) (r := r) (t := t) (slipsF_right (libF_zero h.ok).2.2) h.ss
 have hdl := h.sl.1.1
 have hdn := h.sn
 have hLl : (libAt T r d t).1.loans.length ≤ 19 := by have := hN.loans; omega
 have hobd : ∀ l, LoanT l → 0 ≤ owedF T r t l ∧ owedF T r t l ≤ 20000 := fun l hl => owed_bound hTo hLe ht hl
 have hsbd : ∀ k : Nat, 0 ≤ sumD T r t ((libAt T r d t).1.loans.take k) s ∧ sumD T r t ((libAt T r d t).1.loans.take k) s ≤ 1000000 := fun k => by
  have h9 := sumD_bound hTo hLe ht s (X := (libAt T r d t).1.loans.take k) fun l hl => hLT l (List.mem_of_mem_take hl)
  have h8 : ((libAt T r d t).1.loans.take k).length ≤ 19 := by rw [List.length_take]; omega
  omega
 obtain ⟨L, hLe2⟩ : ∃ L, L = (libAt T r d t).1 := ⟨_, rfl⟩
 have hat := fun u g1 (hu : Ext w u) (h1 : Blk u g1 9 #[.string s]) => atS_any tp tn tc T r dp dn dc d t g1 u (h.ext hu) hto fun v hv => by have h9 := singerClo_any (h1.ext hv) (by omega); rw [hk] at h9; exact h9
 have how := fun (u : World) (bb ms ml mh : Nat) (lv : Value) (hu : Ext w u) (hB : Blk u bb 130 (libC tp tn tc r ms ml mh lv)) (l : LoanV) (hl : LoanT l) => owed_any bb _ tp tn tc T r t l u hB rfl rfl rfl rfl (hti.ext hu) hTo hLe ht hl
 rw [← hLe2] at hLl hLT hsbd ⊢
 have hLT : ∀ l ∈ L.loans, LoanT l := hLT
 obtain ⟨X0, hXq⟩ : ∃ X0, L.loans = X0 := ⟨_, rfl⟩
 rw [hXq] at hLl hLT hsbd ⊢
 replace hXq := Lib.hid hXq
 unfold lendVal at hat ⊢
 have hE : Ext w (w.alloc (.cells #[.int .i64 r.days, .int .i64 r.late, .int .i64 r.most, .int .i64 r.each] 28)) := (Ext.refl w).alloc _
 have hX : Blk (w.alloc (.cells #[.int .i64 r.days, .int .i64 r.late, .int .i64 r.most, .int .i64 r.each] 28)) w.heap.size 28 #[.int .i64 r.days, .int .i64 r.late, .int .i64 r.most, .int .i64 r.each] := Blk.new' rfl
 have lx := hX.lt
 have x0 := hX.cell 0
 have x1 := hX.cell 1
 have x2 := hX.cell 2
 have x3 := hX.cell 3
 clear h hX hN hdl hdn hTo hLe hti
 have hLe := hLe2
 replace hat := Lib.hid hat; replace hE := Lib.hid hE; replace hLe := Lib.hid hLe; replace hk := Lib.hid hk; replace how := Lib.hid how; replace hLT := Lib.hid hLT; replace hobd := Lib.hid hobd; replace hsbd := Lib.hid hsbd; clear hLe2
 go_enter Tryz.func31, Tryz.ntmps31
 go_upto_region 1 with fail
 generalize w.heap.size = gx at *
 generalize (w.alloc (.cells #[.int .i64 r.days, .int .i64 r.late, .int .i64 r.most, .int .i64 r.each] 28)) = W1 at *
 refine wp_region_facts [9] [([],false,false),([],false,false),([],false,false),([],false,false),([],false,false),([4],false,false),([0,1,2,3,4,5],false,false),([0,1,2,3,4,5,6],false,false),([0,1,2,3,4,5,6,7],false,false),([0,1,2,3,4,5,6,7],false,false)] (Ext) Ext (fun _ => True) (by kernel_rfl) (by kernel_rfl) Ext.refl (fun _ _ _ => Ext.trans) (fun _ _ h => h) (fun _ _ h => h.size) (fun _ _ h _ => h) trivial ?_
 dsimp only [List.length_cons, List.length_nil, List.drop_succ_cons, List.drop_zero, List.drop_nil]
 refine fq 0 rfl rfl rfl cK rfl rfl ?_; apply Exists.intro; constructor
 ·intro sv w' hw' hfa
  refine ⟨rfl, ?_⟩; simp only [putsL]; change qT _; simp only [qT, Act.put, sIA, sCS, sCZ]; simp [go_sem, quietTo, Ext.refl]; all_goals rfl
 refine fq 1 rfl rfl rfl cK rfl rfl ?_; apply Exists.intro; constructor
 ·intro sv w' hw' hfa
  have hk9 := (Ext.refl W1).drew.trans hw'; obtain ⟨hc, -, -⟩ := hk9.walk; have y0 := (hc gx 0 lx).trans x0; have y1 := (hc gx 1 lx).trans x1; have y2 := (hc gx 2 lx).trans x2; have y3 := (hc gx 3 lx).trans x3
  refine ⟨rfl, ?_⟩; simp only [putsL]; change qT _; simp only [qT, Act.put, sIA, sCS, sCZ]; simp [go_sem, quietTo, Ext.refl, ↓IntWalk.iteOmega, y0, y1, y2, y3]; (all_goals try simp (disch := omega) only [IntWalk.i64_in]); all_goals rfl
 refine fq 2 rfl rfl rfl cK rfl rfl ?_; apply Exists.intro; constructor
 ·intro sv w' hw' hfa
  refine ⟨rfl, ?_⟩; simp only [putsL]; change qT _; simp only [qT, Act.put, sIA, sCS, sCZ]; simp [go_sem, quietTo, Ext.refl]; all_goals rfl
 refine fq 3 rfl rfl rfl cK rfl rfl ?_; apply Exists.intro; constructor
 ·intro sv w' hw' hfa
  refine ⟨rfl, ?_⟩; simp only [putsL]; change qT _; simp only [qT, Act.put, sIA, sCS, sCZ]; simp [go_sem, quietTo, Ext.refl]; all_goals rfl
 refine fq 4 rfl rfl rfl cK rfl rfl ?_; apply Exists.intro; constructor
 ·intro sv w' hw' hfa
  refine ⟨rfl, ?_⟩; simp only [putsL]; change qT _; simp only [qT, Act.put, sIA, sCS, sCZ]; simp [go_sem, quietTo, Ext.refl]; all_goals rfl
 refine fac_any 5 rfl rfl rfl cK ?_
 refine ⟨(fun y u => ∃ gS : Nat, y 5 = .func (.func 131) #[] #[.pointer (some ⟨gS, 0, none⟩)] ∧ Blk u gS 9 #[.string s]), fun sv w' hw' hfa => ?_, ?_, ?_⟩
 ·obtain ⟨(f4 : sv 4 = _), -⟩ := hfa; (try dsimp only at f4)
  refine ⟨rfl, ?_⟩
  simp only [putsL]
  change outc _ _ (Sem.run _ (execOp (Act.eval (pT _ 22 (sv 4))) _) _)
  try simp only [pT, Act.put, sIA, sCS, sCZ]
  simp [go_sem, outc, f4]
  refine (singerFault_any s _).mono ?_
  rintro e w9 ⟨gS, rfl, h1, hb9⟩
  exact ⟨_, rfl, hb9, gS, by simp [upd], h1⟩
 ·exact fun x w w' ⟨a, h1, h2⟩ he => ⟨a, h1, h2.ext he⟩
 refine fac_any 6 rfl rfl rfl cK ?_
 refine ⟨(fun y u => ∃ bb : Nat, y 6 = .tuple #[.pointer (some ⟨bb, 0, none⟩), .int .i64 0] ∧ LibP tp tn tc r L u bb), fun sv w' hw' hfa => ?_, ?_, ?_⟩
 ·obtain ⟨(f0 : sv 0 = _), (f1 : sv 1 = _), (f2 : sv 2 = _), (f3 : sv 3 = _), (f4 : sv 4 = _), f5, -⟩ := hfa; (try dsimp only at f0 f1 f2 f3 f4)
  obtain ⟨gS, f5, hB1⟩ := f5
  replace f5 : sv 5 = _ := f5
  have hk9 := (Ext.refl W1).drew.trans hw'
  refine ⟨rfl, ?_⟩
  simp only [putsL]
  change outc _ _ (Sem.run _ (execOp (Act.eval (pT (pT (pT (pT (pT (pT _ 23 (sv 5)) 22 (sv 4)) 21 (sv 3)) 20 (sv 2)) 19 (sv 1)) 18 (sv 0))) _) _)
  try simp only [pT, Act.put, sIA, sCS, sCZ]
  simp [go_sem, outc, f0, f1, f2, f3, f5]
  refine (hat.out _ gS (hE.out.trans hk9) hB1).mono ?_
  rintro e w9 ⟨base, bb, ms, ml, mh, q, rfl, hL, hb9⟩
  exact ⟨_, rfl, hb9, bb, by simp [upd], base, ms, ml, mh, q, by rw [hLe.out]; exact hL⟩
 ·exact fun x w w' ⟨a, h1, h2⟩ he => ⟨a, h1, h2.ext he⟩
 refine fac_any 7 rfl rfl rfl cK ?_
 refine ⟨(fun y u => ∃ bb : Nat, y 7 = .tuple #[.pointer (some ⟨bb, 0, none⟩), .int .i64 0] ∧ LibP tp tn tc r L u bb), fun sv w' hw' hfa => ?_, ?_, ?_⟩
 ·obtain ⟨(f0 : sv 0 = _), (f1 : sv 1 = _), (f2 : sv 2 = _), (f3 : sv 3 = _), (f4 : sv 4 = _), f5, f6, -⟩ := hfa; (try dsimp only at f0 f1 f2 f3 f4)
  obtain ⟨gS, f5, hB1⟩ := f5
  replace f5 : sv 5 = _ := f5
  obtain ⟨bb6, f6, hP6⟩ := f6
  replace f6 : sv 6 = _ := f6
  refine ⟨rfl, ?_⟩
  simp only [putsL]
  change outc _ _ (Sem.run _ (execOp (Act.eval (pT (pT (pT (pT (pT (pT (pT _ 24 (sv 6)) 23 (sv 5)) 22 (sv 4)) 21 (sv 3)) 20 (sv 2)) 19 (sv 1)) 18 (sv 0))) _) _)
  try simp only [pT, Act.put, sIA, sCS, sCZ]
  simp [go_sem, outc, f6]
  exact ⟨Ext.refl _, bb6, by simp [upd], hP6⟩
 ·exact fun x w w' ⟨a, h1, h2⟩ he => ⟨a, h1, h2.ext he⟩
 refine fac_any 8 rfl rfl rfl cK ?_
 refine ⟨(fun y u => ∃ bb : Nat, y 8 = .pointer (some ⟨bb, 0, none⟩) ∧ LibP tp tn tc r L u bb), fun sv w' hw' hfa => ?_, ?_, ?_⟩
 ·obtain ⟨(f0 : sv 0 = _), (f1 : sv 1 = _), (f2 : sv 2 = _), (f3 : sv 3 = _), (f4 : sv 4 = _), f5, f6, f7, -⟩ := hfa; (try dsimp only at f0 f1 f2 f3 f4)
  obtain ⟨gS, f5, hB1⟩ := f5
  replace f5 : sv 5 = _ := f5
  obtain ⟨bb6, f6, hP6⟩ := f6
  replace f6 : sv 6 = _ := f6
  obtain ⟨bb7, f7, hP7⟩ := f7
  replace f7 : sv 7 = _ := f7
  refine ⟨rfl, ?_⟩
  simp only [putsL]
  change outc _ _ (Sem.run _ (execOp (Act.eval (pT (pT (pT (pT (pT (pT (pT (pT _ 17 (sv 7)) 24 (sv 6)) 23 (sv 5)) 22 (sv 4)) 21 (sv 3)) 20 (sv 2)) 19 (sv 1)) 18 (sv 0))) _) _)
  try simp only [pT, Act.put, sIA, sCS, sCZ]
  simp [go_sem, outc, f7]
  exact ⟨Ext.refl _, bb7, by simp [upd], hP7⟩
 ·exact fun x w w' ⟨a, h1, h2⟩ he => ⟨a, h1, h2.ext he⟩
 refine fac_late 9 rfl rfl Ext.refl cK rfl rfl (fun _ _ _ _ h => h) ?_; apply Exists.intro; constructor
 ·rintro sv w' hw' ⟨_, _, _, _, _, _, _, f7, -⟩
  obtain ⟨bb7, f7, hP7⟩ := f7
  replace f7 : sv 7 = _ := f7
  refine ⟨rfl, fun w2 => ?_⟩
  simp only [putsL]
  change pureTo _ _ (Sem.run _ (execOp (Act.eval (Act.put (Act.put (Act.put (Act.put (Act.put (Act.put (Act.put (Act.put _ (some 17) (sv 7)) (some 24) (sv 6)) (some 23) (sv 5)) (some 22) (sv 4)) (some 21) (sv 3)) (some 20) (sv 2)) (some 19) (sv 1)) (some 18) (sv 0))) _) _)
  try simp only [Act.put, sIA, sCS, sCZ]
  simp [go_sem, pureTo, f7]
  (all_goals try simp (disch := omega) only [IntWalk.i64_in]); all_goals rfl
 refine fac_nil fun xa wra hera hfra hcra holda hapa => ?_
 obtain ⟨(f0 : xa 0 = _), (f1 : xa 1 = _), (f2 : xa 2 = _), (f3 : xa 3 = _), (f4 : xa 4 = _), f5, f6, f7, f8, f9, -⟩ := hfra; (try dsimp only at f0 f1 f2 f3 f4)
 obtain ⟨gS, f5, hB1⟩ := f5
 replace f5 : xa 5 = _ := f5
 obtain ⟨bb6, f6, hP6⟩ := f6
 replace f6 : xa 6 = _ := f6
 obtain ⟨bb7, f7, hP7⟩ := f7
 replace f7 : xa 7 = _ := f7
 obtain ⟨bb, f8, hP8⟩ := f8
 replace f8 : xa 8 = _ := f8; replace f9 : xa 9 = _ := f9
 try dsimp only at f9
 change wpList _ _ _ _ (pT (pT (pT (pT (pT (pT (pT (pT (pT (pT _ 18 (xa 0)) 19 (xa 1)) 20 (xa 2)) 21 (xa 3)) 22 (xa 4)) 23 (xa 5)) 24 (xa 6)) 17 (xa 7)) 25 (xa 8)) 26 (xa 9)) _
 simp only [putsL, Nat.reduceAdd, List.drop_succ_cons, List.drop_zero, List.drop_nil, pT, Act.put, sIA, sCS, sCZ]
 try simp only [f0, f1, f2, f3, f4, f5, f6, f7, f8, f9]
 clear f0 f1 f2 f3 f4 f9; clear holda hapa
 have hEw2 := hE.out.trans ((Ext.refl W1).drew.trans hera)
 obtain ⟨base, ms, ml, mh, q, hL⟩ := hP8
 obtain ⟨⟨lv, hB, ho⟩, -⟩ := hL
 obtain ⟨lp, lc, rfl, hS⟩ := slc_of_own loanC_len ho (by decide) (by rw [hXq.out]; omega)
 have how2 := fun (u : World) (hu : Ext wra u) (l : LoanV) (hl : LoanT l) => how.out u bb ms ml mh _ (hEw2.trans hu) (hB.ext hu) l hl
 have c7 := hB.cell 7
 have lb := hB.lt
 unfold libC at c7
 generalize L.loans = X at *
 have hXe := hXq.out
 clear hXq
 subst hXe
 replace hS := Lib.hid hS; replace how2 := Lib.hid how2; clear hat hB ho hera hcra lx x0 x1 x2 x3 how
 go_wp2
 go_loopw [14,35] (fun v12 v25 wr => ∃ k : Nat, v25 = .int .i64 k ∧ k ≤ X.length ∧ v12 = .int .i64 (sumD T r t (X.take k) s) ∧ Ext wra wr) (fun _ v25 _ => X.length - (intOf v25).toNat)
 case atStart => exact ⟨0, rfl, Nat.zero_le _, rfl, Ext.refl _⟩
 case round =>
  obtain ⟨k, rfl, hk2, rfl, he⟩ := hrel
  by_cases hlt : k < X.length
  ·obtain ⟨l, hx⟩ := getD_some (rfl : X.length = X.length) hlt
   obtain ⟨b, off, rfl, hb, hEl⟩ := hS.out.1.2.2 (by omega)
   have hEr := hEl.ext he hb
   have d0 : wr.cell? ⟨b, off + k * 6, none⟩ = some (.string l.piece) := hEr k _ hx 0 _ rfl
   have d1 : wr.cell? ⟨b, off + k * 6 + 1, none⟩ = some (.int .i64 l.no) := hEr k _ hx 1 _ rfl
   have d2 : wr.cell? ⟨b, off + k * 6 + 2, none⟩ = some (.string l.singer) := hEr k _ hx 2 _ rfl
   have d3 : wr.cell? ⟨b, off + k * 6 + 3, none⟩ = some (.int .i64 l.since) := hEr k _ hx 3 _ rfl
   have d4 : wr.cell? ⟨b, off + k * 6 + 4, none⟩ = some (.int .i64 l.till) := hEr k _ hx 4 _ rfl
   have d5 : wr.cell? ⟨b, off + k * 6 + 5, none⟩ = some (.bool l.lost) := hEr k _ hx 5 _ rfl
   have hkI : (k : Int) < (X.length : Int) := by omega
   have hsn := sumD_snoc T r t (X.take k) l s
   rw [← take_snocL hx] at hsn
   have hlT := hLT.out l (List.mem_of_getElem? hx)
   have hob := hobd.out l hlT
   have hsb := hsbd.out k
   have hE1 : Ext wra (wr.alloc (.cells #[.string l.piece, .int .i64 l.no, .string l.singer, .int .i64 l.since, .int .i64 l.till, .bool l.lost] 132)) := he.alloc _
   have hoc : Calls Tryz.prog 82 #[.pointer (some ⟨bb, 0, none⟩), .agg #[.string l.piece, .int .i64 l.no, .string l.singer, .int .i64 l.since, .int .i64 l.till, .bool l.lost], .int .i64 t] (wr.alloc (.cells #[.string l.piece, .int .i64 l.no, .string l.singer, .int .i64 l.since, .int .i64 l.till, .bool l.lost] 132)) fun e w' => e = .returned (.int .i64 (owedF T r t l)) ∧ Ext (wr.alloc (.cells #[.string l.piece, .int .i64 l.no, .string l.singer, .int .i64 l.since, .int .i64 l.till, .bool l.lost] 132)) w' := how2.out _ hE1 l hlT
   replace hx := Lib.hid hx; replace hEl := Lib.hid hEl; replace hE1 := Lib.hid hE1; clear hEr
   generalize sumD T r t (X.take k) s = sm at *
   generalize owedF T r t l = ov at *
   cases hq : (l.singer.toList == s.toList)
   ·rw [if_neg (fun e => by rw [bytesB.2 e] at hq; cases hq), Int.add_zero] at hsn
    replace hsn := Lib.hid hsn; clear hoc
    go_wp2
    go_roundw
    case rel => exact ⟨k + 1, by go_num, by omega, by rw [hsn.out], hE1.out⟩
    case measure => simp [intOf]; omega
   ·rw [if_pos (bytesB.1 hq)] at hsn
    replace hsn := Lib.hid hsn
    have hw : IntKind.i64.wrap (sm + ov) = sm + ov := IntWalk.i64_in _ (by omega)
    replace hoc := Lib.hid hoc
    go_wp2_with (go_at_call 82; (with_reducible refine Calls.mono hoc.out ?_); rintro e w6 ⟨rfl, hb6⟩)
    go_roundw
    case rel => exact ⟨k + 1, by go_num, by omega, by rw [hsn.out], hE1.out.trans hb6⟩
    case measure => simp [intOf]; omega
  ·obtain rfl : X.length = k := by omega
   rw [List.take_length]
   go_wp2
   go_ret2
   exact ⟨rfl, hEw2.trans he⟩
end Go.Proofs.YtkjhbofbcmelgaaGreatDoor
