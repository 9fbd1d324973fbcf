/- A moment at which a library is asked; a singer's name and a moment, as the document judges them. Conditions: sizes. (Printed by gen_lawcf.py.) The document's library lends a copy: the walk of lend. Conditions: sizes. -/
import Derived.Test.YtkjhbofbcmelgaaGreatDoorFzJ4
import Derived.Test.YtkjhbofbcmelgaaGreatDoorFzJ6
import Derived.Test.YtkjhbofbcmelgaaGreatDoorFzCfD
import Derived.Test.YtkjhbofbcmelgaaGreatDoorFzJ34
import Derived.Test.YtkjhbofbcmelgaaGreatDoorFzLbE
import Derived.Test.YtkjhbofbcmelgaaGreatDoorFzJ25
set_option linter.unusedSimpArgs false
set_option linter.unusedVariables false
namespace Go.Proofs.YtkjhbofbcmelgaaGreatDoor
open Go Go.RowKit
set_option maxRecDepth 100000 in
set_option maxHeartbeats 3200000 in
theorem lendTime_any (s k : Nat) (w : World) (hk : k ≤ 900000) (h : Str w s k) :
 Calls Tryz.prog 8 #[.pointer (some ⟨s, 0, none⟩)] w fun e w' => ∃ t : Int, -1 ≤ t ∧ t ≤ 345686400000 ∧ e = .returned (.int .i64 t) ∧ Str w' s (k + 2) ∧ ExtS s w w' := by
 have hl := h.lt
 replace h := Lib.hid h
 go_enter Tryz.func8, Tryz.ntmps8
 go_wp2_with (first
  | (go_at_call 10; have l1 := hS1.lt; refine (pick_in s (k + 1) _ _ 7 [0,5,86400000,259200001,1036800000,3456000000, y] (-1) 345686400000 _ (by omega) (by simp) (by simp) (by exact hS1.ext (Ext.alloc (Ext.refl _) _)) (by exact Nat.ne_of_gt l1) (by exact Blk.new' rfl) (by intro z hz; simp at hz; omega)).mono ?_; rintro e w2 ⟨t, ht1, ht2, rfl, hS2, hE2⟩)
  | (go_at_call 10; refine (pick_in s k _ _ 2 [-1,345686400000] (-1) 345686400000 _ (by omega) (by simp) (by simp) (by exact h.out.ext (Ext.alloc (Ext.refl _) _)) (by exact Nat.ne_of_gt hl) (by exact Blk.new' rfl) (by intro z hz; simp at hz; omega)).mono ?_; rintro e w1 ⟨y, hy1, hy2, rfl, hS1, hE1⟩))
 go_ret
 exact ⟨t, ht1, ht2, rfl, hS2, (((ExtS.refl _ w).alloc _).trans hE1).trans (((ExtS.refl _ w1).alloc _).trans hE2)⟩
set_option maxRecDepth 100000 in
theorem keyDoc_any (s : ByteArray) (w : World) (hs : s.size ≤ 1000000) :
 Calls Tryz.prog 20 #[.string s] w fun e w' => e = .returned (.int .i64 (keyE s)) ∧ Ext w w' := by
 have hk := key_any s
 unfold keyE
 generalize keyB s = v at *
 replace hk := Lib.hid hk
 cases v
 all_goals
  go_enter Tryz.func20, Tryz.ntmps20
  go_wp2_with (go_at_call 76; (with_reducible refine Calls.mono (hk.out _ (by omega)) ?_); rintro e w1 ⟨rfl, hb1⟩)
  go_ret
  exact ⟨rfl, hb1⟩
theorem momDoc_any (t : Int) (w : World) : Calls Tryz.prog 19 #[.int .i64 t] w fun e w' => e = .returned (.int .i64 (momF t)) ∧ Ext w w' := sMomF_is rfl w
end Go.Proofs.YtkjhbofbcmelgaaGreatDoor
namespace Go.Proofs.YtkjhbofbcmelgaaGreatDoor
open Go Go.RowKit
set_option maxRecDepth 100000 in
set_option maxHeartbeats 6400000 in
theorem lendDoc_any {base : Nat} {w : World} {bb ms mr q nr : Nat} {tp : Option Addr} {tn tc : Nat} {r : LendR} {L : LibS} {F : Int → Option Int} (h : ShM base w bb ms mr q nr tp tn tc r L F) (x : SlipV) (hx : OkX x) (hq : q ≤ 1000000) (hl : L.loans.length ≤ 1000) (hbs : base ≤ w.heap.size) :
 Calls Tryz.prog 175 #[.pointer (some ⟨bb, 0, none⟩), .agg #[.string x.piece, .int .i64 x.copy], .agg #[.string x.by_, .int .i64 x.no, .int .i64 x.at_, .int .i64 x.kind, .string x.piece, .int .i64 x.copy, .string x.singer]] w fun e w' => e = .returned (.int .i64 (lendE r L x)) ∧
  ShM base w' bb ms mr (q + 1) nr tp tn tc r (if lendE r L x = 0 then ⟨setF L.st (x.piece, x.copy) outW, L.last, L.loans ++ [⟨x.piece, x.copy, x.singer, x.at_, -1, false⟩], L.has⟩ else L) F ∧ KeepL base bb ms mr mr w w' := by
 have hE1 : Ext w ((w.alloc (.cells #[.string x.piece, .int .i64 x.copy] 146)).alloc (.cells #[.string x.by_, .int .i64 x.no, .int .i64 x.at_, .int .i64 x.kind, .string x.piece, .int .i64 x.copy, .string x.singer] 101)) := ((Ext.refl w).alloc _).alloc _
 have hk1 : Blk ((w.alloc (.cells #[.string x.piece, .int .i64 x.copy] 146)).alloc (.cells #[.string x.by_, .int .i64 x.no, .int .i64 x.at_, .int .i64 x.kind, .string x.piece, .int .i64 x.copy, .string x.singer] 101)) w.heap.size 146 #[.string x.piece, .int .i64 x.copy] := (Blk.new' rfl).alloc _
 have hx1 : Blk ((w.alloc (.cells #[.string x.piece, .int .i64 x.copy] 146)).alloc (.cells #[.string x.by_, .int .i64 x.no, .int .i64 x.at_, .int .i64 x.kind, .string x.piece, .int .i64 x.copy, .string x.singer] 101)) (w.heap.size + 1) 101 #[.string x.by_, .int .i64 x.no, .int .i64 x.at_, .int .i64 x.kind, .string x.piece, .int .i64 x.copy, .string x.singer] := Blk.new' (by simp)
 have hwi := fun u (hu : Ext w u) => with_any (h.ext hu) hl x.singer x.piece
 have hst := fun u (hu : Ext w u) => shState_any (h.ext hu) x.piece x.copy hx.k
 have hA0 := KeepL.refl (base := base) (bb := bb) (ms := ms) (ml := mr) (mh := mr) w
 obtain ⟨E, hE⟩ : ∃ E, E = lendE r L x := ⟨_, rfl⟩
 rw [← hE]
 have hD : lendE r L x = if L.at_ (x.piece, x.copy) ≠ inW then 11 else if ownB L.loans x.singer x.piece = true then 6 else if r.each ≤ ((openOf L.loans x.singer).length : Int) then 12 else 0 := rfl
 rw [← hE] at hD
 clear hE
 obtain ⟨L9, hL9⟩ : ∃ L9, L9 = (if E = 0 then (⟨setF L.st (x.piece, x.copy) outW, L.last, L.loans ++ [⟨x.piece, x.copy, x.singer, x.at_, -1, false⟩], L.has⟩ : LibS) else L) := ⟨_, rfl⟩
 rw [← hL9]
 replace hL9 := Lib.hid hL9
 generalize ownB L.loans x.singer x.piece = ob at *
 generalize (openOf L.loans x.singer).length = m at *
 replace hD := Lib.hid hD; replace hwi := Lib.hid hwi; replace hst := Lib.hid hst; replace h := Lib.hid h; replace hE1 := Lib.hid hE1; replace hk1 := Lib.hid hk1; replace hx1 := Lib.hid hx1
 go_enter Tryz.func175, Tryz.ntmps175
 go_upto_region 2 with (go_at_call 232; (with_reducible refine Calls.mono (hwi.out _ hE1.out) ?_); rintro e w1 ⟨rfl, hb1⟩)
 have hE2 := hE1.out.trans hb1
 have hk2 := hk1.out.ext hb1
 have hx2 := hx1.out.ext hb1
 have c0 := hk2.cell 0
 have c1 := hk2.cell 1
 have lk := hk2.lt
 replace hk2 := Lib.hid hk2; replace hx2 := Lib.hid hx2; clear hwi
 have hil : inW.toList = [105,110] := by rw [Lib.toList_data]; rfl
 cases hs : ((L.at_ (x.piece, x.copy)).toList == [105,110])
 ·have h11 : E = 11 := by rw [hD.out, if_pos (fun e => by rw [e, hil] at hs; exact absurd hs (by decide))]
  subst h11
  go_wp2_with (go_at_call 78; (with_reducible refine Calls.mono (hst.out _ hE2) ?_); rintro e w2 ⟨rfl, hb2⟩)
  go_ret
  exact ⟨rfl, by rw [hL9.out]; exact (h.out.ext (hE2.trans hb2)).more (by omega), hA0.ext (hE2.trans hb2)⟩
 ·have hin : L.at_ (x.piece, x.copy) = inW := bytesB.1 (by rw [hil]; exact hs)
  have hD2 := hD.out
  rw [if_neg (fun h => h hin)] at hD2
  replace hD2 := Lib.hid hD2
  have c4 : w1.cell? ⟨bb, 4, none⟩ = some (.int .i64 r.each) := by
   obtain ⟨⟨lv, hB, -⟩, -⟩ := h.out.ext hE2
   exact hB.cell 4
  have lb : bb < w1.heap.size := by
   obtain ⟨⟨lv, hB, -⟩, -⟩ := h.out.ext hE2
   exact hB.lt
  clear hin hD
  cases ob
  ·by_cases hfull : r.each ≤ (m : Int)
   ·have h12 : E = 12 := by rw [hD2.out, if_neg (by decide), if_pos hfull]
    subst h12
    clear hD2
    go_wp2_with (go_at_call 78; (with_reducible refine Calls.mono (hst.out _ hE2) ?_); rintro e w2 ⟨rfl, hb2⟩; have y4 := (hb2.walk.1 bb 4 lb).trans c4)
    go_ret
    exact ⟨rfl, by rw [hL9.out]; exact (h.out.ext (hE2.trans hb2)).more (by omega), hA0.ext (hE2.trans hb2)⟩
   ·have h0 : E = 0 := by rw [hD2.out, if_neg (by decide), if_neg hfull]
    subst h0
    clear hD2
    go_upto_region 8 with (go_at_call 78; (with_reducible refine Calls.mono (hst.out _ hE2) ?_); rintro e w2 ⟨rfl, hb2⟩; have y4 := (hb2.walk.1 bb 4 lb).trans c4)
    have hE3 := hE2.trans hb2
    obtain ⟨lv, hrow, hm⟩ := (h.out.ext hE3).parts
    obtain ⟨pl, cl, rfl, hSl⟩ := slc_of_own loanC_len hrow.2 (by decide) (by omega)
    have hk3 := hk2.out.ext hb2
    have hx3 := hx2.out.ext hb2
    have hA3 := hA0.ext hE3
    generalize hgk : w.heap.size = gk at *
    generalize hgx : gk + 1 = gx at *
    have lb3 := hrow.1.lt
    have lk3 := hk3.lt
    have d5 := hrow.1.cell 5
    have k0 := hk3.cell 0
    have k1 := hk3.cell 1
    have hbs3 : base ≤ w2.heap.size := by have := hE3.size; omega
    unfold shC at d5
    replace hgk := Lib.hid hgk; replace hgx := Lib.hid hgx; clear hSl hst hs c4 lb y4 c0 c1 lk h hE1 hk1 hx1 hE2 hk2 hx2 hb1 hb2 hE3 hA0
    refine wp_region_facts [] [([],false,false),([0],false,false),([0,1],false,false),([0,1,2],false,false),([],false,false)] (Ext) Ext (fun _ => True) (by kernel_rfl) (by kernel_rfl) Ext.refl (fun _ _ _ => Ext.trans) (fun _ _ h => h) (fun _ _ h => h.size) (fun _ _ h _ => h) trivial ?_
    dsimp only [List.length_cons, List.length_nil, List.drop_succ_cons, List.drop_zero, List.drop_nil]
    refine fq 0 rfl rfl rfl cK rfl rfl ?_; apply Exists.intro; constructor
    ·intro sv w' hw' hfa
     refine ⟨rfl, ?_⟩; simp only [putsL]; change qT _; simp only [qT, Act.put, sIA, sCS, sCZ]; simp [go_sem, quietTo, Ext.refl]; all_goals rfl
    refine fq 1 rfl rfl rfl cK rfl rfl ?_; apply Exists.intro; constructor
    ·rintro sv w' hw' ⟨(f0 : sv 0 = _), -⟩; (try dsimp only at f0)
     refine ⟨rfl, ?_⟩; simp only [putsL]; change qT (pT _ 33 (sv 0)); simp only [qT, pT, Act.put, sIA, sCS, sCZ]; simp [go_sem, quietTo, Ext.refl, f0]; all_goals rfl
    refine fq 2 rfl rfl rfl cK rfl rfl ?_; apply Exists.intro; constructor
    ·rintro sv w' hw' ⟨_, (f1 : sv 1 = _), -⟩; (try dsimp only at f1)
     refine ⟨rfl, ?_⟩; simp only [putsL]; change qT (pT (pT _ 34 (sv 1)) 33 (sv 0)); simp only [qT, pT, Act.put, sIA, sCS, sCZ]; simp [go_sem, quietTo, Ext.refl, f1]; all_goals rfl
    refine fq 3 rfl rfl rfl cK rfl rfl ?_; apply Exists.intro; constructor
    ·rintro sv w' hw' ⟨_, _, (f2 : sv 2 = _), -⟩; (try dsimp only at f2)
     obtain ⟨hc, hf, hz9⟩ := ((Ext.refl w2).drew.trans hw').walk; have y5 := (hc bb 5 lb3).trans d5; have z0 := (hc gk 0 lk3).trans k0; have z1 := (hc gk 1 lk3).trans k1
     refine ⟨rfl, ?_⟩; simp only [putsL]; change qT (pT (pT (pT _ 35 (sv 2)) 34 (sv 1)) 33 (sv 0)); simp only [qT, pT, Act.put, sIA, sCS, sCZ]; simp [go_sem, quietTo, Ext.refl, ↓IntWalk.iteOmega, f2, y5]; (all_goals try simp (disch := omega) only [IntWalk.i64_in]); all_goals rfl
    refine fq 4 rfl rfl rfl cK rfl rfl ?_; apply Exists.intro; constructor
    ·intro sv w' hw' hfa
     obtain ⟨hc, hf, hz9⟩ := ((Ext.refl w2).drew.trans hw').walk; have y5 := (hc bb 5 lb3).trans d5; have z0 := (hc gk 0 lk3).trans k0; have z1 := (hc gk 1 lk3).trans k1
     refine ⟨rfl, ?_⟩; simp only [putsL]; change qT _; simp only [qT, Act.put, sIA, sCS, sCZ]; simp [go_sem, quietTo, Ext.refl, ↓IntWalk.iteOmega, z0, z1]; (all_goals try simp (disch := omega) only [IntWalk.i64_in]); all_goals rfl
    refine fac_nil fun xa wra hera hfra hcra holda hapa => ?_
    obtain ⟨(f0 : xa 0 = _), (f1 : xa 1 = _), (f2 : xa 2 = _), (f3 : xa 3 = _), (f4 : xa 4 = _), -⟩ := hfra; (try dsimp only at f0 f1 f2 f3 f4)
    change wpList _ _ _ _ (pT (pT (pT (pT (pT _ 33 (xa 0)) 34 (xa 1)) 35 (xa 2)) 36 (xa 3)) 37 (xa 4)) _
    simp only [putsL, Nat.reduceAdd, List.drop_succ_cons, List.drop_zero, List.drop_nil, pT, Act.put, sIA, sCS, sCZ]
    try simp only [f0, f1, f2, f3, f4]
    clear f0 f1 f2 f3 f4; clear holda hapa
    have hka := (Ext.refl w2).drew.trans hera
    obtain ⟨w8, hrun8, hm8, hg8⟩ := (hm.ext hka).put (k := (x.piece, x.copy)) hx.k (by omega) outW
    unfold snV at hrun8
    have hrow8 := (hrow.ext hka).turned hg8 (hm.ext hka).st.isMap
    have hk8 : Blk w8 gk 146 #[.string x.piece, .int .i64 x.copy] := (hg8.block gk (hk3.ext hka).lt fun e => by cases e; exact blk_mapK_ne (hm.ext hka).st (hk3.ext hka) rfl).trans (hk3.ext hka)
    have hx8 : Blk w8 gx 101 #[.string x.by_, .int .i64 x.no, .int .i64 x.at_, .int .i64 x.kind, .string x.piece, .int .i64 x.copy, .string x.singer] := (hg8.block gx (hx3.ext hka).lt fun e => by cases e; exact blk_mapK_ne (hm.ext hka).st (hx3.ext hka) rfl).trans (hx3.ext hka)
    have hA8 : KeepL base bb ms mr mr w w8 := (hA3.ext hka).grown hg8 (.inr (.inl rfl))
    have hbs8 : base ≤ w8.heap.size := by have := hka.size; have := hg8.size; omega
    replace hA8 := Lib.hid hA8; replace hrun8 := Lib.hid hrun8; clear d5 k0 k1 hrow hk3 hx3 hA3 hm hg8 lb3 lk3
    go_upto_region 9 with (refine wpList_putM rfl _ _ _ 140 rfl (.map (some ms)) (.agg #[.string x.piece, .int .i64 x.copy]) (.string outW) rfl rfl rfl w8 hrun8.out ?_)
    clear hrun8 hka hera hcra xa
    have lb9 := hrow8.1.lt
    have lk9 := hk8.lt
    have lx9 := hx8.lt
    have d6 := hrow8.1.cell 6
    have k0 := hk8.cell 0
    have k1 := hk8.cell 1
    have e2 := hx8.cell 2
    have e6 := hx8.cell 6
    unfold shC at d6
    refine wp_region_facts [0] [([],false,false),([],false,false),([1],false,false),([1,2],false,false),([1,2,3],false,false),([],false,false),([],false,false),([6],false,false),([],false,false),([8],false,false),([5,6,7,8,9],false,false),([5,6,7,8,9,10], false, true)] (Ext) Ext (fun _ => True) (by kernel_rfl) (by kernel_rfl) Ext.refl (fun _ _ _ => Ext.trans) (fun _ _ h => h) (fun _ _ h => h.size) (fun _ _ h _ => h) trivial ?_
    dsimp only [List.length_cons, List.length_nil, List.drop_succ_cons, List.drop_zero, List.drop_nil]
    refine fac_late 0 rfl rfl Ext.refl cK rfl rfl (fun _ _ _ _ h => h) ?_; apply Exists.intro; constructor
    ·intro sv w' hw' hfa
     refine ⟨rfl, fun w2 => ?_⟩
     simp only [putsL]
     change pureTo _ _ (Sem.run _ (execOp (Act.eval _) _) _)
     try simp only [Act.put, sIA, sCS, sCZ]
     simp [go_sem, pureTo]
     (all_goals try simp (disch := omega) only [IntWalk.i64_in]); all_goals rfl
    refine fq 1 rfl rfl rfl cK rfl rfl ?_; apply Exists.intro; constructor
    ·intro sv w' hw' hfa
     refine ⟨rfl, ?_⟩; simp only [putsL]; change qT _; simp only [qT, Act.put, sIA, sCS, sCZ]; simp [go_sem, quietTo, Ext.refl]; all_goals rfl
    refine fq 2 rfl rfl rfl cK rfl rfl ?_; apply Exists.intro; constructor
    ·rintro sv w' hw' ⟨(f1 : sv 1 = _), -⟩; (try dsimp only at f1)
     refine ⟨rfl, ?_⟩; simp only [putsL]; change qT (pT _ 39 (sv 1)); simp only [qT, pT, Act.put, sIA, sCS, sCZ]; simp [go_sem, quietTo, Ext.refl, f1]; all_goals rfl
    refine fq 3 rfl rfl rfl cK rfl rfl ?_; apply Exists.intro; constructor
    ·rintro sv w' hw' ⟨_, (f2 : sv 2 = _), -⟩; (try dsimp only at f2)
     refine ⟨rfl, ?_⟩; simp only [putsL]; change qT (pT (pT _ 40 (sv 2)) 39 (sv 1)); simp only [qT, pT, Act.put, sIA, sCS, sCZ]; simp [go_sem, quietTo, Ext.refl, f2]; all_goals rfl
    refine fq 4 rfl rfl rfl cK rfl rfl ?_; apply Exists.intro; constructor
    ·rintro sv w' hw' ⟨_, _, (f3 : sv 3 = _), -⟩; (try dsimp only at f3)
     obtain ⟨hc, hf, hz9⟩ := ((Ext.refl w8).drew.trans hw').walk; have y6 := (hc bb 6 lb9).trans d6; have z0 := (hc gk 0 lk9).trans k0; have z1 := (hc gk 1 lk9).trans k1; have v2 := (hc gx 2 lx9).trans e2; have v6 := (hc gx 6 lx9).trans e6
     refine ⟨rfl, ?_⟩; simp only [putsL]; change qT (pT (pT (pT _ 41 (sv 3)) 40 (sv 2)) 39 (sv 1)); simp only [qT, pT, Act.put, sIA, sCS, sCZ]; simp [go_sem, quietTo, Ext.refl, ↓IntWalk.iteOmega, f3, y6]; (all_goals try simp (disch := omega) only [IntWalk.i64_in]); all_goals rfl
    refine fq 5 rfl rfl rfl cK rfl rfl ?_; apply Exists.intro; constructor
    ·intro sv w' hw' hfa
     obtain ⟨hc, hf, hz9⟩ := ((Ext.refl w8).drew.trans hw').walk; have y6 := (hc bb 6 lb9).trans d6; have z0 := (hc gk 0 lk9).trans k0; have z1 := (hc gk 1 lk9).trans k1; have v2 := (hc gx 2 lx9).trans e2; have v6 := (hc gx 6 lx9).trans e6
     refine ⟨rfl, ?_⟩; simp only [putsL]; change qT _; simp only [qT, Act.put, sIA, sCS, sCZ]; simp [go_sem, quietTo, Ext.refl, ↓IntWalk.iteOmega, z0, z1]; (all_goals try simp (disch := omega) only [IntWalk.i64_in]); all_goals rfl
    refine fq 6 rfl rfl rfl cK rfl rfl ?_; apply Exists.intro; constructor
    ·intro sv w' hw' hfa
     refine ⟨rfl, ?_⟩; simp only [putsL]; change qT _; simp only [qT, Act.put, sIA, sCS, sCZ]; simp [go_sem, quietTo, Ext.refl]; all_goals rfl
    refine fq 7 rfl rfl rfl cK rfl rfl ?_; apply Exists.intro; constructor
    ·rintro sv w' hw' ⟨(f6 : sv 6 = _), -⟩; (try dsimp only at f6)
     obtain ⟨hc, hf, hz9⟩ := ((Ext.refl w8).drew.trans hw').walk; have y6 := (hc bb 6 lb9).trans d6; have z0 := (hc gk 0 lk9).trans k0; have z1 := (hc gk 1 lk9).trans k1; have v2 := (hc gx 2 lx9).trans e2; have v6 := (hc gx 6 lx9).trans e6
     refine ⟨rfl, ?_⟩; simp only [putsL]; change qT (pT _ 44 (sv 6)); simp only [qT, pT, Act.put, sIA, sCS, sCZ]; simp [go_sem, quietTo, Ext.refl, ↓IntWalk.iteOmega, f6, v6]; (all_goals try simp (disch := omega) only [IntWalk.i64_in]); all_goals rfl
    refine fq 8 rfl rfl rfl cK rfl rfl ?_; apply Exists.intro; constructor
    ·intro sv w' hw' hfa
     refine ⟨rfl, ?_⟩; simp only [putsL]; change qT _; simp only [qT, Act.put, sIA, sCS, sCZ]; simp [go_sem, quietTo, Ext.refl]; all_goals rfl
    refine fq 9 rfl rfl rfl cK rfl rfl ?_; apply Exists.intro; constructor
    ·rintro sv w' hw' ⟨(f8 : sv 8 = _), -⟩; (try dsimp only at f8)
     obtain ⟨hc, hf, hz9⟩ := ((Ext.refl w8).drew.trans hw').walk; have y6 := (hc bb 6 lb9).trans d6; have z0 := (hc gk 0 lk9).trans k0; have z1 := (hc gk 1 lk9).trans k1; have v2 := (hc gx 2 lx9).trans e2; have v6 := (hc gx 6 lx9).trans e6
     refine ⟨rfl, ?_⟩; simp only [putsL]; change qT (pT _ 46 (sv 8)); simp only [qT, pT, Act.put, sIA, sCS, sCZ]; simp [go_sem, quietTo, Ext.refl, ↓IntWalk.iteOmega, f8, v2]; (all_goals try simp (disch := omega) only [IntWalk.i64_in]); all_goals rfl
    refine fq 10 rfl rfl rfl cK rfl rfl ?_; apply Exists.intro; constructor
    ·rintro sv w' hw' ⟨(f5 : sv 5 = _), _, (f7 : sv 7 = _), _, (f9 : sv 9 = _), -⟩; (try dsimp only at f5 f7 f9)
     refine ⟨rfl, ?_⟩; simp only [putsL]; change qT (pT (pT (pT (pT (pT _ 47 (sv 9)) 46 (sv 8)) 45 (sv 7)) 44 (sv 6)) 43 (sv 5)); simp only [qT, pT, Act.put, sIA, sCS, sCZ]; simp [go_sem, quietTo, Ext.refl, f5, f7, f9]; all_goals rfl
    refine fac_row 11 rfl rfl rfl cK (fun _ _ h => h.size) (fun _ _ _ _ _ he _ hb => hb.ext he) ?_
    apply Exists.intro
    apply Exists.intro
    apply Exists.intro
    apply Exists.intro
    refine ⟨fun sv w' hw' hfa => ?_, ?_⟩
    ·obtain ⟨_, _, _, _, _, (f10 : sv 10 = _), -⟩ := hfa; (try dsimp only at f10)
     refine ⟨rfl, ?_⟩; simp only [putsL]; change rowTo _ _ _ _ _ (Sem.run _ (execOp (Act.eval (pT (pT (pT (pT (pT (pT _ 48 (sv 10)) 47 (sv 9)) 46 (sv 8)) 45 (sv 7)) 44 (sv 6)) 43 (sv 5))) _) _); (try simp only [pT, Act.put, sIA, sCS, sCZ]); simp [go_sem, rowTo, Ext.refl, f10]; (all_goals try simp (disch := omega) only [IntWalk.i64_in]); all_goals first | rfl | exact ⟨rfl, rfl⟩ | exact ⟨⟨rfl, rfl⟩, rfl⟩
    refine fac_nil fun xe wre here hfre hcre holde hape => ?_
    obtain ⟨(f0 : xe 0 = _), (f1 : xe 1 = _), (f2 : xe 2 = _), (f3 : xe 3 = _), (f4 : xe 4 = _), (f5 : xe 5 = _), (f6 : xe 6 = _), (f7 : xe 7 = _), (f8 : xe 8 = _), (f9 : xe 9 = _), (f10 : xe 10 = _), f11, -⟩ := hfre; (try dsimp only at f0 f1 f2 f3 f4 f5 f6 f7 f8 f9 f10)
    obtain ⟨g11, f11, l11, b11⟩ := f11; replace f11 : xe 11 = _ := f11; obtain ⟨p11, q11⟩ := b11.walk
    change wpList _ _ _ _ (pT (pT (pT (pT (pT (pT (pT (pT (pT (pT (pT (pT _ 38 (xe 0)) 39 (xe 1)) 40 (xe 2)) 41 (xe 3)) 42 (xe 4)) 43 (xe 5)) 44 (xe 6)) 45 (xe 7)) 46 (xe 8)) 47 (xe 9)) 48 (xe 10)) 49 (xe 11)) _
    simp only [putsL, Nat.reduceAdd, List.drop_succ_cons, List.drop_zero, List.drop_nil, pT, Act.put, sIA, sCS, sCZ]
    try simp only [f0, f1, f2, f3, f4, f5, f6, f7, f8, f9, f10, f11]
    clear f0 f1 f2 f3 f4 f5 f6 f7 f8 f9 f10; clear holde hape
    have hke := (Ext.refl w8).drew.trans here
    have hrowe := hrow8.ext hke
    have hme := hm8.ext hke
    have hsz9 : base ≤ wre.heap.size := Nat.le_trans hbs8 hke.size
    clear d6 k0 k1 e2 e6 hrow8 hm8 hk8 hx8 lb9 lk9 lx9 hbs8
    go_wp2_with (at_builtin; go_loud (refine wp_app1 _ (.tmp 42) (.tmp 49) 141 148 6 64 _ rfl rfl Tryz.underlying141 shLoanInfo rfl (by decide) (by decide) base _ L.loans.length _ rfl hrowe.2 _ (loanC ⟨x.piece, x.copy, x.singer, x.at_, -1, false⟩) rfl rfl b11 (loanC_one _) (by omega) hsz9 ?_; intro v' wf hownf hgrowf hnn; obtain ⟨gf, cf, rfl, hbf, hncf⟩ := hownf.form (by omega); have hBf : Blk wf bb 143 (shC tp tn tc r ms mr (.slice pl L.loans.length cl)) := (hgrowf.block bb hrowe.1.lt fun e => own_no hrowe.2 hrowe.1 (by decide) e.symm).trans hrowe.1; have lbf := hBf.lt; have cbf := hBf.cell 6; have fbf := hBf.frozen 6; unfold shC at cbf; replace hBf := Lib.hid hBf))
    go_ret
    have hmf := (hme.kept hgrowf (NoMap.own hrowe.2)).kept (grown_set wf ⟨bb, 6, none⟩ (.slice (some ⟨gf, 0, none⟩) (L.loans.length + 1) cf)) (NoMap.blk hBf.out)
    exact ⟨rfl, by rw [hL9.out, if_pos trivial]; exact (hrowe.more hownf hgrowf).lib hmf, ((hA8.out.ext hke).app hrowe.2 hgrowf).set 6 _⟩
  ·have h6 : E = 6 := by rw [hD2.out, if_pos rfl]
   subst h6
   clear hD2
   go_wp2_with (go_at_call 78; (with_reducible refine Calls.mono (hst.out _ hE2) ?_); rintro e w2 ⟨rfl, hb2⟩; have y4 := (hb2.walk.1 bb 4 lb).trans c4)
   go_ret
   exact ⟨rfl, by rw [hL9.out]; exact (h.out.ext (hE2.trans hb2)).more (by omega), hA0.ext (hE2.trans hb2)⟩
end Go.Proofs.YtkjhbofbcmelgaaGreatDoor
