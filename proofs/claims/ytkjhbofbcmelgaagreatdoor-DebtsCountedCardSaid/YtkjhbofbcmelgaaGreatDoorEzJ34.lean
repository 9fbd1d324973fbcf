/- A moment at which a library is asked; a singer's name and a moment, as the document judges them. Conditions: sizes. (Printed by gen_lawcf.py.) The document's library lends a copy: the walk of lend. Conditions: sizes. The last loan of a copy, by the document's library: the walk of last. Conditions: sizes; the copy was lent. The last loan of a copy, for any world. Conditions: the copy was lent; sizes. -/
import Derived.Test.YtkjhbofbcmelgaaGreatDoorEzJ3
import Derived.Test.YtkjhbofbcmelgaaGreatDoorEzJ5
import Derived.Test.YtkjhbofbcmelgaaGreatDoorEzCfD
import Derived.Test.YtkjhbofbcmelgaaGreatDoorEzJ31
import Derived.Test.YtkjhbofbcmelgaaGreatDoorEzLbE
import Derived.Test.YtkjhbofbcmelgaaGreatDoorEzJ21
import Derived.Laws.StructEq
set_option linter.unusedSimpArgs false
set_option linter.unusedVariables false
namespace Go.Proofs.YtkjhbofbcmelgaaGreatDoor
open Go Go.RowKit
set_option maxRecDepth 100000 in
set_option maxHeartbeats 3200000 in
theorem lendTime_any (s k : Nat) (w : World) (hk : k ≤ 900000) (h : Str w s k) :
 Calls Tryz.prog 8 #[.pointer (some ⟨s, 0, none⟩)] w fun e w' => ∃ t : Int, -1 ≤ t ∧ t ≤ 345686400000 ∧ e = .returned (.int .i64 t) ∧ Str w' s (k + 2) ∧ ExtS s w w' := by
 have hl := h.lt
 replace h := Lib.hid h
 go_enter Tryz.func8, Tryz.ntmps8
 go_wp2_with (first
  | (go_at_call 10; have l1 := hS1.lt; refine (pick_in s (k + 1) _ _ 7 [0,5,86400000,259200001,1036800000,3456000000, y] (-1) 345686400000 _ (by omega) (by simp) (by simp) (by exact hS1.ext (Ext.alloc (Ext.refl _) _)) (by exact Nat.ne_of_gt l1) (by exact Blk.new' rfl) (by intro z hz; simp at hz; omega)).mono ?_; rintro e w2 ⟨t, ht1, ht2, rfl, hS2, hE2⟩)
  | (go_at_call 10; refine (pick_in s k _ _ 2 [-1,345686400000] (-1) 345686400000 _ (by omega) (by simp) (by simp) (by exact h.out.ext (Ext.alloc (Ext.refl _) _)) (by exact Nat.ne_of_gt hl) (by exact Blk.new' rfl) (by intro z hz; simp at hz; omega)).mono ?_; rintro e w1 ⟨y, hy1, hy2, rfl, hS1, hE1⟩))
 go_ret
 exact ⟨t, ht1, ht2, rfl, hS2, (((ExtS.refl _ w).alloc _).trans hE1).trans (((ExtS.refl _ w1).alloc _).trans hE2)⟩
set_option maxRecDepth 100000 in
theorem keyDoc_any (s : ByteArray) (w : World) (hs : s.size ≤ 1000000) :
 Calls Tryz.prog 20 #[.string s] w fun e w' => e = .returned (.int .i64 (keyE s)) ∧ Ext w w' := by
 have hk := key_any s
 unfold keyE
 generalize keyB s = v at *
 replace hk := Lib.hid hk
 cases v
 all_goals
  go_enter Tryz.func20, Tryz.ntmps20
  go_wp2_with (go_at_call 76; (with_reducible refine Calls.mono (hk.out _ (by omega)) ?_); rintro e w1 ⟨rfl, hb1⟩)
  go_ret
  exact ⟨rfl, hb1⟩
theorem momDoc_any (t : Int) (w : World) : Calls Tryz.prog 19 #[.int .i64 t] w fun e w' => e = .returned (.int .i64 (momF t)) ∧ Ext w w' := sMomF_is rfl w
end Go.Proofs.YtkjhbofbcmelgaaGreatDoor
namespace Go.Proofs.YtkjhbofbcmelgaaGreatDoor
open Go Go.RowKit
set_option maxRecDepth 100000 in
set_option maxHeartbeats 6400000 in
theorem lendDoc_any {base : Nat} {w : World} {bb ms mr q nr : Nat} {tp : Option Addr} {tn tc : Nat} {r : LendR} {L : LibS} {F : Int → Option Int} (h : ShM base w bb ms mr q nr tp tn tc r L F) (x : SlipV) (hx : OkX x) (hq : q ≤ 1000000) (hl : L.loans.length ≤ 1000) (hbs : base ≤ w.heap.size) :
 Calls Tryz.prog 175 #[.pointer (some ⟨bb, 0, none⟩), .agg #[.string x.piece, .int .i64 x.copy], .agg #[.string x.by_, .int .i64 x.no, .int .i64 x.at_, .int .i64 x.kind, .string x.piece, .int .i64 x.copy, .string x.singer]] w fun e w' => e = .returned (.int .i64 (lendE r L x)) ∧
  ShM base w' bb ms mr (q + 1) nr tp tn tc r (if lendE r L x = 0 then ⟨setF L.st (x.piece, x.copy) outW, L.last, L.loans ++ [⟨x.piece, x.copy, x.singer, x.at_, -1, false⟩], L.has⟩ else L) F ∧ KeepL base bb ms mr mr w w' := by
 have hE1 : Ext w ((w.alloc (.cells #[.string x.piece, .int .i64 x.copy] 146)).alloc (.cells #[.string x.by_, .int .i64 x.no, .int .i64 x.at_, .int .i64 x.kind, .string x.piece, .int .i64 x.copy, .string x.singer] 101)) := ((Ext.refl w).alloc _).alloc _
 have hk1 : Blk ((w.alloc (.cells #[.string x.piece, .int .i64 x.copy] 146)).alloc (.cells #[.string x.by_, .int .i64 x.no, .int .i64 x.at_, .int .i64 x.kind, .string x.piece, .int .i64 x.copy, .string x.singer] 101)) w.heap.size 146 #[.string x.piece, .int .i64 x.copy] := (Blk.new' rfl).alloc _
 have hx1 : Blk ((w.alloc (.cells #[.string x.piece, .int .i64 x.copy] 146)).alloc (.cells #[.string x.by_, .int .i64 x.no, .int .i64 x.at_, .int .i64 x.kind, .string x.piece, .int .i64 x.copy, .string x.singer] 101)) (w.heap.size + 1) 101 #[.string x.by_, .int .i64 x.no, .int .i64 x.at_, .int .i64 x.kind, .string x.piece, .int .i64 x.copy, .string x.singer] := Blk.new' (by simp)
 have hwi := fun u (hu : Ext w u) => with_any (h.ext hu) hl x.singer x.piece
 have hst := fun u (hu : Ext w u) => shState_any (h.ext hu) x.piece x.copy hx.k
 have hA0 := KeepL.refl (base := base) (bb := bb) (ms := ms) (ml := mr) (mh := mr) w
 obtain ⟨E, hE⟩ : ∃ E, E = lendE r L x := ⟨_, rfl⟩
 rw [← hE]
 have hD : lendE r L x = if L.at_ (x.piece, x.copy) ≠ inW then 11 else if ownB L.loans x.singer x.piece = true then 6 else if r.each ≤ ((openOf L.loans x.singer).length : Int) then 12 else 0 := rfl
 rw [← hE] at hD
 clear hE
 obtain ⟨L9, hL9⟩ : ∃ L9, L9 = (if E = 0 then (⟨setF L.st (x.piece, x.copy) outW, L.last, L.loans ++ [⟨x.piece, x.copy, x.singer, x.at_, -1, false⟩], L.has⟩ : LibS) else L) := ⟨_, rfl⟩
 rw [← hL9]
 replace hL9 := Lib.hid hL9
 generalize ownB L.loans x.singer x.piece = ob at *
 generalize (openOf L.loans x.singer).length = m at *
 replace hD := Lib.hid hD; replace hwi := Lib.hid hwi; replace hst := Lib.hid hst; replace h := Lib.hid h; replace hE1 := Lib.hid hE1; replace hk1 := Lib.hid hk1; replace hx1 := Lib.hid hx1
 go_enter Tryz.func175, Tryz.ntmps175
 go_upto_region 2 with (go_at_call 232; (with_reducible refine Calls.mono (hwi.out _ hE1.out) ?_); rintro e w1 ⟨rfl, hb1⟩)
 have hE2 := hE1.out.trans hb1
 have hk2 := hk1.out.ext hb1
 have hx2 := hx1.out.ext hb1
 have c0 := hk2.cell 0
 have c1 := hk2.cell 1
 have lk := hk2.lt
 replace hk2 := Lib.hid hk2; replace hx2 := Lib.hid hx2; clear hwi
 have hil : inW.toList = [105,110] := by rw [Lib.toList_data]; rfl
 cases hs : ((L.at_ (x.piece, x.copy)).toList == [105,110])
 ·have h11 : E = 11 := by rw [hD.out, if_pos (fun e => by rw [e, hil] at hs; exact absurd hs (by decide))]
  subst h11
  go_wp2_with (go_at_call 78; (with_reducible refine Calls.mono (hst.out _ hE2) ?_); rintro e w2 ⟨rfl, hb2⟩)
  go_ret
  exact ⟨rfl, by rw [hL9.out]; exact (h.out.ext (hE2.trans hb2)).more (by omega), hA0.ext (hE2.trans hb2)⟩
 ·have hin : L.at_ (x.piece, x.copy) = inW := bytesB.1 (by rw [hil]; exact hs)
  have hD2 := hD.out
  rw [if_neg (fun h => h hin)] at hD2
  replace hD2 := Lib.hid hD2
  have c4 : w1.cell? ⟨bb, 4, none⟩ = some (.int .i64 r.each) := by
   obtain ⟨⟨lv, hB, -⟩, -⟩ := h.out.ext hE2
   exact hB.cell 4
  have lb : bb < w1.heap.size := by
   obtain ⟨⟨lv, hB, -⟩, -⟩ := h.out.ext hE2
   exact hB.lt
  clear hin hD
  cases ob
  ·by_cases hfull : r.each ≤ (m : Int)
   ·have h12 : E = 12 := by rw [hD2.out, if_neg (by decide), if_pos hfull]
    subst h12
    clear hD2
    go_wp2_with (go_at_call 78; (with_reducible refine Calls.mono (hst.out _ hE2) ?_); rintro e w2 ⟨rfl, hb2⟩; have y4 := (hb2.walk.1 bb 4 lb).trans c4)
    go_ret
    exact ⟨rfl, by rw [hL9.out]; exact (h.out.ext (hE2.trans hb2)).more (by omega), hA0.ext (hE2.trans hb2)⟩
   ·have h0 : E = 0 := by rw [hD2.out, if_neg (by decide), if_neg hfull]
    subst h0
    clear hD2
    go_upto_region 8 with (go_at_call 78; (with_reducible refine Calls.mono (hst.out _ hE2) ?_); rintro e w2 ⟨rfl, hb2⟩; have y4 := (hb2.walk.1 bb 4 lb).trans c4)
    have hE3 := hE2.trans hb2
    obtain ⟨lv, hrow, hm⟩ := (h.out.ext hE3).parts
    obtain ⟨pl, cl, rfl, hSl⟩ := slc_of_own loanC_len hrow.2 (by decide) (by omega)
    have hk3 := hk2.out.ext hb2
    have hx3 := hx2.out.ext hb2
    have hA3 := hA0.ext hE3
    generalize hgk : w.heap.size = gk at *
    generalize hgx : gk + 1 = gx at *
    have lb3 := hrow.1.lt
    have lk3 := hk3.lt
    have d5 := hrow.1.cell 5
    have k0 := hk3.cell 0
    have k1 := hk3.cell 1
    have hbs3 : base ≤ w2.heap.size := by have := hE3.size; omega
    unfold shC at d5
    replace hgk := Lib.hid hgk; replace hgx := Lib.hid hgx; clear hSl hst hs c4 lb y4 c0 c1 lk h hE1 hk1 hx1 hE2 hk2 hx2 hb1 hb2 hE3 hA0
    refine wp_region_facts [] [([],false,false),([0],false,false),([0,1],false,false),([0,1,2],false,false),([],false,false)] (Ext) Ext (fun _ => True) (by kernel_rfl) (by kernel_rfl) Ext.refl (fun _ _ _ => Ext.trans) (fun _ _ h => h) (fun _ _ h => h.size) (fun _ _ h _ => h) trivial ?_
    dsimp only [List.length_cons, List.length_nil, List.drop_succ_cons, List.drop_zero, List.drop_nil]
    refine fq 0 rfl rfl rfl cK rfl rfl ?_; apply Exists.intro; constructor
    ·intro sv w' hw' hfa
     refine ⟨rfl, ?_⟩; simp only [putsL]; change qT _; simp only [qT, Act.put, sIA, sCS, sCZ]; simp [go_sem, quietTo, Ext.refl]; all_goals rfl
    refine fq 1 rfl rfl rfl cK rfl rfl ?_; apply Exists.intro; constructor
    ·rintro sv w' hw' ⟨(f0 : sv 0 = _), -⟩; (try dsimp only at f0)
     refine ⟨rfl, ?_⟩; simp only [putsL]; change qT (pT _ 33 (sv 0)); simp only [qT, pT, Act.put, sIA, sCS, sCZ]; simp [go_sem, quietTo, Ext.refl, f0]; all_goals rfl
    refine fq 2 rfl rfl rfl cK rfl rfl ?_; apply Exists.intro; constructor
    ·rintro sv w' hw' ⟨_, (f1 : sv 1 = _), -⟩; (try dsimp only at f1)
     refine ⟨rfl, ?_⟩; simp only [putsL]; change qT (pT (pT _ 34 (sv 1)) 33 (sv 0)); simp only [qT, pT, Act.put, sIA, sCS, sCZ]; simp [go_sem, quietTo, Ext.refl, f1]; all_goals rfl
    refine fq 3 rfl rfl rfl cK rfl rfl ?_; apply Exists.intro; constructor
    ·rintro sv w' hw' ⟨_, _, (f2 : sv 2 = _), -⟩; (try dsimp only at f2)
     obtain ⟨hc, hf, hz9⟩ := ((Ext.refl w2).drew.trans hw').walk; have y5 := (hc bb 5 lb3).trans d5
     refine ⟨rfl, ?_⟩; simp only [putsL]; change qT (pT (pT (pT _ 35 (sv 2)) 34 (sv 1)) 33 (sv 0)); simp only [qT, pT, Act.put, sIA, sCS, sCZ]; simp [go_sem, quietTo, Ext.refl, ↓IntWalk.iteOmega, f2, y5]; (all_goals try simp (disch := omega) only [IntWalk.i64_in]); all_goals rfl
    refine fq 4 rfl rfl rfl cK rfl rfl ?_; apply Exists.intro; constructor
    ·intro sv w' hw' hfa
     obtain ⟨hc, hf, hz9⟩ := ((Ext.refl w2).drew.trans hw').walk; have z0 := (hc gk 0 lk3).trans k0; have z1 := (hc gk 1 lk3).trans k1
     refine ⟨rfl, ?_⟩; simp only [putsL]; change qT _; simp only [qT, Act.put, sIA, sCS, sCZ]; simp [go_sem, quietTo, Ext.refl, ↓IntWalk.iteOmega, z0, z1]; (all_goals try simp (disch := omega) only [IntWalk.i64_in]); all_goals rfl
    refine fac_nil fun xa wra hera hfra hcra holda hapa => ?_
    obtain ⟨(f0 : xa 0 = _), (f1 : xa 1 = _), (f2 : xa 2 = _), (f3 : xa 3 = _), (f4 : xa 4 = _), -⟩ := hfra; (try dsimp only at f0 f1 f2 f3 f4)
    change wpList _ _ _ _ (pT (pT (pT (pT (pT _ 33 (xa 0)) 34 (xa 1)) 35 (xa 2)) 36 (xa 3)) 37 (xa 4)) _
    simp only [putsL, Nat.reduceAdd, List.drop_succ_cons, List.drop_zero, List.drop_nil, pT, Act.put, sIA, sCS, sCZ]
    try simp only [f0, f1, f2, f3, f4]
    clear f0 f1 f2 f3 f4; clear holda hapa
    have hka := (Ext.refl w2).drew.trans hera
    obtain ⟨w8, hrun8, hm8, hg8⟩ := (hm.ext hka).put (k := (x.piece, x.copy)) hx.k (by omega) outW
    unfold snV at hrun8
    have hrow8 := (hrow.ext hka).turned hg8 (hm.ext hka).st.isMap
    have hk8 : Blk w8 gk 146 #[.string x.piece, .int .i64 x.copy] := (hg8.block gk (hk3.ext hka).lt fun e => by cases e; exact blk_mapK_ne (hm.ext hka).st (hk3.ext hka) rfl).trans (hk3.ext hka)
    have hx8 : Blk w8 gx 101 #[.string x.by_, .int .i64 x.no, .int .i64 x.at_, .int .i64 x.kind, .string x.piece, .int .i64 x.copy, .string x.singer] := (hg8.block gx (hx3.ext hka).lt fun e => by cases e; exact blk_mapK_ne (hm.ext hka).st (hx3.ext hka) rfl).trans (hx3.ext hka)
    have hA8 : KeepL base bb ms mr mr w w8 := (hA3.ext hka).grown hg8 (.inr (.inl rfl))
    have hbs8 : base ≤ w8.heap.size := by have := hka.size; have := hg8.size; omega
    replace hA8 := Lib.hid hA8; replace hrun8 := Lib.hid hrun8; clear d5 k0 k1 hrow hk3 hx3 hA3 hm hg8 lb3 lk3
    go_upto_region 9 with (refine wpList_putM rfl _ _ _ 140 rfl (.map (some ms)) (.agg #[.string x.piece, .int .i64 x.copy]) (.string outW) rfl rfl rfl w8 hrun8.out ?_)
    clear hrun8 hka hera hcra xa
    have lb9 := hrow8.1.lt
    have lk9 := hk8.lt
    have lx9 := hx8.lt
    have d6 := hrow8.1.cell 6
    have k0 := hk8.cell 0
    have k1 := hk8.cell 1
    have e2 := hx8.cell 2
    have e6 := hx8.cell 6
    unfold shC at d6
    refine wp_region_facts [0] [([],false,false),([],false,false),([1],false,false),([1,2],false,false),([1,2,3],false,false),([],false,false),([],false,false),([6],false,false),([],false,false),([8],false,false),([5,6,7,8,9],false,false),([5,6,7,8,9,10], false, true)] (Ext) Ext (fun _ => True) (by kernel_rfl) (by kernel_rfl) Ext.refl (fun _ _ _ => Ext.trans) (fun _ _ h => h) (fun _ _ h => h.size) (fun _ _ h _ => h) trivial ?_
    dsimp only [List.length_cons, List.length_nil, List.drop_succ_cons, List.drop_zero, List.drop_nil]
    refine fac_late 0 rfl rfl Ext.refl cK rfl rfl (fun _ _ _ _ h => h) ?_; apply Exists.intro; constructor
    ·intro sv w' hw' hfa
     refine ⟨rfl, fun w2 => ?_⟩
     simp only [putsL]
     change pureTo _ _ (Sem.run _ (execOp (Act.eval _) _) _)
     try simp only [Act.put, sIA, sCS, sCZ]
     simp [go_sem, pureTo]
     (all_goals try simp (disch := omega) only [IntWalk.i64_in]); all_goals rfl
    refine fq 1 rfl rfl rfl cK rfl rfl ?_; apply Exists.intro; constructor
    ·intro sv w' hw' hfa
     refine ⟨rfl, ?_⟩; simp only [putsL]; change qT _; simp only [qT, Act.put, sIA, sCS, sCZ]; simp [go_sem, quietTo, Ext.refl]; all_goals rfl
    refine fq 2 rfl rfl rfl cK rfl rfl ?_; apply Exists.intro; constructor
    ·rintro sv w' hw' ⟨(f1 : sv 1 = _), -⟩; (try dsimp only at f1)
     refine ⟨rfl, ?_⟩; simp only [putsL]; change qT (pT _ 39 (sv 1)); simp only [qT, pT, Act.put, sIA, sCS, sCZ]; simp [go_sem, quietTo, Ext.refl, f1]; all_goals rfl
    refine fq 3 rfl rfl rfl cK rfl rfl ?_; apply Exists.intro; constructor
    ·rintro sv w' hw' ⟨_, (f2 : sv 2 = _), -⟩; (try dsimp only at f2)
     refine ⟨rfl, ?_⟩; simp only [putsL]; change qT (pT (pT _ 40 (sv 2)) 39 (sv 1)); simp only [qT, pT, Act.put, sIA, sCS, sCZ]; simp [go_sem, quietTo, Ext.refl, f2]; all_goals rfl
    refine fq 4 rfl rfl rfl cK rfl rfl ?_; apply Exists.intro; constructor
    ·rintro sv w' hw' ⟨_, _, (f3 : sv 3 = _), -⟩; (try dsimp only at f3)
     obtain ⟨hc, hf, hz9⟩ := ((Ext.refl w8).drew.trans hw').walk; have y6 := (hc bb 6 lb9).trans d6
     refine ⟨rfl, ?_⟩; simp only [putsL]; change qT (pT (pT (pT _ 41 (sv 3)) 40 (sv 2)) 39 (sv 1)); simp only [qT, pT, Act.put, sIA, sCS, sCZ]; simp [go_sem, quietTo, Ext.refl, ↓IntWalk.iteOmega, f3, y6]; (all_goals try simp (disch := omega) only [IntWalk.i64_in]); all_goals rfl
    refine fq 5 rfl rfl rfl cK rfl rfl ?_; apply Exists.intro; constructor
    ·intro sv w' hw' hfa
     obtain ⟨hc, hf, hz9⟩ := ((Ext.refl w8).drew.trans hw').walk; have z0 := (hc gk 0 lk9).trans k0; have z1 := (hc gk 1 lk9).trans k1
     refine ⟨rfl, ?_⟩; simp only [putsL]; change qT _; simp only [qT, Act.put, sIA, sCS, sCZ]; simp [go_sem, quietTo, Ext.refl, ↓IntWalk.iteOmega, z0, z1]; (all_goals try simp (disch := omega) only [IntWalk.i64_in]); all_goals rfl
    refine fq 6 rfl rfl rfl cK rfl rfl ?_; apply Exists.intro; constructor
    ·intro sv w' hw' hfa
     refine ⟨rfl, ?_⟩; simp only [putsL]; change qT _; simp only [qT, Act.put, sIA, sCS, sCZ]; simp [go_sem, quietTo, Ext.refl]; all_goals rfl
    refine fq 7 rfl rfl rfl cK rfl rfl ?_; apply Exists.intro; constructor
    ·rintro sv w' hw' ⟨(f6 : sv 6 = _), -⟩; (try dsimp only at f6)
     obtain ⟨hc, hf, hz9⟩ := ((Ext.refl w8).drew.trans hw').walk; have v6 := (hc gx 6 lx9).trans e6
     refine ⟨rfl, ?_⟩; simp only [putsL]; change qT (pT _ 44 (sv 6)); simp only [qT, pT, Act.put, sIA, sCS, sCZ]; simp [go_sem, quietTo, Ext.refl, ↓IntWalk.iteOmega, f6, v6]; (all_goals try simp (disch := omega) only [IntWalk.i64_in]); all_goals rfl
    refine fq 8 rfl rfl rfl cK rfl rfl ?_; apply Exists.intro; constructor
    ·intro sv w' hw' hfa
     refine ⟨rfl, ?_⟩; simp only [putsL]; change qT _; simp only [qT, Act.put, sIA, sCS, sCZ]; simp [go_sem, quietTo, Ext.refl]; all_goals rfl
    refine fq 9 rfl rfl rfl cK rfl rfl ?_; apply Exists.intro; constructor
    ·rintro sv w' hw' ⟨(f8 : sv 8 = _), -⟩; (try dsimp only at f8)
     obtain ⟨hc, hf, hz9⟩ := ((Ext.refl w8).drew.trans hw').walk; have v2 := (hc gx 2 lx9).trans e2
     refine ⟨rfl, ?_⟩; simp only [putsL]; change qT (pT _ 46 (sv 8)); simp only [qT, pT, Act.put, sIA, sCS, sCZ]; simp [go_sem, quietTo, Ext.refl, ↓IntWalk.iteOmega, f8, v2]; (all_goals try simp (disch := omega) only [IntWalk.i64_in]); all_goals rfl
    refine fq 10 rfl rfl rfl cK rfl rfl ?_; apply Exists.intro; constructor
    ·rintro sv w' hw' ⟨(f5 : sv 5 = _), _, (f7 : sv 7 = _), _, (f9 : sv 9 = _), -⟩; (try dsimp only at f5 f7 f9)
     refine ⟨rfl, ?_⟩; simp only [putsL]; change qT (pT (pT (pT (pT (pT _ 47 (sv 9)) 46 (sv 8)) 45 (sv 7)) 44 (sv 6)) 43 (sv 5)); simp only [qT, pT, Act.put, sIA, sCS, sCZ]; simp [go_sem, quietTo, Ext.refl, f5, f7, f9]; all_goals rfl
    refine fac_row 11 rfl rfl rfl cK (fun _ _ h => h.size) (fun _ _ _ _ _ he _ hb => hb.ext he) ?_
    apply Exists.intro
    apply Exists.intro
    apply Exists.intro
    apply Exists.intro
    refine ⟨fun sv w' hw' hfa => ?_, ?_⟩
    ·obtain ⟨_, _, _, _, _, (f10 : sv 10 = _), -⟩ := hfa; (try dsimp only at f10)
     refine ⟨rfl, ?_⟩; simp only [putsL]; change rowTo _ _ _ _ _ (Sem.run _ (execOp (Act.eval (pT (pT (pT (pT (pT (pT _ 48 (sv 10)) 47 (sv 9)) 46 (sv 8)) 45 (sv 7)) 44 (sv 6)) 43 (sv 5))) _) _); (try simp only [pT, Act.put, sIA, sCS, sCZ]); simp [go_sem, rowTo, Ext.refl, f10]; (all_goals try simp (disch := omega) only [IntWalk.i64_in]); all_goals first | rfl | exact ⟨rfl, rfl⟩ | exact ⟨⟨rfl, rfl⟩, rfl⟩
    refine fac_nil fun xe wre here hfre hcre holde hape => ?_
    obtain ⟨(f0 : xe 0 = _), (f1 : xe 1 = _), (f2 : xe 2 = _), (f3 : xe 3 = _), (f4 : xe 4 = _), (f5 : xe 5 = _), (f6 : xe 6 = _), (f7 : xe 7 = _), (f8 : xe 8 = _), (f9 : xe 9 = _), (f10 : xe 10 = _), f11, -⟩ := hfre; (try dsimp only at f0 f1 f2 f3 f4 f5 f6 f7 f8 f9 f10)
    obtain ⟨g11, f11, l11, b11⟩ := f11; replace f11 : xe 11 = _ := f11; obtain ⟨p11, q11⟩ := b11.walk
    change wpList _ _ _ _ (pT (pT (pT (pT (pT (pT (pT (pT (pT (pT (pT (pT _ 38 (xe 0)) 39 (xe 1)) 40 (xe 2)) 41 (xe 3)) 42 (xe 4)) 43 (xe 5)) 44 (xe 6)) 45 (xe 7)) 46 (xe 8)) 47 (xe 9)) 48 (xe 10)) 49 (xe 11)) _
    simp only [putsL, Nat.reduceAdd, List.drop_succ_cons, List.drop_zero, List.drop_nil, pT, Act.put, sIA, sCS, sCZ]
    try simp only [f0, f1, f2, f3, f4, f5, f6, f7, f8, f9, f10, f11]
    clear f0 f1 f2 f3 f4 f5 f6 f7 f8 f9 f10; clear holde hape
    have hke := (Ext.refl w8).drew.trans here
    have hrowe := hrow8.ext hke
    have hme := hm8.ext hke
    have hsz9 : base ≤ wre.heap.size := Nat.le_trans hbs8 hke.size
    clear d6 k0 k1 e2 e6 hrow8 hm8 hk8 hx8 lb9 lk9 lx9 hbs8
    go_wp2_with (at_builtin; go_loud (refine wp_app1 _ (.tmp 42) (.tmp 49) 141 148 6 64 _ rfl rfl Tryz.underlying141 shLoanInfo rfl (by decide) (by decide) base _ L.loans.length _ rfl hrowe.2 _ (loanC ⟨x.piece, x.copy, x.singer, x.at_, -1, false⟩) rfl rfl b11 (loanC_one _) (by omega) hsz9 ?_; intro v' wf hownf hgrowf hnn; obtain ⟨gf, cf, rfl, hbf, hncf⟩ := hownf.form (by omega); have hBf : Blk wf bb 143 (shC tp tn tc r ms mr (.slice pl L.loans.length cl)) := (hgrowf.block bb hrowe.1.lt fun e => own_no hrowe.2 hrowe.1 (by decide) e.symm).trans hrowe.1; have lbf := hBf.lt; have cbf := hBf.cell 6; have fbf := hBf.frozen 6; unfold shC at cbf; replace hBf := Lib.hid hBf))
    go_ret
    have hmf := (hme.kept hgrowf (NoMap.own hrowe.2)).kept (grown_set wf ⟨bb, 6, none⟩ (.slice (some ⟨gf, 0, none⟩) (L.loans.length + 1) cf)) (NoMap.blk hBf.out)
    exact ⟨rfl, by rw [hL9.out, if_pos trivial]; exact (hrowe.more hownf hgrowf).lib hmf, ((hA8.out.ext hke).app hrowe.2 hgrowf).set 6 _⟩
  ·have h6 : E = 6 := by rw [hD2.out, if_pos rfl]
   subst h6
   clear hD2
   go_wp2_with (go_at_call 78; (with_reducible refine Calls.mono (hst.out _ hE2) ?_); rintro e w2 ⟨rfl, hb2⟩; have y4 := (hb2.walk.1 bb 4 lb).trans c4)
   go_ret
   exact ⟨rfl, by rw [hL9.out]; exact (h.out.ext (hE2.trans hb2)).more (by omega), hA0.ext (hE2.trans hb2)⟩
end Go.Proofs.YtkjhbofbcmelgaaGreatDoor
namespace Go.Proofs.YtkjhbofbcmelgaaGreatDoor
open Go Go.RowKit Go.Shelf
attribute [local go_sem] Oper.semAt_some
theorem back_stops (F : Fence) (n : Nat) (hf : F.fn 271) (hro : F.round = none) (hn : 1 ≤ n) (Bs n₀ b off len cap : Nat) (X : List LoanV) (hX : X.length = len) (hpos : 0 < len) (hreach : len ≤ 1000000) (hb : b < n₀) (hBn : Bs < n₀) (w : World) (hn₀ : n₀ ≤ w.heap.size)
 (hBs : w.cell? ⟨Bs, 0, none⟩ = some (.slice (some ⟨b, off, none⟩) len cap)) (hE : Elems 6 loanC w b off X) :
 SeqStopsK F n Tryz.prog 271 #[.pointer (some ⟨Bs, 0, none⟩)] (backArgs X len) (Below n₀) (fun ys => ys = downTo len hpos len) (fun pre => ∃ k, k ≤ len ∧ pre = downTo len hpos k) len w := fun l J Jx W hW _ _ hY h0 => by
 have hc' := (hW.cell (p := ⟨Bs, 0, none⟩) (show Bs < w.heap.size by omega)).trans hBs
 have hE' : Elems 6 loanC W b off X := fun i x hx j v hv => (hW.cell (p := ⟨b, off + i * 6 + j, none⟩) (show b < w.heap.size by omega)).trans (hE i x hx j v hv)
 exact back1_in F n hf hro hn l Bs n₀ b off len cap X hX hpos hreach hb hBn J Jx hY W hc' hE' h0
theorem backward_in (F : Fence) (n : Nat) (hf : F.fn 233) (hro : F.round = none) (a : Option Addr) (len cap : Nat) (w : World) :
 CallsIn F n Tryz.prog 233 #[.slice a len cap] w fun e w' => e = .returned (.func (.func 271) #[] #[.pointer (some ⟨w.heap.size, 0, none⟩)]) ∧ w' = w.alloc (.cells #[.slice a len cap] 141) := by
 refine callsIn_of_wp Tryz.func233 rfl hf ?_ hro
 simp only [Tryz.ntmps233, List.size_toArray, List.length_cons, List.length_nil, Nat.reduceAdd, Nat.reduceSub, Array.replicate_succ, Array.replicate_zero, List.push_toArray, List.append_toArray, List.nil_append, List.cons_append]
 gi_wp2
 go_ret
 exact ⟨rfl, rfl⟩
set_option maxRecDepth 100000 in
set_option maxHeartbeats 6400000 in
theorem last_in (F : Fence) (n : Nat) (h1f : F.fn 176) (h2f : F.fn 233) (h3f : F.fn 271) (hro : F.round = none) (hn : 3 ≤ n) (bb b off len cap : Nat) (X : List LoanV) (k : IdV) (i : Nat) (l : LoanV) (w : World) (hX : X.length = len) (hreach : len ≤ 1000000) (hb : b < w.heap.size) (hbb : bb < w.heap.size)
 (hc : w.cell? ⟨bb, 6, none⟩ = some (.slice (some ⟨b, off, none⟩) len cap)) (hE : Elems 6 loanC w b off X) (hi : X[i]? = some l) (hl : idL l = k) (hlt : ∀ j m, i < j → X[j]? = some m → idL m ≠ k) :
 CallsIn F n Tryz.prog 176 #[.pointer (some ⟨bb, 0, none⟩), .agg #[.string k.1, .int .i64 k.2]] w fun e W' => e = .returned (.pointer (some ⟨b, off + i * 6, none⟩)) ∧ Below w.heap.size w W' := by
 have h1 : 1 ≤ n := by omega
 have hil := (List.getElem?_eq_some_iff.1 hi).1
 have hpos : 0 < len := by omega
 replace hi := Lib.hid hi; replace hlt := Lib.hid hlt; replace hl := Lib.hid hl; replace hE := Lib.hid hE
 obtain ⟨W0, hW0⟩ : ∃ W0, W0 = (((w.alloc (.cells #[.pointer (some ⟨bb, 0, none⟩)] 138)).alloc (.cells #[.string k.1, .int .i64 k.2] 146)).alloc (.cells #[.pointer none] 223)) := ⟨_, rfl⟩
 have hc3 : (((w.alloc (.cells #[.pointer (some ⟨bb, 0, none⟩)] 138)).alloc (.cells #[.string k.1, .int .i64 k.2] 146)).alloc (.cells #[.pointer none] 223)).cell? ⟨bb, 6, none⟩ = some (.slice (some ⟨b, off, none⟩) len cap) := (((((Ext.refl w).alloc _).alloc _).alloc _).walk.1 bb 6 hbb).trans hc
 have hB0 : Ext w W0 := by rw [hW0]; exact (((Ext.refl w).alloc _).alloc _).alloc _
 have hs0 : W0.heap.size = w.heap.size + 3 := by rw [hW0]; simp
 have b0 : Blk W0 w.heap.size 138 #[.pointer (some ⟨bb, 0, none⟩)] := by rw [hW0]; exact ((Blk.new' rfl).alloc _).alloc _
 have b1 : Blk W0 (w.heap.size + 1) 146 #[.string k.1, .int .i64 k.2] := by rw [hW0]; exact (Blk.new' (by simp)).alloc _
 have b2 : Blk W0 (w.heap.size + 2) 223 #[.pointer none] := by rw [hW0]; exact Blk.new' (by simp)
 refine callsIn_of_wp_marks Tryz.func176 rfl h1f ?_ hro
 simp only [Tryz.ntmps176, List.size_toArray, List.length_cons, List.length_nil, Nat.reduceAdd, Nat.reduceSub, Array.replicate_succ, Array.replicate_zero, List.push_toArray, List.append_toArray, List.nil_append, List.cons_append]
 gi_wp2_with (gi_at_call 233; refine (backward_in F (n - 1) h2f hro _ _ _ _).mono ?_; rintro e w' ⟨rfl, rfl⟩)
 rw [← hW0] at hc3 ⊢
 clear hc3
 have hB1 : Ext w (W0.alloc (.cells #[.slice (some ⟨b, off, none⟩) len cap] 141)) := hB0.alloc _
 have hs1 : (W0.alloc (.cells #[.slice (some ⟨b, off, none⟩) len cap] 141)).heap.size = w.heap.size + 4 := by simp [hs0]
 have b0 := b0.alloc (.cells #[.slice (some ⟨b, off, none⟩) len cap] 141)
 have b1 := b1.alloc (.cells #[.slice (some ⟨b, off, none⟩) len cap] 141)
 have b2 := b2.alloc (.cells #[.slice (some ⟨b, off, none⟩) len cap] 141)
 have b3 : Blk (W0.alloc (.cells #[.slice (some ⟨b, off, none⟩) len cap] 141)) (w.heap.size + 3) 141 #[.slice (some ⟨b, off, none⟩) len cap] := Blk.new' hs0.symm
 generalize (W0.alloc (.cells #[.slice (some ⟨b, off, none⟩) len cap] 141)) = W1 at *
 clear hB0 hW0 hs0
 have hE1 : Elems 6 loanC W1 b off X := fun i x hx j v hv => (hB1.walk.1 b _ hb).trans (hE.out i x hx j v hv)
 have hBl : Below w.heap.size w W1 := hB1
 refine wpIn_rangeFunc_ownF hro h1 (gf := 271) (lb := #[.pointer (some ⟨w.heap.size + 1 + 1 + 1,0, none⟩)]) rfl h3f (enters_of Tryz.func271 (by kernel_rfl) rfl)
  (back_stops F (n - 1) h3f hro (by omega) (w.heap.size + 1 + 1 + 1) (w.heap.size + 4) b off len cap X hX hpos hreach (by omega) (by omega) W1 (by omega) (b3.cell 0) hE1) belowK_t (belowK_b (by omega)) (Below.refl _ _) (fun _ => rfl)
  (fun pre W => ((∀ y ∈ pre, idL (X.getD y.1 default) ≠ k) ∧ W.cell? ⟨w.heap.size, 0, none⟩ = some (.pointer (some ⟨bb, 0, none⟩)) ∧ W.cell? ⟨w.heap.size + 1,0, none⟩ = some (.string k.1) ∧ W.cell? ⟨w.heap.size + 1,1, none⟩ = some (.int .i64 k.2) ∧ W.cell? ⟨w.heap.size + 2,0, none⟩ = some (.pointer none) ∧ W.frozen? ⟨w.heap.size + 2,0, none⟩ = false) ∧ Below w.heap.size w W)
  (fun c pre W => (c = .ret ∧ ∃ ini last, pre = ini ++ [last] ∧ (∀ y ∈ ini, idL (X.getD y.1 default) ≠ k) ∧ idL (X.getD last.1 default) = k ∧ W.cell? ⟨w.heap.size + 2,0, none⟩ = some (.pointer (some ⟨b, off + last.1 * 6, none⟩))) ∧ Below w.heap.size w W)
  (OwnFrom.and (Own.from (fun s A B row hs hg hr => ⟨hs.1, cell_kept hs.2.1 hg hr, cell_kept hs.2.2.1 hg hr, cell_kept hs.2.2.2.1 hg hr, cell_kept hs.2.2.2.2.1 hg hr, (frozen_kept hs.2.2.2.2.1 hg hr).trans hs.2.2.2.2.2⟩) _) (ownFrom_below (Nat.le_refl _) (by omega)))
  (fun c => OwnFrom.and (Own.from (fun s A B row hs hg hr => by obtain ⟨hc, ini, last, e1, e2, e3, e4⟩ := hs; exact ⟨hc, ini, last, e1, e2, e3, cell_kept e4 hg hr⟩) _) (ownFrom_below (Nat.le_refl _) (by omega)))
  ⟨⟨by simp, b0.cell 0, b1.cell 0, b1.cell 1, b2.cell 0, b2.frozen 0⟩, hBl⟩
  (fun x => { tmps := #[.pointer (some ⟨bb, 0, none⟩), .agg #[.string k.1, .int .i64 k.2], .pointer (some ⟨w.heap.size, 0, none⟩), .pointer (some ⟨w.heap.size + 1,0, none⟩), .pointer (some ⟨w.heap.size + 1 + 1,0, none⟩), .int .i64 (x.1 : Int), .pointer (some ⟨bb, 0, none⟩), .pointer (some ⟨bb, 0, none⟩), .pointer (some ⟨bb, 6, none⟩), .slice (some ⟨b, off, none⟩) len cap, .func (.func 271) #[] #[.pointer (some ⟨w.heap.size + 1 + 1 + 1,0, none⟩)], .int .i64 (x.1 : Int), loanVal2 (X.getD x.1 default), undef, undef, undef, undef, undef, undef, undef, undef, undef, undef, undef, undef, undef, undef, undef, undef, undef, undef], defers := [] }) ?assign ?body ?done ?stop
 case assign =>
  intro l x W K hK
  unfold backArgs
  gi_wp2
  exact hK
 case body =>
  rintro l pre x W ⟨⟨hne, c0, c1, c2, c3, f3⟩, hB⟩ _
  obtain ⟨y, hy⟩ : ∃ y, X[x.1]? = some y := ⟨_, List.getElem?_eq_getElem (by have := x.2; omega)⟩
  have hyd : X.getD x.1 default = y := by rw [List.getD_eq_getElem?_getD, hy]; rfl
  have c6 : W.cell? ⟨bb, 6, none⟩ = some (.slice (some ⟨b, off, none⟩) len cap) := (hB.cell (p := ⟨bb, 6, none⟩) hbb).trans hc
  have d0 : W.cell? ⟨b, off + x.1 * 6, none⟩ = some (.string y.piece) := (hB.cell (p := ⟨b, off + x.1 * 6, none⟩) hb).trans (hE.out _ y hy 0 _ rfl)
  have d1 : W.cell? ⟨b, off + x.1 * 6 + 1, none⟩ = some (.int .i64 y.no) := (hB.cell (p := ⟨b, off + x.1 * 6 + 1, none⟩) hb).trans (hE.out _ y hy 1 _ rfl)
  have hxI : (x.1 : Int) < (len : Int) := by have := x.2; omega
  have hw2 : w.heap.size + 1 + 1 = w.heap.size + 2 := rfl
  replace hy := Lib.hid hy; replace hne := Lib.hid hne
  have hmx : Tryz.prog.follows .mixedOrders = true := by kernel_rfl
  obtain ⟨lv, hlv⟩ : ∃ lv, lv = loanVal2 (X.getD x.1 default) := ⟨_, rfl⟩
  rw [← hlv]
  clear hlv
  cases hp : (y.piece.toList == k.1.toList)
  ·have hid : idL (X.getD x.1 default) ≠ k := by
    rw [hyd]
    intro e
    have e1 : y.piece = k.1 := congrArg Prod.fst e
    rw [bytesB.2 e1] at hp
    cases hp
   replace hid := Lib.hid hid; replace hyd := Lib.hid hyd
   gi_wp2
   rename_i K0 hK0
   have hk : K0 { tmps := #[.pointer (some ⟨bb, 0, none⟩), .agg #[.string k.1, .int .i64 k.2], .pointer (some ⟨w.heap.size, 0, none⟩), .pointer (some ⟨w.heap.size + 1,0, none⟩), .pointer (some ⟨w.heap.size + 1 + 1,0, none⟩), .int .i64 (x.1 : Int), .pointer (some ⟨bb, 0, none⟩), .pointer (some ⟨bb, 0, none⟩), .pointer (some ⟨bb, 6, none⟩), .slice (some ⟨b, off, none⟩) len cap, .func (.func 271) #[] #[.pointer (some ⟨w.heap.size + 1 + 1 + 1,0, none⟩)], .int .i64 (x.1 : Int), lv, .pointer (some ⟨bb, 0, none⟩), .pointer (some ⟨bb, 0, none⟩), .pointer (some ⟨bb, 6, none⟩), .slice (some ⟨b, off, none⟩) len cap, .int .i64 (x.1 : Int), .pointer (some ⟨b, off + x.1 * 6, none⟩), .pointer (some ⟨b, off + x.1 * 6, none⟩), .agg #[.string y.piece, .int .i64 y.no], .agg #[.string k.1, .int .i64 k.2], .bool false, undef, undef, undef, undef, undef, undef, undef, undef], defers := [] } W.drew := by
    refine hK0 _ _ ?_
    clear hK0
    gi_wp2
    exact ⟨KeepsOthers.drew _, (Below.refl _ _).drew, ⟨fun p hp' => (List.mem_append.1 hp').elim (hne.out p) (fun e => by simp at e; subst e; exact hid.out), c0, c1, c2, c3, f3⟩, hB.drew⟩
   clear hK0
   gi_region_with_o fail
   all_goals exact hk
  ·by_cases hn : y.no = k.2
   ·have hid : idL (X.getD x.1 default) = k := by
     rw [hyd]
     exact Prod.ext (bytesB.1 hp) hn
    have hq : (y.no == k.2) = true := by simp [hn]
    replace hid := Lib.hid hid; replace hyd := Lib.hid hyd; replace hn := Lib.hid hn
    gi_wp2
    rename_i K0 hK0
    have hk : K0 { tmps := #[.pointer (some ⟨bb, 0, none⟩), .agg #[.string k.1, .int .i64 k.2], .pointer (some ⟨w.heap.size, 0, none⟩), .pointer (some ⟨w.heap.size + 1,0, none⟩), .pointer (some ⟨w.heap.size + 1 + 1,0, none⟩), .int .i64 (x.1 : Int), .pointer (some ⟨bb, 0, none⟩), .pointer (some ⟨bb, 0, none⟩), .pointer (some ⟨bb, 6, none⟩), .slice (some ⟨b, off, none⟩) len cap, .func (.func 271) #[] #[.pointer (some ⟨w.heap.size + 1 + 1 + 1,0, none⟩)], .int .i64 (x.1 : Int), lv, .pointer (some ⟨bb, 0, none⟩), .pointer (some ⟨bb, 0, none⟩), .pointer (some ⟨bb, 6, none⟩), .slice (some ⟨b, off, none⟩) len cap, .int .i64 (x.1 : Int), .pointer (some ⟨b, off + x.1 * 6, none⟩), .pointer (some ⟨b, off + x.1 * 6, none⟩), .agg #[.string y.piece, .int .i64 y.no], .agg #[.string k.1, .int .i64 k.2], .bool true, undef, undef, undef, undef, undef, undef, undef, undef], defers := [] } W.drew := by
     refine hK0 _ _ ?_
     clear hK0
     gi_wp2
     exact ⟨(KeepsOthers.drew W).trans (KeepsOthers.setCell _ _ _), ⟨rfl, pre, x, rfl, hne.out, hid.out, World.cell?_setCell_same' _ _ _ (by rw [show W.cell? ⟨w.heap.size + 1 + 1,0, none⟩ = some (.pointer none) from c3]; rfl)⟩, hB.drew.setCell (p := ⟨w.heap.size + 2,0, none⟩) (by simp only; omega) _⟩
    clear hK0
    gi_region_with_o fail
    all_goals exact hk
   ·have hid : idL (X.getD x.1 default) ≠ k := by
     rw [hyd]
     exact fun e => hn (congrArg Prod.snd e)
    have hq : (y.no == k.2) = false := by simp [hn]
    replace hid := Lib.hid hid; replace hyd := Lib.hid hyd; replace hn := Lib.hid hn
    gi_wp2
    rename_i K0 hK0
    have hk : K0 { tmps := #[.pointer (some ⟨bb, 0, none⟩), .agg #[.string k.1, .int .i64 k.2], .pointer (some ⟨w.heap.size, 0, none⟩), .pointer (some ⟨w.heap.size + 1,0, none⟩), .pointer (some ⟨w.heap.size + 1 + 1,0, none⟩), .int .i64 (x.1 : Int), .pointer (some ⟨bb, 0, none⟩), .pointer (some ⟨bb, 0, none⟩), .pointer (some ⟨bb, 6, none⟩), .slice (some ⟨b, off, none⟩) len cap, .func (.func 271) #[] #[.pointer (some ⟨w.heap.size + 1 + 1 + 1,0, none⟩)], .int .i64 (x.1 : Int), lv, .pointer (some ⟨bb, 0, none⟩), .pointer (some ⟨bb, 0, none⟩), .pointer (some ⟨bb, 6, none⟩), .slice (some ⟨b, off, none⟩) len cap, .int .i64 (x.1 : Int), .pointer (some ⟨b, off + x.1 * 6, none⟩), .pointer (some ⟨b, off + x.1 * 6, none⟩), .agg #[.string y.piece, .int .i64 y.no], .agg #[.string k.1, .int .i64 k.2], .bool false, undef, undef, undef, undef, undef, undef, undef, undef], defers := [] } W.drew := by
     refine hK0 _ _ ?_
     clear hK0
     gi_wp2
     exact ⟨KeepsOthers.drew _, (Below.refl _ _).drew, ⟨fun p hp' => (List.mem_append.1 hp').elim (hne.out p) (fun e => by simp at e; subst e; exact hid.out), c0, c1, c2, c3, f3⟩, hB.drew⟩
    clear hK0
    gi_region_with_o fail
    all_goals exact hk
 case done =>
  rintro D ys W hD rfl ⟨⟨hne, -⟩, hB⟩ hK
  refine absurd ?_ (hne ⟨i, by omega⟩ (by simp only [downTo, List.mem_map, List.mem_range]; exact ⟨len - 1 - i, by omega, by simp only [Subtype.mk.injEq]; omega⟩))
  rw [List.getD_eq_getElem?_getD, hi.out]
  exact hl.out
 case stop =>
  rintro D c pre W hD ⟨k', hk', rfl⟩ ⟨⟨rfl, ini, last, e1, hne, hid, hcr⟩, hB⟩ hK
  gi_wp2
  refine ⟨by simp, .inl ⟨_, _, rfl, run_takeDeferred hK, ?_⟩⟩
  have hc5 := cell_kept hcr (grownBy_putObj' _ D (.deferred none)) (fun r e => by cases e; exact ⟨_, hK, rfl⟩)
  have hlast : last.1 = i := by
   obtain ⟨m, rfl⟩ : ∃ m, k' = m + 1 := by
    cases k' with
    | zero => simp [downTo] at e1
    | succ m => exact ⟨m, rfl⟩
   rw [downTo_succ] at e1
   obtain ⟨e2, e3⟩ := List.append_inj' e1 rfl
   have e4 : (⟨len - 1 - m, by omega⟩ : {j : Nat // j < len}) = last := by simpa using e3
   subst e2
   have e5 : last.1 = len - 1 - m := by rw [← e4]
   have hll := last.2
   rcases Nat.lt_trichotomy last.1 i with hh | hh | hh
   ·exfalso
    refine hne ⟨i, by omega⟩ (by simp only [downTo, List.mem_map, List.mem_range]; exact ⟨len - 1 - i, by omega, by simp only [Subtype.mk.injEq]; omega⟩) ?_
    rw [List.getD_eq_getElem?_getD, hi.out]
    exact hl.out
   ·exact hh
   ·exfalso
    have h9 : X[last.1]? = some (X.getD last.1 default) := by rw [List.getD_eq_getElem?_getD, List.getElem?_eq_getElem (by omega)]; rfl
    exact hlt.out _ _ hh h9 hid
  rw [hlast] at hc5
  refine ⟨.pointer (some ⟨b, off + i * 6, none⟩), ?_, rfl, hB.trans (belowK_b (w := w) (Nat.le_refl _) W D _ _ (by omega) hK rfl rfl)⟩
  simp [results, Tryz.f176, go_sem, hc5]
end Go.Proofs.YtkjhbofbcmelgaaGreatDoor
namespace Go.Proofs.YtkjhbofbcmelgaaGreatDoor
open Go Go.RowKit Go.Shelf
theorem last_any {base : Nat} {w : World} {bb ms mr q nr : Nat} {tp : Option Addr} {tn tc : Nat} {r : LendR} {L : LibS} {F : Int → Option Int} {g cap : Nat} (hB : Blk w bb 143 (shC tp tn tc r ms mr (.slice (some ⟨g, 0, none⟩) L.loans.length cap))) (ho : w.ownsRow base 148 6 (.slice (some ⟨g, 0, none⟩) L.loans.length cap) L.loans.length (L.loans.flatMap loanC))
 (hn : L.loans.length ≤ 1000) (k : IdV) (i : Nat) (l : LoanV) (hi : L.loans[i]? = some l) (hl : idL l = k) (hlt : ∀ j m, i < j → L.loans[j]? = some m → idL m ≠ k) :
 Calls Tryz.prog 176 #[.pointer (some ⟨bb, 0, none⟩), .agg #[.string k.1, .int .i64 k.2]] w fun e W' => e = .returned (.pointer (some ⟨g, i * 6, none⟩)) ∧ Ext w W' := by
 have hil := (List.getElem?_eq_some_iff.1 hi).1
 obtain ⟨p', c', e, hS⟩ := slc_of_own loanC_len ho (by decide) (by omega)
 cases e
 obtain ⟨b, off, e, hb, hE⟩ := hS.1.2.2 (by omega)
 cases e
 have hc : w.cell? ⟨bb, 6, none⟩ = some (.slice (some ⟨g, 0, none⟩) L.loans.length cap) := hB.cell 6
 refine ((callsIn_wide (n := 3)).1 (last_in _ 3 trivial trivial trivial rfl (by omega) bb g 0 _ cap L.loans k i l w rfl (by omega) hb hB.lt hc hE hi hl hlt)).mono fun e W' hh => ?_
 rw [Nat.zero_add] at hh
 exact hh
end Go.Proofs.YtkjhbofbcmelgaaGreatDoor
