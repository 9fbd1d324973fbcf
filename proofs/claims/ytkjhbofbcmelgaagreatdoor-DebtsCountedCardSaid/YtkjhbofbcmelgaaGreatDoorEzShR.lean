/- What is owed for a loan, by the document: day by day. Conditions: sizes. -/
import Derived.Test.YtkjhbofbcmelgaaGreatDoorEzShQ
import Derived.Test.YtkjhbofbcmelgaaGreatDoorEzJ32
set_option linter.unusedSimpArgs false
set_option linter.unusedVariables false
namespace Go.Proofs.YtkjhbofbcmelgaaGreatDoor
open Go Go.RowKit
/-- Day by day it comes to the same. -/
theorem day_end {r : LendR} (hr : LendOk r) {v : Int} {j : Nat} (h1 : 0 < j → ((j : Int) - 1) * 86400000 < v) (hx : v ≤ (j : Int) * 86400000 ∨ r.most ≤ min ((j : Int) * r.late) r.most ∨ r.late ≤ 0) : min ((j : Int) * r.late) r.most = lateF r v := by
 obtain ⟨-, ⟨l0, l1⟩, ⟨m0, m1⟩, -⟩ := hr
 unfold lateF
 by_cases hv : 0 < v
 ·rw [if_pos hv]
  rcases hx with hx | hx | hx
  ·have e : (v + 86399999) / 86400000 = (j : Int) := by
    have : 0 < j := by omega
    have := h1 this
    omega
   rw [e]
  ·have hd : (j : Int) ≤ (v + 86399999) / 86400000 := by
    rcases Nat.eq_zero_or_pos j with h0 | h0
    ·subst h0; omega
    ·have := h1 h0
     omega
   have h3 := Int.mul_le_mul_of_nonneg_right hd l0
   generalize (v + 86399999) / 86400000 * r.late = a at *
   generalize (j : Int) * r.late = b at *
   omega
  ·have e : r.late = 0 := by omega
   rw [e, Int.mul_zero, Int.mul_zero]
 ·rw [if_neg hv]
  have h0 : j = 0 := by
   rcases Nat.eq_zero_or_pos j with h0 | h0
   ·exact h0
   ·have := h1 h0
    omega
  subst h0
  have e : ((0 : Nat) : Int) * r.late = 0 := by simp
  rw [e]
  omega
theorem day_next {r : LendR} (hr : LendOk r) (j : Nat) : min (min ((j : Int) * r.late) r.most + r.late) r.most = min (((j + 1 : Nat) : Int) * r.late) r.most := by
 have e : ((j + 1 : Nat) : Int) * r.late = (j : Int) * r.late + r.late := by rw [Int.natCast_add, Int.add_mul]; simp
 have := hr.late
 rw [e]
 generalize (j : Int) * r.late = a
 omega
theorem day_min {r : LendR} (hr : LendOk r) (j : Nat) : 0 ≤ min ((j : Int) * r.late) r.most ∧ min ((j : Int) * r.late) r.most ≤ 10000 := by
 have h1 := hr.late
 have h2 := hr.most
 have h3 : 0 ≤ (j : Int) * r.late := Int.mul_nonneg (by omega) h1.1
 generalize (j : Int) * r.late = a at *
 omega
set_option maxRecDepth 100000 in
set_option maxHeartbeats 6400000 in
theorem owedDoc_any {base : Nat} {w : World} {bb ms mr q nr : Nat} {tp : Option Addr} {tn tc : Nat} {T : List TitleV} {r : LendR} {L : LibS} {F : Int → Option Int} (h : ShM base w bb ms mr q nr tp tn tc r L F) (hT : Slc 3 titleC w tp tn tc T) (htn : tn ≤ 1000) (hTo : TitlesOk T) (hr : LendOk r) (t : Int) (ht : 0 ≤ t ∧ t ≤ 345686399999) (l : LoanV) (hl : LoanT l) :
 Calls Tryz.prog 93 #[.pointer (some ⟨bb, 0, none⟩), .agg #[.string l.piece, .int .i64 l.no, .string l.singer, .int .i64 l.since, .int .i64 l.till, .bool l.lost], .int .i64 t] w fun e w' => e = .returned (.int .i64 (owedF T r t l)) ∧ Ext w w' := by
 have hti := fun u (hu : Ext w u) => docTitle_any tp tn tc T l.piece u (hT.ext hu) htn
 have hcb := cost_bound hTo l.piece
 have hov := over_bound hr ht hl
 have hlb := late_bound hr hov.2
 have hF : owedF T r t l = lateF r (overF r t l) + if l.lost then costF T l.piece else 0 := rfl
 have hO : overF r t l = (if l.till < 0 then t else l.till) - dueF r l.since := rfl
 have hDu : dueF r l.since = l.since + r.days * 86400000 := rfl
 have hC : costF T l.piece = ((titleOf T l.piece).getD ⟨⟨#[]⟩, 0,0⟩).cost := rfl
 unfold titleVal at hti
 rw [hC] at hF hcb
 generalize (titleOf T l.piece).getD ⟨⟨#[]⟩, 0,0⟩ = ti at *
 generalize (titleOf T l.piece).isSome = tb at *
 rw [hF]
 generalize overF r t l = ov at *
 obtain ⟨E, hE0⟩ : ∃ E, E = if l.till < 0 then t else l.till := ⟨_, rfl⟩
 rw [← hE0] at hO
 generalize dueF r l.since = D0 at *
 have hd := hr.days
 have hla := hr.late
 have hmo := hr.most
 obtain ⟨⟨s0, s1⟩, ⟨u0, u1⟩, -⟩ := hl
 have hEb : 0 ≤ E ∧ E ≤ 345686399999 := by rw [hE0]; split <;> omega
 have hX : Blk (w.alloc (.cells #[.string l.piece, .int .i64 l.no, .string l.singer, .int .i64 l.since, .int .i64 l.till, .bool l.lost] 148)) w.heap.size 148 #[.string l.piece, .int .i64 l.no, .string l.singer, .int .i64 l.since, .int .i64 l.till, .bool l.lost] := Blk.new' rfl
 have hE1 : Ext w (w.alloc (.cells #[.string l.piece, .int .i64 l.no, .string l.singer, .int .i64 l.since, .int .i64 l.till, .bool l.lost] 148)) := (Ext.refl w).alloc _
 obtain ⟨lv, hrow, -⟩ := h.parts
 have hB := hrow.1
 have hdn := fun j => day_next hr j
 have hdm := fun j => day_min hr j
 have hde := fun (j : Nat) => day_end hr (v := ov) (j := j)
 have hjl : ∀ (j : Nat) a, a = min ((j : Int) * r.late) r.most → a = min ((j : Int) * r.late) r.most := fun _ _ h => h
 clear h hrow hT hTo hr hC hF hov; replace hti := Lib.hid hti; replace hX := Lib.hid hX; replace hB := Lib.hid hB; replace hE1 := Lib.hid hE1; replace hdn := Lib.hid hdn; replace hdm := Lib.hid hdm; replace hde := Lib.hid hde; replace hO := Lib.hid hO; replace hDu := Lib.hid hDu
 go_enter Tryz.func93, Tryz.ntmps93
 by_cases hop : l.till < 0
 all_goals
  first
   | (rw [if_pos hop] at hE0)
   | (rw [if_neg hop] at hE0)
  go_upto_region 5 with fail
  have hB1 := hB.out.ext hE1.out
  have lb := hB1.lt
  have lx := hX.out.lt
  have d1 := hB1.cell 1
  have x2 := hX.out.cell 3
  unfold shC at d1
  generalize hgx : w.heap.size = gx at *
  generalize (w.alloc (.cells #[.string l.piece, .int .i64 l.no, .string l.singer, .int .i64 l.since, .int .i64 l.till, .bool l.lost] 148)) = W1 at *
  rw [← hE0]
  replace hE0 := Lib.hid hE0; replace hgx := Lib.hid hgx
  have hw1 : IntKind.i64.wrap (r.days * 86400000) = r.days * 86400000 := IntWalk.i64_in _ (by omega)
  have hw2 : IntKind.i64.wrap (l.since + r.days * 86400000) = D0 := by rw [IntWalk.i64_in _ (by omega)]; exact hDu.out.symm
  have hDb : 0 ≤ D0 ∧ D0 ≤ 432086400000 := by have := hDu.out; omega
  replace hw1 := Lib.hid hw1; replace hw2 := Lib.hid hw2
  refine wp_region_facts [] [([],false,false),([0],false,false),([],false,false),([2],false,false),([2,3],false,false),([2,3,4],false,false),([2,3,4,5],false,false),([2,3,4,5,6],false,false),([0,1,2,3,4,5,6,7],false,false)] (Ext) Ext (fun _ => True) (by kernel_rfl) (by kernel_rfl) Ext.refl (fun _ _ _ => Ext.trans) (fun _ _ h => h) (fun _ _ h => h.size) (fun _ _ h _ => h) trivial ?_
  dsimp only [List.length_cons, List.length_nil, List.drop_succ_cons, List.drop_zero, List.drop_nil]
  refine fq 0 rfl rfl rfl cK rfl rfl ?_; apply Exists.intro; constructor
  ·intro sv w' hw' hfa
   refine ⟨rfl, ?_⟩; simp only [putsL]; change qT _; simp only [qT, Act.put, sIA, sCS, sCZ]; simp [go_sem, quietTo, Ext.refl]; all_goals rfl
  refine fq 1 rfl rfl rfl cK rfl rfl ?_; apply Exists.intro; constructor
  ·rintro sv w' hw' ⟨(f0 : sv 0 = _), -⟩; (try dsimp only at f0)
   obtain ⟨hc, hf, hz9⟩ := ((Ext.refl W1).drew.trans hw').walk; have y1 := (hc bb 1 lb).trans d1; have y3 := (hc gx 3 lx).trans x2
   refine ⟨rfl, ?_⟩; simp only [putsL]; change qT (pT _ 17 (sv 0)); simp only [qT, pT, Act.put, sIA, sCS, sCZ]; simp [go_sem, quietTo, Ext.refl, ↓IntWalk.iteOmega, f0, y3]; (all_goals try simp (disch := omega) only [IntWalk.i64_in]); all_goals rfl
  refine fq 2 rfl rfl rfl cK rfl rfl ?_; apply Exists.intro; constructor
  ·intro sv w' hw' hfa
   refine ⟨rfl, ?_⟩; simp only [putsL]; change qT _; simp only [qT, Act.put, sIA, sCS, sCZ]; simp [go_sem, quietTo, Ext.refl]; all_goals rfl
  refine fq 3 rfl rfl rfl cK rfl rfl ?_; apply Exists.intro; constructor
  ·rintro sv w' hw' ⟨(f2 : sv 2 = _), -⟩; (try dsimp only at f2)
   refine ⟨rfl, ?_⟩; simp only [putsL]; change qT (pT _ 19 (sv 2)); simp only [qT, pT, Act.put, sIA, sCS, sCZ]; simp [go_sem, quietTo, Ext.refl, f2]; all_goals rfl
  refine fq 4 rfl rfl rfl cK rfl rfl ?_; apply Exists.intro; constructor
  ·rintro sv w' hw' ⟨_, (f3 : sv 3 = _), -⟩; (try dsimp only at f3)
   refine ⟨rfl, ?_⟩; simp only [putsL]; change qT (pT (pT _ 20 (sv 3)) 19 (sv 2)); simp only [qT, pT, Act.put, sIA, sCS, sCZ]; simp [go_sem, quietTo, Ext.refl, f3]; all_goals rfl
  refine fq 5 rfl rfl rfl cK rfl rfl ?_; apply Exists.intro; constructor
  ·rintro sv w' hw' ⟨_, _, (f4 : sv 4 = _), -⟩; (try dsimp only at f4)
   refine ⟨rfl, ?_⟩; simp only [putsL]; change qT (pT (pT (pT _ 21 (sv 4)) 20 (sv 3)) 19 (sv 2)); simp only [qT, pT, Act.put, sIA, sCS, sCZ]; simp [go_sem, quietTo, Ext.refl, f4]; all_goals rfl
  refine fq 6 rfl rfl rfl cK rfl rfl ?_; apply Exists.intro; constructor
  ·rintro sv w' hw' ⟨_, _, _, (f5 : sv 5 = _), -⟩; (try dsimp only at f5)
   obtain ⟨hc, hf, hz9⟩ := ((Ext.refl W1).drew.trans hw').walk; have y1 := (hc bb 1 lb).trans d1; have y3 := (hc gx 3 lx).trans x2
   refine ⟨rfl, ?_⟩; simp only [putsL]; change qT (pT (pT (pT (pT _ 22 (sv 5)) 21 (sv 4)) 20 (sv 3)) 19 (sv 2)); simp only [qT, pT, Act.put, sIA, sCS, sCZ]; simp [go_sem, quietTo, Ext.refl, ↓IntWalk.iteOmega, f5, y1]; (all_goals try simp (disch := omega) only [IntWalk.i64_in]); all_goals rfl
  refine fq 7 rfl rfl rfl cK rfl rfl ?_; apply Exists.intro; constructor
  ·rintro sv w' hw' ⟨_, _, _, _, (f6 : sv 6 = _), -⟩; (try dsimp only at f6)
   obtain ⟨hc, hf, hz9⟩ := ((Ext.refl W1).drew.trans hw').walk; have y1 := (hc bb 1 lb).trans d1; have y3 := (hc gx 3 lx).trans x2
   refine ⟨rfl, ?_⟩; simp only [putsL]; change qT (pT (pT (pT (pT (pT _ 23 (sv 6)) 22 (sv 5)) 21 (sv 4)) 20 (sv 3)) 19 (sv 2)); simp only [qT, pT, Act.put, sIA, sCS, sCZ]; simp [go_sem, quietTo, Ext.refl, ↓IntWalk.iteOmega, f6, hw1.out]; (all_goals try simp (disch := omega) only [IntWalk.i64_in]); all_goals rfl
  refine fq 8 rfl rfl rfl cK rfl rfl ?_; apply Exists.intro; constructor
  ·rintro sv w' hw' ⟨_, (f1 : sv 1 = _), _, _, _, _, _, (f7 : sv 7 = _), -⟩; (try dsimp only at f1 f7)
   obtain ⟨hc, hf, hz9⟩ := ((Ext.refl W1).drew.trans hw').walk; have y1 := (hc bb 1 lb).trans d1; have y3 := (hc gx 3 lx).trans x2
   refine ⟨rfl, ?_⟩; simp only [putsL]; change qT (pT (pT (pT (pT (pT (pT (pT (pT _ 24 (sv 7)) 23 (sv 6)) 22 (sv 5)) 21 (sv 4)) 20 (sv 3)) 19 (sv 2)) 18 (sv 1)) 17 (sv 0)); simp only [qT, pT, Act.put, sIA, sCS, sCZ]; simp [go_sem, quietTo, Ext.refl, ↓IntWalk.iteOmega, f1, f7, hw2.out]; (all_goals try simp (disch := omega) only [IntWalk.i64_in]); all_goals rfl
  refine fac_nil fun xa wra hera hfra hcra holda hapa => ?_
  obtain ⟨(f0 : xa 0 = _), (f1 : xa 1 = _), (f2 : xa 2 = _), (f3 : xa 3 = _), (f4 : xa 4 = _), (f5 : xa 5 = _), (f6 : xa 6 = _), (f7 : xa 7 = _), (f8 : xa 8 = _), -⟩ := hfra; (try dsimp only at f0 f1 f2 f3 f4 f5 f6 f7 f8)
  change wpList _ _ _ _ (pT (pT (pT (pT (pT (pT (pT (pT (pT _ 17 (xa 0)) 18 (xa 1)) 19 (xa 2)) 20 (xa 3)) 21 (xa 4)) 22 (xa 5)) 23 (xa 6)) 24 (xa 7)) 25 (xa 8)) _
  simp only [putsL, Nat.reduceAdd, List.drop_succ_cons, List.drop_zero, List.drop_nil, pT, Act.put, sIA, sCS, sCZ]
  try simp only [f0, f1, f2, f3, f4, f5, f6, f7, f8]
  clear f0 f1 f2 f3 f4 f5 f6 f7 f8; clear holda hapa
  have hka := (Ext.refl W1).drew.trans hera
  clear hera hcra d1 x2 lb lx
  obtain ⟨Z, hZ⟩ : ∃ Z : Int, Z = 432086400000 := ⟨_, rfl⟩
  replace hZ := Lib.hid hZ
  go_wp2
  go_loopw [8,9] (fun v8 v9 wr => ∃ (j : Nat) (a dd : Int), v8 = .int .i64 a ∧ v9 = .int .i64 dd ∧ a = min ((j : Int) * r.late) r.most ∧ dd = D0 + (j : Int) * 86400000 ∧ (0 < j → ((j : Int) - 1) * 86400000 < ov) ∧ Ext wra wr) (fun _ v9 _ => (Z - intOf v9).toNat)
  case atStart => exact ⟨0, _, _, rfl, rfl, by have := (hdm.out 0).1; simp at this ⊢; omega, by simp, fun h => by omega, Ext.refl _⟩
  case round =>
   obtain ⟨j, a, dd, rfl, rfl, ha, hdd, hj, he⟩ := hrel
   have hm1 := hdm.out j
   have hn1 := hdn.out j
   have hx1 := hde.out j hj
   have hOv := hO.out
   rw [← ha] at hm1 hn1 hx1
   have hEr := (hE1.out.trans hka).trans he
   have hBr := hB.out.ext hEr
   have lb := hBr.lt
   have d0 := hBr.cell 0
   have d2 := hBr.cell 2
   have d3 := hBr.cell 3
   unfold shC at d0 d2 d3
   have hXr := (hX.out.ext hka).ext he
   have lx := hXr.lt
   have x0 := hXr.cell 0
   have x5 := hXr.cell 5
   have hZ9 := hZ.out
   replace hn1 := Lib.hid hn1; replace ha := Lib.hid ha; replace hOv := Lib.hid hOv; replace hdd := Lib.hid hdd; replace hZ9 := Lib.hid hZ9; clear hXr hBr
   by_cases c1 : dd < E
   ·by_cases c2 : a < r.most
    ·by_cases c3 : 0 < r.late
     ·clear hx1
      go_upto_region 8 with fail
      have hw3 : IntKind.i64.wrap (a + r.late) = a + r.late := IntWalk.i64_in _ (by omega)
      have hdb : 0 ≤ dd := by have := hdd.out; omega
      have hw4 : IntKind.i64.wrap (dd + 86400000) = dd + 86400000 := IntWalk.i64_in _ (by omega)
      refine wp_region_facts [] [([],false,false),([],false,false),([1],false,false),([1,2],false,false),([1,2,3],false,false),([1,2,3,4],false,false),([0,1,2,3,4,5],false,false),([],false,false),([7],false,false),([7,8],false,false),([7,8,9],false,false),([7,8,9,10],false,false),([0,1,2,3,4,5,6,7,8,9,10,11],false,false)] (Ext) Ext (fun _ => True) (by kernel_rfl) (by kernel_rfl) Ext.refl (fun _ _ _ => Ext.trans) (fun _ _ h => h) (fun _ _ h => h.size) (fun _ _ h _ => h) trivial ?_
      dsimp only [List.length_cons, List.length_nil, List.drop_succ_cons, List.drop_zero, List.drop_nil]
      refine fq 0 rfl rfl rfl cK rfl rfl ?_; apply Exists.intro; constructor
      ·intro sv w' hw' hfa
       refine ⟨rfl, ?_⟩; simp only [putsL]; change qT _; simp only [qT, Act.put, sIA, sCS, sCZ]; simp [go_sem, quietTo, Ext.refl]; all_goals rfl
      refine fq 1 rfl rfl rfl cK rfl rfl ?_; apply Exists.intro; constructor
      ·intro sv w' hw' hfa
       refine ⟨rfl, ?_⟩; simp only [putsL]; change qT _; simp only [qT, Act.put, sIA, sCS, sCZ]; simp [go_sem, quietTo, Ext.refl]; all_goals rfl
      refine fq 2 rfl rfl rfl cK rfl rfl ?_; apply Exists.intro; constructor
      ·rintro sv w' hw' ⟨(f1 : sv 1 = _), -⟩; (try dsimp only at f1)
       refine ⟨rfl, ?_⟩; simp only [putsL]; change qT (pT _ 49 (sv 1)); simp only [qT, pT, Act.put, sIA, sCS, sCZ]; simp [go_sem, quietTo, Ext.refl, f1]; all_goals rfl
      refine fq 3 rfl rfl rfl cK rfl rfl ?_; apply Exists.intro; constructor
      ·rintro sv w' hw' ⟨_, (f2 : sv 2 = _), -⟩; (try dsimp only at f2)
       refine ⟨rfl, ?_⟩; simp only [putsL]; change qT (pT (pT _ 50 (sv 2)) 49 (sv 1)); simp only [qT, pT, Act.put, sIA, sCS, sCZ]; simp [go_sem, quietTo, Ext.refl, f2]; all_goals rfl
      refine fq 4 rfl rfl rfl cK rfl rfl ?_; apply Exists.intro; constructor
      ·rintro sv w' hw' ⟨_, _, (f3 : sv 3 = _), -⟩; (try dsimp only at f3)
       refine ⟨rfl, ?_⟩; simp only [putsL]; change qT (pT (pT (pT _ 51 (sv 3)) 50 (sv 2)) 49 (sv 1)); simp only [qT, pT, Act.put, sIA, sCS, sCZ]; simp [go_sem, quietTo, Ext.refl, f3]; all_goals rfl
      refine fq 5 rfl rfl rfl cK rfl rfl ?_; apply Exists.intro; constructor
      ·rintro sv w' hw' ⟨_, _, _, (f4 : sv 4 = _), -⟩; (try dsimp only at f4)
       obtain ⟨hc, hf, hz9⟩ := ((Ext.refl wr).drew.trans hw').walk; have y2 := (hc bb 2 lb).trans d2; have y3 := (hc bb 3 lb).trans d3
       refine ⟨rfl, ?_⟩; simp only [putsL]; change qT (pT (pT (pT (pT _ 52 (sv 4)) 51 (sv 3)) 50 (sv 2)) 49 (sv 1)); simp only [qT, pT, Act.put, sIA, sCS, sCZ]; simp [go_sem, quietTo, Ext.refl, ↓IntWalk.iteOmega, f4, y2]; (all_goals try simp (disch := omega) only [IntWalk.i64_in]); all_goals rfl
      refine fq 6 rfl rfl rfl cK rfl rfl ?_; apply Exists.intro; constructor
      ·rintro sv w' hw' ⟨(f0 : sv 0 = _), _, _, _, _, (f5 : sv 5 = _), -⟩; (try dsimp only at f0 f5)
       obtain ⟨hc, hf, hz9⟩ := ((Ext.refl wr).drew.trans hw').walk; have y2 := (hc bb 2 lb).trans d2; have y3 := (hc bb 3 lb).trans d3
       refine ⟨rfl, ?_⟩; simp only [putsL]; change qT (pT (pT (pT (pT (pT (pT _ 53 (sv 5)) 52 (sv 4)) 51 (sv 3)) 50 (sv 2)) 49 (sv 1)) 48 (sv 0)); simp only [qT, pT, Act.put, sIA, sCS, sCZ]; simp [go_sem, quietTo, Ext.refl, ↓IntWalk.iteOmega, f0, f5, hw3]; (all_goals try simp (disch := omega) only [IntWalk.i64_in]); all_goals rfl
      refine fq 7 rfl rfl rfl cK rfl rfl ?_; apply Exists.intro; constructor
      ·intro sv w' hw' hfa
       refine ⟨rfl, ?_⟩; simp only [putsL]; change qT _; simp only [qT, Act.put, sIA, sCS, sCZ]; simp [go_sem, quietTo, Ext.refl]; all_goals rfl
      refine fq 8 rfl rfl rfl cK rfl rfl ?_; apply Exists.intro; constructor
      ·rintro sv w' hw' ⟨(f7 : sv 7 = _), -⟩; (try dsimp only at f7)
       refine ⟨rfl, ?_⟩; simp only [putsL]; change qT (pT _ 55 (sv 7)); simp only [qT, pT, Act.put, sIA, sCS, sCZ]; simp [go_sem, quietTo, Ext.refl, f7]; all_goals rfl
      refine fq 9 rfl rfl rfl cK rfl rfl ?_; apply Exists.intro; constructor
      ·rintro sv w' hw' ⟨_, (f8 : sv 8 = _), -⟩; (try dsimp only at f8)
       refine ⟨rfl, ?_⟩; simp only [putsL]; change qT (pT (pT _ 56 (sv 8)) 55 (sv 7)); simp only [qT, pT, Act.put, sIA, sCS, sCZ]; simp [go_sem, quietTo, Ext.refl, f8]; all_goals rfl
      refine fq 10 rfl rfl rfl cK rfl rfl ?_; apply Exists.intro; constructor
      ·rintro sv w' hw' ⟨_, _, (f9 : sv 9 = _), -⟩; (try dsimp only at f9)
       refine ⟨rfl, ?_⟩; simp only [putsL]; change qT (pT (pT (pT _ 57 (sv 9)) 56 (sv 8)) 55 (sv 7)); simp only [qT, pT, Act.put, sIA, sCS, sCZ]; simp [go_sem, quietTo, Ext.refl, f9]; all_goals rfl
      refine fq 11 rfl rfl rfl cK rfl rfl ?_; apply Exists.intro; constructor
      ·rintro sv w' hw' ⟨_, _, _, (f10 : sv 10 = _), -⟩; (try dsimp only at f10)
       obtain ⟨hc, hf, hz9⟩ := ((Ext.refl wr).drew.trans hw').walk; have y2 := (hc bb 2 lb).trans d2; have y3 := (hc bb 3 lb).trans d3
       refine ⟨rfl, ?_⟩; simp only [putsL]; change qT (pT (pT (pT (pT _ 58 (sv 10)) 57 (sv 9)) 56 (sv 8)) 55 (sv 7)); simp only [qT, pT, Act.put, sIA, sCS, sCZ]; simp [go_sem, quietTo, Ext.refl, ↓IntWalk.iteOmega, f10, y3]; (all_goals try simp (disch := omega) only [IntWalk.i64_in]); all_goals rfl
      refine fq 12 rfl rfl rfl cK rfl rfl ?_; apply Exists.intro; constructor
      ·rintro sv w' hw' ⟨_, _, _, _, _, _, (f6 : sv 6 = _), _, _, _, _, (f11 : sv 11 = _), -⟩; (try dsimp only at f6 f11)
       refine ⟨rfl, ?_⟩; simp only [putsL]; change qT (pT (pT (pT (pT (pT (pT (pT (pT (pT (pT (pT (pT _ 59 (sv 11)) 58 (sv 10)) 57 (sv 9)) 56 (sv 8)) 55 (sv 7)) 54 (sv 6)) 53 (sv 5)) 52 (sv 4)) 51 (sv 3)) 50 (sv 2)) 49 (sv 1)) 48 (sv 0)); simp only [qT, pT, Act.put, sIA, sCS, sCZ]; simp [go_sem, quietTo, Ext.refl, ↓IntWalk.iteOmega, f6, f11]; (all_goals try simp (disch := omega) only [IntWalk.i64_in]); all_goals rfl
      refine fac_nil fun xb wrb herb hfrb hcrb holdb hapb => ?_
      obtain ⟨(f0 : xb 0 = _), (f1 : xb 1 = _), (f2 : xb 2 = _), (f3 : xb 3 = _), (f4 : xb 4 = _), (f5 : xb 5 = _), (f6 : xb 6 = _), (f7 : xb 7 = _), (f8 : xb 8 = _), (f9 : xb 9 = _), (f10 : xb 10 = _), (f11 : xb 11 = _), (f12 : xb 12 = _), -⟩ := hfrb; (try dsimp only at f0 f1 f2 f3 f4 f5 f6 f7 f8 f9 f10 f11 f12)
      change wpList _ _ _ _ (pT (pT (pT (pT (pT (pT (pT (pT (pT (pT (pT (pT (pT _ 48 (xb 0)) 49 (xb 1)) 50 (xb 2)) 51 (xb 3)) 52 (xb 4)) 53 (xb 5)) 54 (xb 6)) 55 (xb 7)) 56 (xb 8)) 57 (xb 9)) 58 (xb 10)) 59 (xb 11)) 60 (xb 12)) _
      simp only [putsL, Nat.reduceAdd, List.drop_succ_cons, List.drop_zero, List.drop_nil, pT, Act.put, sIA, sCS, sCZ]
      try simp only [f0, f1, f2, f3, f4, f5, f6, f7, f8, f9, f10, f11, f12]
      clear f0 f1 f2 f3 f4 f5 f6 f7 f8 f9 f10 f11 f12; clear holdb hapb
      have hkb := (Ext.refl wr).drew.trans herb
      go_wp2
      go_roundw
      case rel => exact ⟨j + 1, _, _, rfl, rfl, by rw [← hn1.out], by have := hdd.out; omega, fun _ => by have := hdd.out; have := hOv.out; omega, he.trans hkb⟩
      case measure => have := hZ9.out; simp [intOf]; omega
     ·-- nothing is owed for being late
      have hs9 := hx1 (.inr (.inr (by omega)))
      have hab : 0 ≤ a ∧ a ≤ 10000 := hm1
      have hw5 : IntKind.i64.wrap (a + ti.cost) = a + ti.cost := IntWalk.i64_in _ (by omega)
      clear hn1; replace hs9 := Lib.hid hs9
      cases hlost : l.lost
      ·rw [hlost] at x5
       go_wp2
       go_ret
       exact ⟨by rw [← hs9.out]; simp, hEr⟩
      ·rw [hlost] at x5
       go_upto_region 10 with fail
       refine wp_region_facts [10] [([],false,false),([0],false,false),([0,1],false,false),([0,1,2],false,false),([],false,false),([4],false,false),([4,5],false,false),([0,1,2,3,4,5,6],false,false),([0,1,2,3,4,5,6,7],false,false),([0,1,2,3,4,5,6,7,8],false,false),([0,1,2,3,4,5,6,7,8],false,false),([], false, true)] (Ext) Ext (fun _ => True) (by kernel_rfl) (by kernel_rfl) Ext.refl (fun _ _ _ => Ext.trans) (fun _ _ h => h) (fun _ _ h => h.size) (fun _ _ h _ => h) trivial ?_
       dsimp only [List.length_cons, List.length_nil, List.drop_succ_cons, List.drop_zero, List.drop_nil]
       refine fq 0 rfl rfl rfl cK rfl rfl ?_; apply Exists.intro; constructor
       ·intro sv w' hw' hfa
        refine ⟨rfl, ?_⟩; simp only [putsL]; change qT _; simp only [qT, Act.put, sIA, sCS, sCZ]; simp [go_sem, quietTo, Ext.refl]; all_goals rfl
       refine fq 1 rfl rfl rfl cK rfl rfl ?_; apply Exists.intro; constructor
       ·rintro sv w' hw' ⟨(f0 : sv 0 = _), -⟩; (try dsimp only at f0)
        refine ⟨rfl, ?_⟩; simp only [putsL]; change qT (pT _ 64 (sv 0)); simp only [qT, pT, Act.put, sIA, sCS, sCZ]; simp [go_sem, quietTo, Ext.refl, f0]; all_goals rfl
       refine fq 2 rfl rfl rfl cK rfl rfl ?_; apply Exists.intro; constructor
       ·rintro sv w' hw' ⟨_, (f1 : sv 1 = _), -⟩; (try dsimp only at f1)
        refine ⟨rfl, ?_⟩; simp only [putsL]; change qT (pT (pT _ 65 (sv 1)) 64 (sv 0)); simp only [qT, pT, Act.put, sIA, sCS, sCZ]; simp [go_sem, quietTo, Ext.refl, f1]; all_goals rfl
       refine fq 3 rfl rfl rfl cK rfl rfl ?_; apply Exists.intro; constructor
       ·rintro sv w' hw' ⟨_, _, (f2 : sv 2 = _), -⟩; (try dsimp only at f2)
        have hk9 := (Ext.refl wr).drew.trans hw'; obtain ⟨hc, hf, hz9⟩ := hk9.walk; have y0 := (hc bb 0 lb).trans d0; have z0 := (hc gx 0 lx).trans x0
        refine ⟨rfl, ?_⟩; simp only [putsL]; change qT (pT (pT (pT _ 66 (sv 2)) 65 (sv 1)) 64 (sv 0)); simp only [qT, pT, Act.put, sIA, sCS, sCZ]; simp [go_sem, quietTo, Ext.refl, ↓IntWalk.iteOmega, f2, y0]; (all_goals try simp (disch := omega) only [IntWalk.i64_in]); all_goals rfl
       refine fq 4 rfl rfl rfl cK rfl rfl ?_; apply Exists.intro; constructor
       ·intro sv w' hw' hfa
        refine ⟨rfl, ?_⟩; simp only [putsL]; change qT _; simp only [qT, Act.put, sIA, sCS, sCZ]; simp [go_sem, quietTo, Ext.refl]; all_goals rfl
       refine fq 5 rfl rfl rfl cK rfl rfl ?_; apply Exists.intro; constructor
       ·rintro sv w' hw' ⟨(f4 : sv 4 = _), -⟩; (try dsimp only at f4)
        refine ⟨rfl, ?_⟩; simp only [putsL]; change qT (pT _ 68 (sv 4)); simp only [qT, pT, Act.put, sIA, sCS, sCZ]; simp [go_sem, quietTo, Ext.refl, f4]; all_goals rfl
       refine fq 6 rfl rfl rfl cK rfl rfl ?_; apply Exists.intro; constructor
       ·rintro sv w' hw' ⟨_, (f5 : sv 5 = _), -⟩; (try dsimp only at f5)
        have hk9 := (Ext.refl wr).drew.trans hw'; obtain ⟨hc, hf, hz9⟩ := hk9.walk; have y0 := (hc bb 0 lb).trans d0; have z0 := (hc gx 0 lx).trans x0
        refine ⟨rfl, ?_⟩; simp only [putsL]; change qT (pT (pT _ 69 (sv 5)) 68 (sv 4)); simp only [qT, pT, Act.put, sIA, sCS, sCZ]; simp [go_sem, quietTo, Ext.refl, ↓IntWalk.iteOmega, f5, z0]; (all_goals try simp (disch := omega) only [IntWalk.i64_in]); all_goals rfl
       refine fq 7 rfl rfl rfl cK rfl rfl ?_; apply Exists.intro; constructor
       ·rintro sv w' hw' ⟨(f0 : sv 0 = _), (f1 : sv 1 = _), (f2 : sv 2 = _), (f3 : sv 3 = _), (f4 : sv 4 = _), (f5 : sv 5 = _), (f6 : sv 6 = _), -⟩; (try dsimp only at f0 f1 f2 f3 f4 f5 f6)
        have hk9 := (Ext.refl wr).drew.trans hw'; obtain ⟨hc, hf, hz9⟩ := hk9.walk; have y0 := (hc bb 0 lb).trans d0; have z0 := (hc gx 0 lx).trans x0
        refine ⟨rfl, ?_⟩; simp only [putsL]; change qT (pT (pT (pT (pT (pT (pT (pT _ 70 (sv 6)) 69 (sv 5)) 68 (sv 4)) 67 (sv 3)) 66 (sv 2)) 65 (sv 1)) 64 (sv 0)); simp only [qT, pT, Act.put, sIA, sCS, sCZ]; simp [go_sem, quietTo, Ext.refl, ↓IntWalk.iteOmega, f3, f6]; (all_goals try simp (disch := omega) only [IntWalk.i64_in]); all_goals first | rfl | (exact hti.out _ (hEr.trans hk9))
       refine fq 8 rfl rfl rfl cK rfl rfl ?_; apply Exists.intro; constructor
       ·rintro sv w' hw' ⟨_, _, _, _, _, _, _, (f7 : sv 7 = _), -⟩; (try dsimp only at f7)
        refine ⟨rfl, ?_⟩; simp only [putsL]; change qT (pT (pT (pT (pT (pT (pT (pT (pT _ 71 (sv 7)) 70 (sv 6)) 69 (sv 5)) 68 (sv 4)) 67 (sv 3)) 66 (sv 2)) 65 (sv 1)) 64 (sv 0)); simp only [qT, pT, Act.put, sIA, sCS, sCZ]; simp [go_sem, quietTo, Ext.refl, f7]; all_goals rfl
       refine fq 9 rfl rfl rfl cK rfl rfl ?_; apply Exists.intro; constructor
       ·rintro sv w' hw' ⟨_, _, _, _, _, _, _, _, (f8 : sv 8 = _), -⟩; (try dsimp only at f8)
        refine ⟨rfl, ?_⟩; simp only [putsL]; change qT (pT (pT (pT (pT (pT (pT (pT (pT (pT _ 63 (sv 8)) 71 (sv 7)) 70 (sv 6)) 69 (sv 5)) 68 (sv 4)) 67 (sv 3)) 66 (sv 2)) 65 (sv 1)) 64 (sv 0)); simp only [qT, pT, Act.put, sIA, sCS, sCZ]; simp [go_sem, quietTo, Ext.refl, f8]; all_goals rfl
       refine fac_late 10 rfl rfl Ext.refl cK rfl rfl (fun _ _ _ _ h => h) ?_; apply Exists.intro; constructor
       ·rintro sv w' hw' ⟨_, _, _, _, _, _, _, _, (f8 : sv 8 = _), -⟩; (try dsimp only at f8)
        refine ⟨rfl, fun w2 => ?_⟩
        simp only [putsL]
        change pureTo _ _ (Sem.run _ (execOp (Act.eval (Act.put (Act.put (Act.put (Act.put (Act.put (Act.put (Act.put (Act.put (Act.put _ (some 63) (sv 8)) (some 71) (sv 7)) (some 70) (sv 6)) (some 69) (sv 5)) (some 68) (sv 4)) (some 67) (sv 3)) (some 66) (sv 2)) (some 65) (sv 1)) (some 64) (sv 0))) _) _)
        try simp only [Act.put, sIA, sCS, sCZ]
        simp [go_sem, pureTo, f8]
        (all_goals try simp (disch := omega) only [IntWalk.i64_in]); all_goals rfl
       refine fac_box 11 rfl rfl rfl cK (fun _ _ h => h.size) (fun _ _ _ _ _ he _ hb => hb.ext he) ?_
       apply Exists.intro
       apply Exists.intro
       refine ⟨fun sv w' hw' hfa => ?_, ?_⟩
       ·refine ⟨rfl, ?_⟩
        simp only [putsL]
        change boxTo _ _ _ (Sem.run _ (execOp (Act.eval _) _) _)
        try simp only [Act.put, sIA, sCS, sCZ]
        simp [go_sem, boxTo, Ext.refl]
        (all_goals try simp (disch := omega) only [IntWalk.i64_in]); all_goals first | rfl | exact ⟨rfl, rfl⟩ | exact ⟨⟨rfl, rfl⟩, rfl⟩
       refine fac_nil fun xc wrc herc hfrc hcrc holdc hapc => ?_
       obtain ⟨(f0 : xc 0 = _), (f1 : xc 1 = _), (f2 : xc 2 = _), (f3 : xc 3 = _), (f4 : xc 4 = _), (f5 : xc 5 = _), (f6 : xc 6 = _), (f7 : xc 7 = _), (f8 : xc 8 = _), (f9 : xc 9 = _), (f10 : xc 10 = _), f11, -⟩ := hfrc; (try dsimp only at f0 f1 f2 f3 f4 f5 f6 f7 f8 f9 f10)
       obtain ⟨g11, f11, l11, b11⟩ := f11; replace f11 : xc 11 = _ := f11; obtain ⟨p11, q11⟩ := b11.walk
       change wpList _ _ _ _ (pT (pT (pT (pT (pT (pT (pT (pT (pT (pT (pT (pT _ 64 (xc 0)) 65 (xc 1)) 66 (xc 2)) 67 (xc 3)) 68 (xc 4)) 69 (xc 5)) 70 (xc 6)) 71 (xc 7)) 63 (xc 8)) 72 (xc 9)) 73 (xc 10)) 10 (xc 11)) _
       simp only [putsL, Nat.reduceAdd, List.drop_succ_cons, List.drop_zero, List.drop_nil, pT, Act.put, sIA, sCS, sCZ]
       try simp only [f0, f1, f2, f3, f4, f5, f6, f7, f8, f9, f10, f11]
       clear f0 f1 f2 f3 f4 f5 f6 f7 f8 f9 f10; clear holdc hapc
       have hkc := hEr.trans ((Ext.refl wr).drew.trans herc)
       have hgg : w.heap.size ≤ g11 := Nat.le_trans hEr.size (by first | exact l11 | omega)
       go_wp2
       go_ret
       exact ⟨by rw [← hs9.out]; simp, (((hkc.setCell (by simp; omega) _).setCell (by simp; omega) _).setCell (by simp; omega) _)⟩
    ·-- it is at its most
     have hs9 := hx1 (.inr (.inl (by omega)))
     have hab : 0 ≤ a ∧ a ≤ 10000 := hm1
     have hw5 : IntKind.i64.wrap (a + ti.cost) = a + ti.cost := IntWalk.i64_in _ (by omega)
     clear hn1; replace hs9 := Lib.hid hs9
     cases hlost : l.lost
     ·rw [hlost] at x5
      go_wp2
      go_ret
      exact ⟨by rw [← hs9.out]; simp, hEr⟩
     ·rw [hlost] at x5
      go_upto_region 10 with fail
      refine wp_region_facts [10] [([],false,false),([0],false,false),([0,1],false,false),([0,1,2],false,false),([],false,false),([4],false,false),([4,5],false,false),([0,1,2,3,4,5,6],false,false),([0,1,2,3,4,5,6,7],false,false),([0,1,2,3,4,5,6,7,8],false,false),([0,1,2,3,4,5,6,7,8],false,false),([], false, true)] (Ext) Ext (fun _ => True) (by kernel_rfl) (by kernel_rfl) Ext.refl (fun _ _ _ => Ext.trans) (fun _ _ h => h) (fun _ _ h => h.size) (fun _ _ h _ => h) trivial ?_
      dsimp only [List.length_cons, List.length_nil, List.drop_succ_cons, List.drop_zero, List.drop_nil]
      refine fq 0 rfl rfl rfl cK rfl rfl ?_; apply Exists.intro; constructor
      ·intro sv w' hw' hfa
       refine ⟨rfl, ?_⟩; simp only [putsL]; change qT _; simp only [qT, Act.put, sIA, sCS, sCZ]; simp [go_sem, quietTo, Ext.refl]; all_goals rfl
      refine fq 1 rfl rfl rfl cK rfl rfl ?_; apply Exists.intro; constructor
      ·rintro sv w' hw' ⟨(f0 : sv 0 = _), -⟩; (try dsimp only at f0)
       refine ⟨rfl, ?_⟩; simp only [putsL]; change qT (pT _ 64 (sv 0)); simp only [qT, pT, Act.put, sIA, sCS, sCZ]; simp [go_sem, quietTo, Ext.refl, f0]; all_goals rfl
      refine fq 2 rfl rfl rfl cK rfl rfl ?_; apply Exists.intro; constructor
      ·rintro sv w' hw' ⟨_, (f1 : sv 1 = _), -⟩; (try dsimp only at f1)
       refine ⟨rfl, ?_⟩; simp only [putsL]; change qT (pT (pT _ 65 (sv 1)) 64 (sv 0)); simp only [qT, pT, Act.put, sIA, sCS, sCZ]; simp [go_sem, quietTo, Ext.refl, f1]; all_goals rfl
      refine fq 3 rfl rfl rfl cK rfl rfl ?_; apply Exists.intro; constructor
      ·rintro sv w' hw' ⟨_, _, (f2 : sv 2 = _), -⟩; (try dsimp only at f2)
       have hk9 := (Ext.refl wr).drew.trans hw'; obtain ⟨hc, hf, hz9⟩ := hk9.walk; have y0 := (hc bb 0 lb).trans d0; have z0 := (hc gx 0 lx).trans x0
       refine ⟨rfl, ?_⟩; simp only [putsL]; change qT (pT (pT (pT _ 66 (sv 2)) 65 (sv 1)) 64 (sv 0)); simp only [qT, pT, Act.put, sIA, sCS, sCZ]; simp [go_sem, quietTo, Ext.refl, ↓IntWalk.iteOmega, f2, y0]; (all_goals try simp (disch := omega) only [IntWalk.i64_in]); all_goals rfl
      refine fq 4 rfl rfl rfl cK rfl rfl ?_; apply Exists.intro; constructor
      ·intro sv w' hw' hfa
       refine ⟨rfl, ?_⟩; simp only [putsL]; change qT _; simp only [qT, Act.put, sIA, sCS, sCZ]; simp [go_sem, quietTo, Ext.refl]; all_goals rfl
      refine fq 5 rfl rfl rfl cK rfl rfl ?_; apply Exists.intro; constructor
      ·rintro sv w' hw' ⟨(f4 : sv 4 = _), -⟩; (try dsimp only at f4)
       refine ⟨rfl, ?_⟩; simp only [putsL]; change qT (pT _ 68 (sv 4)); simp only [qT, pT, Act.put, sIA, sCS, sCZ]; simp [go_sem, quietTo, Ext.refl, f4]; all_goals rfl
      refine fq 6 rfl rfl rfl cK rfl rfl ?_; apply Exists.intro; constructor
      ·rintro sv w' hw' ⟨_, (f5 : sv 5 = _), -⟩; (try dsimp only at f5)
       have hk9 := (Ext.refl wr).drew.trans hw'; obtain ⟨hc, hf, hz9⟩ := hk9.walk; have y0 := (hc bb 0 lb).trans d0; have z0 := (hc gx 0 lx).trans x0
       refine ⟨rfl, ?_⟩; simp only [putsL]; change qT (pT (pT _ 69 (sv 5)) 68 (sv 4)); simp only [qT, pT, Act.put, sIA, sCS, sCZ]; simp [go_sem, quietTo, Ext.refl, ↓IntWalk.iteOmega, f5, z0]; (all_goals try simp (disch := omega) only [IntWalk.i64_in]); all_goals rfl
      refine fq 7 rfl rfl rfl cK rfl rfl ?_; apply Exists.intro; constructor
      ·rintro sv w' hw' ⟨(f0 : sv 0 = _), (f1 : sv 1 = _), (f2 : sv 2 = _), (f3 : sv 3 = _), (f4 : sv 4 = _), (f5 : sv 5 = _), (f6 : sv 6 = _), -⟩; (try dsimp only at f0 f1 f2 f3 f4 f5 f6)
       have hk9 := (Ext.refl wr).drew.trans hw'; obtain ⟨hc, hf, hz9⟩ := hk9.walk; have y0 := (hc bb 0 lb).trans d0; have z0 := (hc gx 0 lx).trans x0
       refine ⟨rfl, ?_⟩; simp only [putsL]; change qT (pT (pT (pT (pT (pT (pT (pT _ 70 (sv 6)) 69 (sv 5)) 68 (sv 4)) 67 (sv 3)) 66 (sv 2)) 65 (sv 1)) 64 (sv 0)); simp only [qT, pT, Act.put, sIA, sCS, sCZ]; simp [go_sem, quietTo, Ext.refl, ↓IntWalk.iteOmega, f3, f6]; (all_goals try simp (disch := omega) only [IntWalk.i64_in]); all_goals first | rfl | (exact hti.out _ (hEr.trans hk9))
      refine fq 8 rfl rfl rfl cK rfl rfl ?_; apply Exists.intro; constructor
      ·rintro sv w' hw' ⟨_, _, _, _, _, _, _, (f7 : sv 7 = _), -⟩; (try dsimp only at f7)
       refine ⟨rfl, ?_⟩; simp only [putsL]; change qT (pT (pT (pT (pT (pT (pT (pT (pT _ 71 (sv 7)) 70 (sv 6)) 69 (sv 5)) 68 (sv 4)) 67 (sv 3)) 66 (sv 2)) 65 (sv 1)) 64 (sv 0)); simp only [qT, pT, Act.put, sIA, sCS, sCZ]; simp [go_sem, quietTo, Ext.refl, f7]; all_goals rfl
      refine fq 9 rfl rfl rfl cK rfl rfl ?_; apply Exists.intro; constructor
      ·rintro sv w' hw' ⟨_, _, _, _, _, _, _, _, (f8 : sv 8 = _), -⟩; (try dsimp only at f8)
       refine ⟨rfl, ?_⟩; simp only [putsL]; change qT (pT (pT (pT (pT (pT (pT (pT (pT (pT _ 63 (sv 8)) 71 (sv 7)) 70 (sv 6)) 69 (sv 5)) 68 (sv 4)) 67 (sv 3)) 66 (sv 2)) 65 (sv 1)) 64 (sv 0)); simp only [qT, pT, Act.put, sIA, sCS, sCZ]; simp [go_sem, quietTo, Ext.refl, f8]; all_goals rfl
      refine fac_late 10 rfl rfl Ext.refl cK rfl rfl (fun _ _ _ _ h => h) ?_; apply Exists.intro; constructor
      ·rintro sv w' hw' ⟨_, _, _, _, _, _, _, _, (f8 : sv 8 = _), -⟩; (try dsimp only at f8)
       refine ⟨rfl, fun w2 => ?_⟩
       simp only [putsL]
       change pureTo _ _ (Sem.run _ (execOp (Act.eval (Act.put (Act.put (Act.put (Act.put (Act.put (Act.put (Act.put (Act.put (Act.put _ (some 63) (sv 8)) (some 71) (sv 7)) (some 70) (sv 6)) (some 69) (sv 5)) (some 68) (sv 4)) (some 67) (sv 3)) (some 66) (sv 2)) (some 65) (sv 1)) (some 64) (sv 0))) _) _)
       try simp only [Act.put, sIA, sCS, sCZ]
       simp [go_sem, pureTo, f8]
       (all_goals try simp (disch := omega) only [IntWalk.i64_in]); all_goals rfl
      refine fac_box 11 rfl rfl rfl cK (fun _ _ h => h.size) (fun _ _ _ _ _ he _ hb => hb.ext he) ?_
      apply Exists.intro
      apply Exists.intro
      refine ⟨fun sv w' hw' hfa => ?_, ?_⟩
      ·refine ⟨rfl, ?_⟩
       simp only [putsL]
       change boxTo _ _ _ (Sem.run _ (execOp (Act.eval _) _) _)
       try simp only [Act.put, sIA, sCS, sCZ]
       simp [go_sem, boxTo, Ext.refl]
       (all_goals try simp (disch := omega) only [IntWalk.i64_in]); all_goals first | rfl | exact ⟨rfl, rfl⟩ | exact ⟨⟨rfl, rfl⟩, rfl⟩
      refine fac_nil fun xc wrc herc hfrc hcrc holdc hapc => ?_
      obtain ⟨(f0 : xc 0 = _), (f1 : xc 1 = _), (f2 : xc 2 = _), (f3 : xc 3 = _), (f4 : xc 4 = _), (f5 : xc 5 = _), (f6 : xc 6 = _), (f7 : xc 7 = _), (f8 : xc 8 = _), (f9 : xc 9 = _), (f10 : xc 10 = _), f11, -⟩ := hfrc; (try dsimp only at f0 f1 f2 f3 f4 f5 f6 f7 f8 f9 f10)
      obtain ⟨g11, f11, l11, b11⟩ := f11; replace f11 : xc 11 = _ := f11; obtain ⟨p11, q11⟩ := b11.walk
      change wpList _ _ _ _ (pT (pT (pT (pT (pT (pT (pT (pT (pT (pT (pT (pT _ 64 (xc 0)) 65 (xc 1)) 66 (xc 2)) 67 (xc 3)) 68 (xc 4)) 69 (xc 5)) 70 (xc 6)) 71 (xc 7)) 63 (xc 8)) 72 (xc 9)) 73 (xc 10)) 10 (xc 11)) _
      simp only [putsL, Nat.reduceAdd, List.drop_succ_cons, List.drop_zero, List.drop_nil, pT, Act.put, sIA, sCS, sCZ]
      try simp only [f0, f1, f2, f3, f4, f5, f6, f7, f8, f9, f10, f11]
      clear f0 f1 f2 f3 f4 f5 f6 f7 f8 f9 f10; clear holdc hapc
      have hkc := hEr.trans ((Ext.refl wr).drew.trans herc)
      have hgg : w.heap.size ≤ g11 := Nat.le_trans hEr.size (by first | exact l11 | omega)
      go_wp2
      go_ret
      exact ⟨by rw [← hs9.out]; simp, (((hkc.setCell (by simp; omega) _).setCell (by simp; omega) _).setCell (by simp; omega) _)⟩
   ·-- all days are counted
    have hs9 := hx1 (.inl (by have := hdd.out; have := hOv.out; omega))
    have hab : 0 ≤ a ∧ a ≤ 10000 := hm1
    have hw5 : IntKind.i64.wrap (a + ti.cost) = a + ti.cost := IntWalk.i64_in _ (by omega)
    clear hn1; replace hs9 := Lib.hid hs9
    cases hlost : l.lost
    ·rw [hlost] at x5
     go_wp2
     go_ret
     exact ⟨by rw [← hs9.out]; simp, hEr⟩
    ·rw [hlost] at x5
     go_upto_region 10 with fail
     refine wp_region_facts [10] [([],false,false),([0],false,false),([0,1],false,false),([0,1,2],false,false),([],false,false),([4],false,false),([4,5],false,false),([0,1,2,3,4,5,6],false,false),([0,1,2,3,4,5,6,7],false,false),([0,1,2,3,4,5,6,7,8],false,false),([0,1,2,3,4,5,6,7,8],false,false),([], false, true)] (Ext) Ext (fun _ => True) (by kernel_rfl) (by kernel_rfl) Ext.refl (fun _ _ _ => Ext.trans) (fun _ _ h => h) (fun _ _ h => h.size) (fun _ _ h _ => h) trivial ?_
     dsimp only [List.length_cons, List.length_nil, List.drop_succ_cons, List.drop_zero, List.drop_nil]
     refine fq 0 rfl rfl rfl cK rfl rfl ?_; apply Exists.intro; constructor
     ·intro sv w' hw' hfa
      refine ⟨rfl, ?_⟩; simp only [putsL]; change qT _; simp only [qT, Act.put, sIA, sCS, sCZ]; simp [go_sem, quietTo, Ext.refl]; all_goals rfl
     refine fq 1 rfl rfl rfl cK rfl rfl ?_; apply Exists.intro; constructor
     ·rintro sv w' hw' ⟨(f0 : sv 0 = _), -⟩; (try dsimp only at f0)
      refine ⟨rfl, ?_⟩; simp only [putsL]; change qT (pT _ 64 (sv 0)); simp only [qT, pT, Act.put, sIA, sCS, sCZ]; simp [go_sem, quietTo, Ext.refl, f0]; all_goals rfl
     refine fq 2 rfl rfl rfl cK rfl rfl ?_; apply Exists.intro; constructor
     ·rintro sv w' hw' ⟨_, (f1 : sv 1 = _), -⟩; (try dsimp only at f1)
      refine ⟨rfl, ?_⟩; simp only [putsL]; change qT (pT (pT _ 65 (sv 1)) 64 (sv 0)); simp only [qT, pT, Act.put, sIA, sCS, sCZ]; simp [go_sem, quietTo, Ext.refl, f1]; all_goals rfl
     refine fq 3 rfl rfl rfl cK rfl rfl ?_; apply Exists.intro; constructor
     ·rintro sv w' hw' ⟨_, _, (f2 : sv 2 = _), -⟩; (try dsimp only at f2)
      have hk9 := (Ext.refl wr).drew.trans hw'; obtain ⟨hc, hf, hz9⟩ := hk9.walk; have y0 := (hc bb 0 lb).trans d0; have z0 := (hc gx 0 lx).trans x0
      refine ⟨rfl, ?_⟩; simp only [putsL]; change qT (pT (pT (pT _ 66 (sv 2)) 65 (sv 1)) 64 (sv 0)); simp only [qT, pT, Act.put, sIA, sCS, sCZ]; simp [go_sem, quietTo, Ext.refl, ↓IntWalk.iteOmega, f2, y0]; (all_goals try simp (disch := omega) only [IntWalk.i64_in]); all_goals rfl
     refine fq 4 rfl rfl rfl cK rfl rfl ?_; apply Exists.intro; constructor
     ·intro sv w' hw' hfa
      refine ⟨rfl, ?_⟩; simp only [putsL]; change qT _; simp only [qT, Act.put, sIA, sCS, sCZ]; simp [go_sem, quietTo, Ext.refl]; all_goals rfl
     refine fq 5 rfl rfl rfl cK rfl rfl ?_; apply Exists.intro; constructor
     ·rintro sv w' hw' ⟨(f4 : sv 4 = _), -⟩; (try dsimp only at f4)
      refine ⟨rfl, ?_⟩; simp only [putsL]; change qT (pT _ 68 (sv 4)); simp only [qT, pT, Act.put, sIA, sCS, sCZ]; simp [go_sem, quietTo, Ext.refl, f4]; all_goals rfl
     refine fq 6 rfl rfl rfl cK rfl rfl ?_; apply Exists.intro; constructor
     ·rintro sv w' hw' ⟨_, (f5 : sv 5 = _), -⟩; (try dsimp only at f5)
      have hk9 := (Ext.refl wr).drew.trans hw'; obtain ⟨hc, hf, hz9⟩ := hk9.walk; have y0 := (hc bb 0 lb).trans d0; have z0 := (hc gx 0 lx).trans x0
      refine ⟨rfl, ?_⟩; simp only [putsL]; change qT (pT (pT _ 69 (sv 5)) 68 (sv 4)); simp only [qT, pT, Act.put, sIA, sCS, sCZ]; simp [go_sem, quietTo, Ext.refl, ↓IntWalk.iteOmega, f5, z0]; (all_goals try simp (disch := omega) only [IntWalk.i64_in]); all_goals rfl
     refine fq 7 rfl rfl rfl cK rfl rfl ?_; apply Exists.intro; constructor
     ·rintro sv w' hw' ⟨(f0 : sv 0 = _), (f1 : sv 1 = _), (f2 : sv 2 = _), (f3 : sv 3 = _), (f4 : sv 4 = _), (f5 : sv 5 = _), (f6 : sv 6 = _), -⟩; (try dsimp only at f0 f1 f2 f3 f4 f5 f6)
      have hk9 := (Ext.refl wr).drew.trans hw'; obtain ⟨hc, hf, hz9⟩ := hk9.walk; have y0 := (hc bb 0 lb).trans d0; have z0 := (hc gx 0 lx).trans x0
      refine ⟨rfl, ?_⟩; simp only [putsL]; change qT (pT (pT (pT (pT (pT (pT (pT _ 70 (sv 6)) 69 (sv 5)) 68 (sv 4)) 67 (sv 3)) 66 (sv 2)) 65 (sv 1)) 64 (sv 0)); simp only [qT, pT, Act.put, sIA, sCS, sCZ]; simp [go_sem, quietTo, Ext.refl, ↓IntWalk.iteOmega, f3, f6]; (all_goals try simp (disch := omega) only [IntWalk.i64_in]); all_goals first | rfl | (exact hti.out _ (hEr.trans hk9))
     refine fq 8 rfl rfl rfl cK rfl rfl ?_; apply Exists.intro; constructor
     ·rintro sv w' hw' ⟨_, _, _, _, _, _, _, (f7 : sv 7 = _), -⟩; (try dsimp only at f7)
      refine ⟨rfl, ?_⟩; simp only [putsL]; change qT (pT (pT (pT (pT (pT (pT (pT (pT _ 71 (sv 7)) 70 (sv 6)) 69 (sv 5)) 68 (sv 4)) 67 (sv 3)) 66 (sv 2)) 65 (sv 1)) 64 (sv 0)); simp only [qT, pT, Act.put, sIA, sCS, sCZ]; simp [go_sem, quietTo, Ext.refl, f7]; all_goals rfl
     refine fq 9 rfl rfl rfl cK rfl rfl ?_; apply Exists.intro; constructor
     ·rintro sv w' hw' ⟨_, _, _, _, _, _, _, _, (f8 : sv 8 = _), -⟩; (try dsimp only at f8)
      refine ⟨rfl, ?_⟩; simp only [putsL]; change qT (pT (pT (pT (pT (pT (pT (pT (pT (pT _ 63 (sv 8)) 71 (sv 7)) 70 (sv 6)) 69 (sv 5)) 68 (sv 4)) 67 (sv 3)) 66 (sv 2)) 65 (sv 1)) 64 (sv 0)); simp only [qT, pT, Act.put, sIA, sCS, sCZ]; simp [go_sem, quietTo, Ext.refl, f8]; all_goals rfl
     refine fac_late 10 rfl rfl Ext.refl cK rfl rfl (fun _ _ _ _ h => h) ?_; apply Exists.intro; constructor
     ·rintro sv w' hw' ⟨_, _, _, _, _, _, _, _, (f8 : sv 8 = _), -⟩; (try dsimp only at f8)
      refine ⟨rfl, fun w2 => ?_⟩
      simp only [putsL]
      change pureTo _ _ (Sem.run _ (execOp (Act.eval (Act.put (Act.put (Act.put (Act.put (Act.put (Act.put (Act.put (Act.put (Act.put _ (some 63) (sv 8)) (some 71) (sv 7)) (some 70) (sv 6)) (some 69) (sv 5)) (some 68) (sv 4)) (some 67) (sv 3)) (some 66) (sv 2)) (some 65) (sv 1)) (some 64) (sv 0))) _) _)
      try simp only [Act.put, sIA, sCS, sCZ]
      simp [go_sem, pureTo, f8]
      (all_goals try simp (disch := omega) only [IntWalk.i64_in]); all_goals rfl
     refine fac_box 11 rfl rfl rfl cK (fun _ _ h => h.size) (fun _ _ _ _ _ he _ hb => hb.ext he) ?_
     apply Exists.intro
     apply Exists.intro
     refine ⟨fun sv w' hw' hfa => ?_, ?_⟩
     ·refine ⟨rfl, ?_⟩
      simp only [putsL]
      change boxTo _ _ _ (Sem.run _ (execOp (Act.eval _) _) _)
      try simp only [Act.put, sIA, sCS, sCZ]
      simp [go_sem, boxTo, Ext.refl]
      (all_goals try simp (disch := omega) only [IntWalk.i64_in]); all_goals first | rfl | exact ⟨rfl, rfl⟩ | exact ⟨⟨rfl, rfl⟩, rfl⟩
     refine fac_nil fun xc wrc herc hfrc hcrc holdc hapc => ?_
     obtain ⟨(f0 : xc 0 = _), (f1 : xc 1 = _), (f2 : xc 2 = _), (f3 : xc 3 = _), (f4 : xc 4 = _), (f5 : xc 5 = _), (f6 : xc 6 = _), (f7 : xc 7 = _), (f8 : xc 8 = _), (f9 : xc 9 = _), (f10 : xc 10 = _), f11, -⟩ := hfrc; (try dsimp only at f0 f1 f2 f3 f4 f5 f6 f7 f8 f9 f10)
     obtain ⟨g11, f11, l11, b11⟩ := f11; replace f11 : xc 11 = _ := f11; obtain ⟨p11, q11⟩ := b11.walk
     change wpList _ _ _ _ (pT (pT (pT (pT (pT (pT (pT (pT (pT (pT (pT (pT _ 64 (xc 0)) 65 (xc 1)) 66 (xc 2)) 67 (xc 3)) 68 (xc 4)) 69 (xc 5)) 70 (xc 6)) 71 (xc 7)) 63 (xc 8)) 72 (xc 9)) 73 (xc 10)) 10 (xc 11)) _
     simp only [putsL, Nat.reduceAdd, List.drop_succ_cons, List.drop_zero, List.drop_nil, pT, Act.put, sIA, sCS, sCZ]
     try simp only [f0, f1, f2, f3, f4, f5, f6, f7, f8, f9, f10, f11]
     clear f0 f1 f2 f3 f4 f5 f6 f7 f8 f9 f10; clear holdc hapc
     have hkc := hEr.trans ((Ext.refl wr).drew.trans herc)
     have hgg : w.heap.size ≤ g11 := Nat.le_trans hEr.size (by first | exact l11 | omega)
     go_wp2
     go_ret
     exact ⟨by rw [← hs9.out]; simp, (((hkc.setCell (by simp; omega) _).setCell (by simp; omega) _).setCell (by simp; omega) _)⟩
end Go.Proofs.YtkjhbofbcmelgaaGreatDoor
