/- A text of slips is read, by copies. Conditions: sizes. Lists of slips that are equal. Conditions: sizes. A text of slips is read: the walk of copies.Read. Conditions: sizes. A text of slips is read as it was written: plain; what Read answers as a slice. Conditions: as each theorem says. -/
import Derived.Test.YtehboinleolihaaGreatDoorCzSlH
import Derived.Test.YtehboinleolihaaGreatDoorCzJ3
import Derived.Test.YtehboinleolihaaGreatDoorCzJ4
set_option linter.unusedSimpArgs false
set_option linter.unusedVariables false
namespace Go.Proofs.YtehboinleolihaaGreatDoor
open Go Go.RowKit
theorem sliInfo : (Tryz.prog.info? 79).map (fun i => (i.zero, i.size, i.bytes)) = some (some (.agg #[.string ⟨#[]⟩, .int .i64 0, .int .i64 0, .int .i64 0, .string ⟨#[]⟩, .int .i64 0, .string ⟨#[]⟩]), 7,80) := by kernel_rfl
end Go.Proofs.YtehboinleolihaaGreatDoor
namespace Go.Proofs.YtehboinleolihaaGreatDoor
open Go Go.RowKit
set_option maxRecDepth 100000 in
set_option maxHeartbeats 3200000 in
theorem eqSli_any (p q : Option Addr) (n c d : Nat) (xs : List SlipV) (w : World) (h1 : Slc 7 slipC w p n c xs) (h2 : Slc 7 slipC w q n d xs) (hn : n ≤ 300000) :
 Calls Tryz.prog 65 #[.slice p n c, .slice q n d] w fun e w' => e = .returned (.bool true) ∧ Ext w w' := by
 obtain ⟨hl, hp⟩ := slcC h1
 obtain ⟨-, hq⟩ := slcC h2
 subst hl
 replace hp := Lib.hid hp; replace hq := Lib.hid hq; clear h1 h2
 go_enter Tryz.func65, Tryz.ntmps65
 go_wp2
 go_loopw [13] (fun i wr => ∃ k : Nat, k ≤ xs.length ∧ i = .int .i64 k ∧ Ext w wr) (fun i _ => xs.length - (intOf i).toNat)
 case atStart => exact ⟨0, Nat.zero_le _, rfl, Ext.refl _⟩
 case round =>
  obtain ⟨k, hk, rfl, hE⟩ := hrel
  by_cases hlt : k < xs.length
  ·obtain ⟨x, hx⟩ := getD_some (rfl : xs.length = xs.length) hlt
   rcases hp.out with ⟨-, e⟩ | ⟨b1, o1, rfl, hb1, hE1⟩
   ·rw [e] at hx; cases hx
   rcases hq.out with ⟨-, e⟩ | ⟨b2, o2, rfl, hb2, hE2⟩
   ·rw [e] at hx; cases hx
   obtain ⟨c1, c2, c3, c4, c5, c6, c7⟩ := (hE1.ext hE hb1).slip hx
   obtain ⟨d1, d2, d3, d4, d5, d6, d7⟩ := (hE2.ext hE hb2).slip hx
   have l1 := Nat.lt_of_lt_of_le hb1 hE.size
   have l2 := Nat.lt_of_lt_of_le hb2 hE.size
   have hkI : (k : Int) < xs.length := by omega
   clear hx hE1 hE2
   go_upto_region 6 with fail
   refine wp_region_facts [] [([],false,false),([],false,false),([0,1],false,false),([0,1,2],false,false),([],false,false),([],false,false),([4,5],false,false),([4,5,6],false,false),([0,1,2,3,4,5,6,7],false,false)] (Ext) Ext (fun _ => True) (by kernel_rfl) (by kernel_rfl) Ext.refl (fun _ _ _ => Ext.trans) (fun _ _ h => h) (fun _ _ h => h.size) (fun _ _ h _ => h) trivial ?_
   dsimp only [List.length_cons, List.length_nil, List.drop_succ_cons, List.drop_zero, List.drop_nil]
   refine fq 0 rfl rfl rfl cK rfl rfl ?_; apply Exists.intro; constructor
   ·intro sv w' hw' hfa
    refine ⟨rfl, ?_⟩; simp only [putsL]; change qT _; simp only [qT, Act.put, sIA, sCS, sCZ]; simp [go_sem, quietTo, Ext.refl]; all_goals rfl
   refine fq 1 rfl rfl rfl cK rfl rfl ?_; apply Exists.intro; constructor
   ·intro sv w' hw' hfa
    refine ⟨rfl, ?_⟩; simp only [putsL]; change qT _; simp only [qT, Act.put, sIA, sCS, sCZ]; simp [go_sem, quietTo, Ext.refl]; all_goals rfl
   refine fq 2 rfl rfl rfl cK rfl rfl ?_; apply Exists.intro; constructor
   ·rintro sv w' hw' ⟨(f0 : sv 0 = _), (f1 : sv 1 = _), -⟩; (try dsimp only at f0 f1)
    have hk9 := (Ext.refl wr).drew.trans hw'; obtain ⟨hc, hff, hz9⟩ := hk9.walk; have y1 := (hc _ _ l1).trans c1; have y2 := (hc _ _ l1).trans c2; have y3 := (hc _ _ l1).trans c3; have y4 := (hc _ _ l1).trans c4; have y5 := (hc _ _ l1).trans c5; have y6 := (hc _ _ l1).trans c6; have y7 := (hc _ _ l1).trans c7; have z1 := (hc _ _ l2).trans d1; have z2 := (hc _ _ l2).trans d2; have z3 := (hc _ _ l2).trans d3; have z4 := (hc _ _ l2).trans d4; have z5 := (hc _ _ l2).trans d5; have z6 := (hc _ _ l2).trans d6; have z7 := (hc _ _ l2).trans d7
    refine ⟨rfl, ?_⟩; simp only [putsL]; change qT (pT (pT _ 17 (sv 1)) 16 (sv 0)); simp only [qT, pT, Act.put, sIA, sCS, sCZ]; simp [go_sem, quietTo, Ext.refl, ↓IntWalk.iteOmega, f0, f1, hkI]; (all_goals try simp (disch := omega) only [IntWalk.i64_in]); all_goals rfl
   refine fq 3 rfl rfl rfl cK rfl rfl ?_; apply Exists.intro; constructor
   ·rintro sv w' hw' ⟨_, _, (f2 : sv 2 = _), -⟩; (try dsimp only at f2)
    have hk9 := (Ext.refl wr).drew.trans hw'; obtain ⟨hc, hff, hz9⟩ := hk9.walk; have y1 := (hc _ _ l1).trans c1; have y2 := (hc _ _ l1).trans c2; have y3 := (hc _ _ l1).trans c3; have y4 := (hc _ _ l1).trans c4; have y5 := (hc _ _ l1).trans c5; have y6 := (hc _ _ l1).trans c6; have y7 := (hc _ _ l1).trans c7; have z1 := (hc _ _ l2).trans d1; have z2 := (hc _ _ l2).trans d2; have z3 := (hc _ _ l2).trans d3; have z4 := (hc _ _ l2).trans d4; have z5 := (hc _ _ l2).trans d5; have z6 := (hc _ _ l2).trans d6; have z7 := (hc _ _ l2).trans d7
    refine ⟨rfl, ?_⟩; simp only [putsL]; change qT (pT (pT (pT _ 18 (sv 2)) 17 (sv 1)) 16 (sv 0)); simp only [qT, pT, Act.put, sIA, sCS, sCZ]; simp [go_sem, quietTo, Ext.refl, ↓IntWalk.iteOmega, f2, y1, y2, y3, y4, y5, y6, y7]; (all_goals try simp (disch := omega) only [IntWalk.i64_in]); all_goals rfl
   refine fq 4 rfl rfl rfl cK rfl rfl ?_; apply Exists.intro; constructor
   ·intro sv w' hw' hfa
    refine ⟨rfl, ?_⟩; simp only [putsL]; change qT _; simp only [qT, Act.put, sIA, sCS, sCZ]; simp [go_sem, quietTo, Ext.refl]; all_goals rfl
   refine fq 5 rfl rfl rfl cK rfl rfl ?_; apply Exists.intro; constructor
   ·intro sv w' hw' hfa
    refine ⟨rfl, ?_⟩; simp only [putsL]; change qT _; simp only [qT, Act.put, sIA, sCS, sCZ]; simp [go_sem, quietTo, Ext.refl]; all_goals rfl
   refine fq 6 rfl rfl rfl cK rfl rfl ?_; apply Exists.intro; constructor
   ·rintro sv w' hw' ⟨(f4 : sv 4 = _), (f5 : sv 5 = _), -⟩; (try dsimp only at f4 f5)
    have hk9 := (Ext.refl wr).drew.trans hw'; obtain ⟨hc, hff, hz9⟩ := hk9.walk; have y1 := (hc _ _ l1).trans c1; have y2 := (hc _ _ l1).trans c2; have y3 := (hc _ _ l1).trans c3; have y4 := (hc _ _ l1).trans c4; have y5 := (hc _ _ l1).trans c5; have y6 := (hc _ _ l1).trans c6; have y7 := (hc _ _ l1).trans c7; have z1 := (hc _ _ l2).trans d1; have z2 := (hc _ _ l2).trans d2; have z3 := (hc _ _ l2).trans d3; have z4 := (hc _ _ l2).trans d4; have z5 := (hc _ _ l2).trans d5; have z6 := (hc _ _ l2).trans d6; have z7 := (hc _ _ l2).trans d7
    refine ⟨rfl, ?_⟩; simp only [putsL]; change qT (pT (pT _ 21 (sv 5)) 20 (sv 4)); simp only [qT, pT, Act.put, sIA, sCS, sCZ]; simp [go_sem, quietTo, Ext.refl, ↓IntWalk.iteOmega, f4, f5, hkI]; (all_goals try simp (disch := omega) only [IntWalk.i64_in]); all_goals rfl
   refine fq 7 rfl rfl rfl cK rfl rfl ?_; apply Exists.intro; constructor
   ·rintro sv w' hw' ⟨_, _, (f6 : sv 6 = _), -⟩; (try dsimp only at f6)
    have hk9 := (Ext.refl wr).drew.trans hw'; obtain ⟨hc, hff, hz9⟩ := hk9.walk; have y1 := (hc _ _ l1).trans c1; have y2 := (hc _ _ l1).trans c2; have y3 := (hc _ _ l1).trans c3; have y4 := (hc _ _ l1).trans c4; have y5 := (hc _ _ l1).trans c5; have y6 := (hc _ _ l1).trans c6; have y7 := (hc _ _ l1).trans c7; have z1 := (hc _ _ l2).trans d1; have z2 := (hc _ _ l2).trans d2; have z3 := (hc _ _ l2).trans d3; have z4 := (hc _ _ l2).trans d4; have z5 := (hc _ _ l2).trans d5; have z6 := (hc _ _ l2).trans d6; have z7 := (hc _ _ l2).trans d7
    refine ⟨rfl, ?_⟩; simp only [putsL]; change qT (pT (pT (pT _ 22 (sv 6)) 21 (sv 5)) 20 (sv 4)); simp only [qT, pT, Act.put, sIA, sCS, sCZ]; simp [go_sem, quietTo, Ext.refl, ↓IntWalk.iteOmega, f6, z1, z2, z3, z4, z5, z6, z7]; (all_goals try simp (disch := omega) only [IntWalk.i64_in]); all_goals rfl
   refine fq 8 rfl rfl rfl cK rfl rfl ?_; apply Exists.intro; constructor
   ·rintro sv w' hw' ⟨_, _, _, (f3 : sv 3 = _), _, _, _, (f7 : sv 7 = _), -⟩; (try dsimp only at f3 f7)
    refine ⟨rfl, ?_⟩; simp only [putsL]; change qT (pT (pT (pT (pT (pT (pT (pT (pT _ 23 (sv 7)) 22 (sv 6)) 21 (sv 5)) 20 (sv 4)) 19 (sv 3)) 18 (sv 2)) 17 (sv 1)) 16 (sv 0)); simp only [qT, pT, Act.put, sIA, sCS, sCZ]; simp [go_sem, quietTo, Ext.refl, ↓IntWalk.iteOmega, f3, f7]; (all_goals try simp (disch := omega) only [IntWalk.i64_in]); all_goals rfl
   refine fac_nil fun xq wrq herq hfrq hcrq holdq hapq => ?_
   obtain ⟨(f0 : xq 0 = _), (f1 : xq 1 = _), (f2 : xq 2 = _), (f3 : xq 3 = _), (f4 : xq 4 = _), (f5 : xq 5 = _), (f6 : xq 6 = _), (f7 : xq 7 = _), (f8 : xq 8 = _), -⟩ := hfrq; (try dsimp only at f0 f1 f2 f3 f4 f5 f6 f7 f8)
   change wpList _ _ _ _ (pT (pT (pT (pT (pT (pT (pT (pT (pT _ 16 (xq 0)) 17 (xq 1)) 18 (xq 2)) 19 (xq 3)) 20 (xq 4)) 21 (xq 5)) 22 (xq 6)) 23 (xq 7)) 24 (xq 8)) _
   simp only [putsL, Nat.reduceAdd, List.drop_succ_cons, List.drop_zero, List.drop_nil, pT, Act.put, sIA, sCS, sCZ]
   try simp only [f0, f1, f2, f3, f4, f5, f6, f7, f8]
   clear f0 f1 f2 f3 f4 f5 f6 f7 f8; clear holdq hapq
   go_wp2
   go_roundw
   case rel => exact ⟨k + 1, by omega, by go_num, hE.trans ((Ext.refl _).drew.trans herq)⟩
   case measure => simp [intOf]; omega
  ·obtain rfl : k = xs.length := by omega
   go_wp2
   go_ret
   exact ⟨rfl, hE⟩
end Go.Proofs.YtehboinleolihaaGreatDoor
namespace Go.Proofs.YtehboinleolihaaGreatDoor
open Go Go.RowKit
end Go.Proofs.YtehboinleolihaaGreatDoor
namespace Go.Proofs.YtehboinleolihaaGreatDoor
open Go Go.RowKit
end Go.Proofs.YtehboinleolihaaGreatDoor
