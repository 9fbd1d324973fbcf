/- Rows of pairs with the same content are equal. Conditions: sizes. Titles with the same content are equal. Conditions: sizes. How many copies of each title are in: the walk of Stock. Conditions: sizes; at most 19 slips; the table of the powers of ten stands. -/
import Derived.Test.YtehboinleolihaaGreatDoorCzJ37
set_option linter.unusedSimpArgs false
set_option linter.unusedVariables false
namespace Go.Proofs.YtehboinleolihaaGreatDoor
open Go Go.RowKit
theorem Elems.lp {w : World} {b off : Nat} {xs : List (ByteArray × ByteArray)} (h : Elems 2 lpC w b off xs) {i : Nat} {x : ByteArray × ByteArray} (hx : xs[i]? = some x) :
 w.cell? ⟨b, off + i * 2, none⟩ = some (.string x.1) ∧ w.cell? ⟨b, off + i * 2 + 1, none⟩ = some (.string x.2) := ⟨h i x hx 0 _ rfl, h i x hx 1 _ rfl⟩
set_option maxRecDepth 100000 in
set_option maxHeartbeats 3200000 in
theorem eqPairs_any (p q : Option Addr) (n c d : Nat) (xs : List (ByteArray × ByteArray)) (w : World) (h1 : Slc 2 lpC w p n c xs) (h2 : Slc 2 lpC w q n d xs) (hn : n ≤ 300000) :
 Calls Tryz.prog 40 #[.slice p n c, .slice q n d] w fun e w' => e = .returned (.bool true) ∧ Ext w w' := by
 obtain ⟨hl, hp⟩ := slcC h1
 obtain ⟨-, hq⟩ := slcC h2
 subst hl
 replace hp := Lib.hid hp; replace hq := Lib.hid hq; clear h1 h2
 go_enter Tryz.func40, Tryz.ntmps40
 go_wp2
 go_loopw [13] (fun i wr => ∃ k : Nat, k ≤ xs.length ∧ i = .int .i64 k ∧ Ext w wr) (fun i _ => xs.length - (intOf i).toNat)
 case atStart => exact ⟨0, Nat.zero_le _, rfl, Ext.refl _⟩
 case round =>
  obtain ⟨k, hk, rfl, hE⟩ := hrel
  by_cases hlt : k < xs.length
  ·obtain ⟨x, hx⟩ := getD_some (rfl : xs.length = xs.length) hlt
   rcases hp.out with ⟨-, e⟩ | ⟨b1, o1, rfl, hb1, hE1⟩
   ·rw [e] at hx; cases hx
   rcases hq.out with ⟨-, e⟩ | ⟨b2, o2, rfl, hb2, hE2⟩
   ·rw [e] at hx; cases hx
   obtain ⟨c1, c2⟩ := (hE1.ext hE hb1).lp hx
   obtain ⟨d1, d2⟩ := (hE2.ext hE hb2).lp hx
   have l1 := Nat.lt_of_lt_of_le hb1 hE.size
   have l2 := Nat.lt_of_lt_of_le hb2 hE.size
   have hkI : (k : Int) < xs.length := by omega
   clear hx hE1 hE2
   go_upto_region 6 with fail
   refine wp_region_facts [] [([],false,false),([],false,false),([0,1],false,false),([0,1,2],false,false),([],false,false),([],false,false),([4,5],false,false),([4,5,6],false,false),([0,1,2,3,4,5,6,7],false,false)] (Ext) Ext (fun _ => True) (by kernel_rfl) (by kernel_rfl) Ext.refl (fun _ _ _ => Ext.trans) (fun _ _ h => h) (fun _ _ h => h.size) (fun _ _ h _ => h) trivial ?_
   dsimp only [List.length_cons, List.length_nil, List.drop_succ_cons, List.drop_zero, List.drop_nil]
   refine fq 0 rfl rfl rfl cK rfl rfl ?_; apply Exists.intro; constructor
   ·intro sv w' hw' hfa
    refine ⟨rfl, ?_⟩; simp only [putsL]; change qT _; simp only [qT, Act.put, sIA, sCS, sCZ]; simp [go_sem, quietTo, Ext.refl]; all_goals rfl
   refine fq 1 rfl rfl rfl cK rfl rfl ?_; apply Exists.intro; constructor
   ·intro sv w' hw' hfa
    refine ⟨rfl, ?_⟩; simp only [putsL]; change qT _; simp only [qT, Act.put, sIA, sCS, sCZ]; simp [go_sem, quietTo, Ext.refl]; all_goals rfl
   refine fq 2 rfl rfl rfl cK rfl rfl ?_; apply Exists.intro; constructor
   ·rintro sv w' hw' ⟨(f0 : sv 0 = _), (f1 : sv 1 = _), -⟩; (try dsimp only at f0 f1)
    have hk9 := (Ext.refl wr).drew.trans hw'; obtain ⟨hc, hff, hz9⟩ := hk9.walk; have y1 := (hc _ _ l1).trans c1; have y2 := (hc _ _ l1).trans c2; have z1 := (hc _ _ l2).trans d1; have z2 := (hc _ _ l2).trans d2
    refine ⟨rfl, ?_⟩; simp only [putsL]; change qT (pT (pT _ 17 (sv 1)) 16 (sv 0)); simp only [qT, pT, Act.put, sIA, sCS, sCZ]; simp [go_sem, quietTo, Ext.refl, ↓IntWalk.iteOmega, f0, f1, hkI]; (all_goals try simp (disch := omega) only [IntWalk.i64_in]); all_goals rfl
   refine fq 3 rfl rfl rfl cK rfl rfl ?_; apply Exists.intro; constructor
   ·rintro sv w' hw' ⟨_, _, (f2 : sv 2 = _), -⟩; (try dsimp only at f2)
    have hk9 := (Ext.refl wr).drew.trans hw'; obtain ⟨hc, hff, hz9⟩ := hk9.walk; have y1 := (hc _ _ l1).trans c1; have y2 := (hc _ _ l1).trans c2; have z1 := (hc _ _ l2).trans d1; have z2 := (hc _ _ l2).trans d2
    refine ⟨rfl, ?_⟩; simp only [putsL]; change qT (pT (pT (pT _ 18 (sv 2)) 17 (sv 1)) 16 (sv 0)); simp only [qT, pT, Act.put, sIA, sCS, sCZ]; simp [go_sem, quietTo, Ext.refl, ↓IntWalk.iteOmega, f2, y1, y2]; (all_goals try simp (disch := omega) only [IntWalk.i64_in]); all_goals rfl
   refine fq 4 rfl rfl rfl cK rfl rfl ?_; apply Exists.intro; constructor
   ·intro sv w' hw' hfa
    refine ⟨rfl, ?_⟩; simp only [putsL]; change qT _; simp only [qT, Act.put, sIA, sCS, sCZ]; simp [go_sem, quietTo, Ext.refl]; all_goals rfl
   refine fq 5 rfl rfl rfl cK rfl rfl ?_; apply Exists.intro; constructor
   ·intro sv w' hw' hfa
    refine ⟨rfl, ?_⟩; simp only [putsL]; change qT _; simp only [qT, Act.put, sIA, sCS, sCZ]; simp [go_sem, quietTo, Ext.refl]; all_goals rfl
   refine fq 6 rfl rfl rfl cK rfl rfl ?_; apply Exists.intro; constructor
   ·rintro sv w' hw' ⟨(f4 : sv 4 = _), (f5 : sv 5 = _), -⟩; (try dsimp only at f4 f5)
    have hk9 := (Ext.refl wr).drew.trans hw'; obtain ⟨hc, hff, hz9⟩ := hk9.walk; have y1 := (hc _ _ l1).trans c1; have y2 := (hc _ _ l1).trans c2; have z1 := (hc _ _ l2).trans d1; have z2 := (hc _ _ l2).trans d2
    refine ⟨rfl, ?_⟩; simp only [putsL]; change qT (pT (pT _ 21 (sv 5)) 20 (sv 4)); simp only [qT, pT, Act.put, sIA, sCS, sCZ]; simp [go_sem, quietTo, Ext.refl, ↓IntWalk.iteOmega, f4, f5, hkI]; (all_goals try simp (disch := omega) only [IntWalk.i64_in]); all_goals rfl
   refine fq 7 rfl rfl rfl cK rfl rfl ?_; apply Exists.intro; constructor
   ·rintro sv w' hw' ⟨_, _, (f6 : sv 6 = _), -⟩; (try dsimp only at f6)
    have hk9 := (Ext.refl wr).drew.trans hw'; obtain ⟨hc, hff, hz9⟩ := hk9.walk; have y1 := (hc _ _ l1).trans c1; have y2 := (hc _ _ l1).trans c2; have z1 := (hc _ _ l2).trans d1; have z2 := (hc _ _ l2).trans d2
    refine ⟨rfl, ?_⟩; simp only [putsL]; change qT (pT (pT (pT _ 22 (sv 6)) 21 (sv 5)) 20 (sv 4)); simp only [qT, pT, Act.put, sIA, sCS, sCZ]; simp [go_sem, quietTo, Ext.refl, ↓IntWalk.iteOmega, f6, z1, z2]; (all_goals try simp (disch := omega) only [IntWalk.i64_in]); all_goals rfl
   refine fq 8 rfl rfl rfl cK rfl rfl ?_; apply Exists.intro; constructor
   ·rintro sv w' hw' ⟨_, _, _, (f3 : sv 3 = _), _, _, _, (f7 : sv 7 = _), -⟩; (try dsimp only at f3 f7)
    refine ⟨rfl, ?_⟩; simp only [putsL]; change qT (pT (pT (pT (pT (pT (pT (pT (pT _ 23 (sv 7)) 22 (sv 6)) 21 (sv 5)) 20 (sv 4)) 19 (sv 3)) 18 (sv 2)) 17 (sv 1)) 16 (sv 0)); simp only [qT, pT, Act.put, sIA, sCS, sCZ]; simp [go_sem, quietTo, Ext.refl, ↓IntWalk.iteOmega, f3, f7]; (all_goals try simp (disch := omega) only [IntWalk.i64_in]); all_goals rfl
   refine fac_nil fun xq wrq herq hfrq hcrq holdq hapq => ?_
   obtain ⟨(f0 : xq 0 = _), (f1 : xq 1 = _), (f2 : xq 2 = _), (f3 : xq 3 = _), (f4 : xq 4 = _), (f5 : xq 5 = _), (f6 : xq 6 = _), (f7 : xq 7 = _), (f8 : xq 8 = _), -⟩ := hfrq; (try dsimp only at f0 f1 f2 f3 f4 f5 f6 f7 f8)
   change wpList _ _ _ _ (pT (pT (pT (pT (pT (pT (pT (pT (pT _ 16 (xq 0)) 17 (xq 1)) 18 (xq 2)) 19 (xq 3)) 20 (xq 4)) 21 (xq 5)) 22 (xq 6)) 23 (xq 7)) 24 (xq 8)) _
   simp only [putsL, Nat.reduceAdd, List.drop_succ_cons, List.drop_zero, List.drop_nil, pT, Act.put, sIA, sCS, sCZ]
   try simp only [f0, f1, f2, f3, f4, f5, f6, f7, f8]
   clear f0 f1 f2 f3 f4 f5 f6 f7 f8; clear holdq hapq
   go_wp2
   go_roundw
   case rel => exact ⟨k + 1, by omega, by go_num, hE.trans ((Ext.refl _).drew.trans herq)⟩
   case measure => simp [intOf]; omega
  ·obtain rfl : k = xs.length := by omega
   go_wp2
   go_ret
   exact ⟨rfl, hE⟩
end Go.Proofs.YtehboinleolihaaGreatDoor
namespace Go.Proofs.YtehboinleolihaaGreatDoor
open Go Go.RowKit
set_option maxRecDepth 100000 in
set_option maxHeartbeats 3200000 in
theorem eqTit_any (p q : Option Addr) (n c d : Nat) (xs : List TitleV) (w : World) (h1 : Slc 3 titleC w p n c xs) (h2 : Slc 3 titleC w q n d xs) (hn : n ≤ 300000) :
 Calls Tryz.prog 64 #[.slice p n c, .slice q n d] w fun e w' => e = .returned (.bool true) ∧ Ext w w' := by
 obtain ⟨hl, hp⟩ := slcC h1
 obtain ⟨-, hq⟩ := slcC h2
 subst hl
 replace hp := Lib.hid hp; replace hq := Lib.hid hq; clear h1 h2
 go_enter Tryz.func64, Tryz.ntmps64
 go_wp2
 go_loopw [13] (fun i wr => ∃ k : Nat, k ≤ xs.length ∧ i = .int .i64 k ∧ Ext w wr) (fun i _ => xs.length - (intOf i).toNat)
 case atStart => exact ⟨0, Nat.zero_le _, rfl, Ext.refl _⟩
 case round =>
  obtain ⟨k, hk, rfl, hE⟩ := hrel
  by_cases hlt : k < xs.length
  ·obtain ⟨x, hx⟩ := getD_some (rfl : xs.length = xs.length) hlt
   rcases hp.out with ⟨-, e⟩ | ⟨b1, o1, rfl, hb1, hE1⟩
   ·rw [e] at hx; cases hx
   rcases hq.out with ⟨-, e⟩ | ⟨b2, o2, rfl, hb2, hE2⟩
   ·rw [e] at hx; cases hx
   obtain ⟨c1, c2, c3⟩ := (hE1.ext hE hb1).title hx
   obtain ⟨d1, d2, d3⟩ := (hE2.ext hE hb2).title hx
   have l1 := Nat.lt_of_lt_of_le hb1 hE.size
   have l2 := Nat.lt_of_lt_of_le hb2 hE.size
   have hkI : (k : Int) < xs.length := by omega
   clear hx hE1 hE2
   go_upto_region 6 with fail
   refine wp_region_facts [] [([],false,false),([],false,false),([0,1],false,false),([0,1,2],false,false),([],false,false),([],false,false),([4,5],false,false),([4,5,6],false,false),([0,1,2,3,4,5,6,7],false,false)] (Ext) Ext (fun _ => True) (by kernel_rfl) (by kernel_rfl) Ext.refl (fun _ _ _ => Ext.trans) (fun _ _ h => h) (fun _ _ h => h.size) (fun _ _ h _ => h) trivial ?_
   dsimp only [List.length_cons, List.length_nil, List.drop_succ_cons, List.drop_zero, List.drop_nil]
   refine fq 0 rfl rfl rfl cK rfl rfl ?_; apply Exists.intro; constructor
   ·intro sv w' hw' hfa
    refine ⟨rfl, ?_⟩; simp only [putsL]; change qT _; simp only [qT, Act.put, sIA, sCS, sCZ]; simp [go_sem, quietTo, Ext.refl]; all_goals rfl
   refine fq 1 rfl rfl rfl cK rfl rfl ?_; apply Exists.intro; constructor
   ·intro sv w' hw' hfa
    refine ⟨rfl, ?_⟩; simp only [putsL]; change qT _; simp only [qT, Act.put, sIA, sCS, sCZ]; simp [go_sem, quietTo, Ext.refl]; all_goals rfl
   refine fq 2 rfl rfl rfl cK rfl rfl ?_; apply Exists.intro; constructor
   ·rintro sv w' hw' ⟨(f0 : sv 0 = _), (f1 : sv 1 = _), -⟩; (try dsimp only at f0 f1)
    have hk9 := (Ext.refl wr).drew.trans hw'; obtain ⟨hc, hff, hz9⟩ := hk9.walk; have y1 := (hc _ _ l1).trans c1; have y2 := (hc _ _ l1).trans c2; have y3 := (hc _ _ l1).trans c3; have z1 := (hc _ _ l2).trans d1; have z2 := (hc _ _ l2).trans d2; have z3 := (hc _ _ l2).trans d3
    refine ⟨rfl, ?_⟩; simp only [putsL]; change qT (pT (pT _ 17 (sv 1)) 16 (sv 0)); simp only [qT, pT, Act.put, sIA, sCS, sCZ]; simp [go_sem, quietTo, Ext.refl, ↓IntWalk.iteOmega, f0, f1, hkI]; (all_goals try simp (disch := omega) only [IntWalk.i64_in]); all_goals rfl
   refine fq 3 rfl rfl rfl cK rfl rfl ?_; apply Exists.intro; constructor
   ·rintro sv w' hw' ⟨_, _, (f2 : sv 2 = _), -⟩; (try dsimp only at f2)
    have hk9 := (Ext.refl wr).drew.trans hw'; obtain ⟨hc, hff, hz9⟩ := hk9.walk; have y1 := (hc _ _ l1).trans c1; have y2 := (hc _ _ l1).trans c2; have y3 := (hc _ _ l1).trans c3; have z1 := (hc _ _ l2).trans d1; have z2 := (hc _ _ l2).trans d2; have z3 := (hc _ _ l2).trans d3
    refine ⟨rfl, ?_⟩; simp only [putsL]; change qT (pT (pT (pT _ 18 (sv 2)) 17 (sv 1)) 16 (sv 0)); simp only [qT, pT, Act.put, sIA, sCS, sCZ]; simp [go_sem, quietTo, Ext.refl, ↓IntWalk.iteOmega, f2, y1, y2, y3]; (all_goals try simp (disch := omega) only [IntWalk.i64_in]); all_goals rfl
   refine fq 4 rfl rfl rfl cK rfl rfl ?_; apply Exists.intro; constructor
   ·intro sv w' hw' hfa
    refine ⟨rfl, ?_⟩; simp only [putsL]; change qT _; simp only [qT, Act.put, sIA, sCS, sCZ]; simp [go_sem, quietTo, Ext.refl]; all_goals rfl
   refine fq 5 rfl rfl rfl cK rfl rfl ?_; apply Exists.intro; constructor
   ·intro sv w' hw' hfa
    refine ⟨rfl, ?_⟩; simp only [putsL]; change qT _; simp only [qT, Act.put, sIA, sCS, sCZ]; simp [go_sem, quietTo, Ext.refl]; all_goals rfl
   refine fq 6 rfl rfl rfl cK rfl rfl ?_; apply Exists.intro; constructor
   ·rintro sv w' hw' ⟨(f4 : sv 4 = _), (f5 : sv 5 = _), -⟩; (try dsimp only at f4 f5)
    have hk9 := (Ext.refl wr).drew.trans hw'; obtain ⟨hc, hff, hz9⟩ := hk9.walk; have y1 := (hc _ _ l1).trans c1; have y2 := (hc _ _ l1).trans c2; have y3 := (hc _ _ l1).trans c3; have z1 := (hc _ _ l2).trans d1; have z2 := (hc _ _ l2).trans d2; have z3 := (hc _ _ l2).trans d3
    refine ⟨rfl, ?_⟩; simp only [putsL]; change qT (pT (pT _ 21 (sv 5)) 20 (sv 4)); simp only [qT, pT, Act.put, sIA, sCS, sCZ]; simp [go_sem, quietTo, Ext.refl, ↓IntWalk.iteOmega, f4, f5, hkI]; (all_goals try simp (disch := omega) only [IntWalk.i64_in]); all_goals rfl
   refine fq 7 rfl rfl rfl cK rfl rfl ?_; apply Exists.intro; constructor
   ·rintro sv w' hw' ⟨_, _, (f6 : sv 6 = _), -⟩; (try dsimp only at f6)
    have hk9 := (Ext.refl wr).drew.trans hw'; obtain ⟨hc, hff, hz9⟩ := hk9.walk; have y1 := (hc _ _ l1).trans c1; have y2 := (hc _ _ l1).trans c2; have y3 := (hc _ _ l1).trans c3; have z1 := (hc _ _ l2).trans d1; have z2 := (hc _ _ l2).trans d2; have z3 := (hc _ _ l2).trans d3
    refine ⟨rfl, ?_⟩; simp only [putsL]; change qT (pT (pT (pT _ 22 (sv 6)) 21 (sv 5)) 20 (sv 4)); simp only [qT, pT, Act.put, sIA, sCS, sCZ]; simp [go_sem, quietTo, Ext.refl, ↓IntWalk.iteOmega, f6, z1, z2, z3]; (all_goals try simp (disch := omega) only [IntWalk.i64_in]); all_goals rfl
   refine fq 8 rfl rfl rfl cK rfl rfl ?_; apply Exists.intro; constructor
   ·rintro sv w' hw' ⟨_, _, _, (f3 : sv 3 = _), _, _, _, (f7 : sv 7 = _), -⟩; (try dsimp only at f3 f7)
    refine ⟨rfl, ?_⟩; simp only [putsL]; change qT (pT (pT (pT (pT (pT (pT (pT (pT _ 23 (sv 7)) 22 (sv 6)) 21 (sv 5)) 20 (sv 4)) 19 (sv 3)) 18 (sv 2)) 17 (sv 1)) 16 (sv 0)); simp only [qT, pT, Act.put, sIA, sCS, sCZ]; simp [go_sem, quietTo, Ext.refl, ↓IntWalk.iteOmega, f3, f7]; (all_goals try simp (disch := omega) only [IntWalk.i64_in]); all_goals rfl
   refine fac_nil fun xq wrq herq hfrq hcrq holdq hapq => ?_
   obtain ⟨(f0 : xq 0 = _), (f1 : xq 1 = _), (f2 : xq 2 = _), (f3 : xq 3 = _), (f4 : xq 4 = _), (f5 : xq 5 = _), (f6 : xq 6 = _), (f7 : xq 7 = _), (f8 : xq 8 = _), -⟩ := hfrq; (try dsimp only at f0 f1 f2 f3 f4 f5 f6 f7 f8)
   change wpList _ _ _ _ (pT (pT (pT (pT (pT (pT (pT (pT (pT _ 16 (xq 0)) 17 (xq 1)) 18 (xq 2)) 19 (xq 3)) 20 (xq 4)) 21 (xq 5)) 22 (xq 6)) 23 (xq 7)) 24 (xq 8)) _
   simp only [putsL, Nat.reduceAdd, List.drop_succ_cons, List.drop_zero, List.drop_nil, pT, Act.put, sIA, sCS, sCZ]
   try simp only [f0, f1, f2, f3, f4, f5, f6, f7, f8]
   clear f0 f1 f2 f3 f4 f5 f6 f7 f8; clear holdq hapq
   go_wp2
   go_roundw
   case rel => exact ⟨k + 1, by omega, by go_num, hE.trans ((Ext.refl _).drew.trans herq)⟩
   case measure => simp [intOf]; omega
  ·obtain rfl : k = xs.length := by omega
   go_wp2
   go_ret
   exact ⟨rfl, hE⟩
end Go.Proofs.YtehboinleolihaaGreatDoor
namespace Go.Proofs.YtehboinleolihaaGreatDoor
open Go Go.RowKit Go.Maps
theorem slc_str1 {w : World} {g : Nat} {t : TypeId} {s : ByteArray} (h : Blk w g t #[.string s]) : Slc 1 strC w (some ⟨g, 0, none⟩) 1 1 [s] := by
 refine ⟨⟨rfl, by omega, fun _ => ⟨g, 0, rfl, h.lt, fun i x hx j u hu => ?_⟩⟩, by omega, (fun e => by cases e), (fun a ha => by cases ha; exact ⟨g, 0, rfl, h.lt⟩)⟩
 have hi := (List.getElem?_eq_some_iff.1 hx).1
 have hj := (List.getElem?_eq_some_iff.1 hu).1
 simp only [List.length_singleton, strC] at hi hj
 obtain rfl : i = 0 := by omega
 obtain rfl : j = 0 := by omega
 cases hx
 cases hu
 exact h.cell 0
/-- What Stock answers when all is right. -/
def StockR (T : List TitleV) (r : LendR) (d : List SlipV) (t : Int) (w : World) (e : Ending) (w' : World) : Prop :=
 ∃ (v : Value), e = .returned (.tuple #[v, .int .i64 0]) ∧ w'.ownsRow w.heap.size 77 2 v T.length ((stockL T (libAt T r d t).1).flatMap lpC) ∧ Ext w w'
theorem stock_take {T : List TitleV} {L : LibS} {k : Nat} {x : TitleV} (hx : T[k]? = some x) : (stockL T L).take (k + 1) = (stockL T L).take k ++ [(x.piece, itoaL (cntT L x [inW]))] :=
 take_snocL (by unfold stockL; rw [List.getElem?_map, hx]; rfl)
set_option maxRecDepth 100000 in
set_option maxHeartbeats 6400000 in
theorem stock_any (B : Nat) (tp : Option Addr) (tn tc : Nat) (T : List TitleV) (r : LendR) (dp : Option Addr) (dn dc : Nat) (d : List SlipV) (t : Int) (w : World) (h : ListsM w tp tn tc T r dp dn dc d) (ht : outB t 0 345686399999 = false) (hB : Tab B w) :
 Calls Tryz.prog 53 #[.slice tp tn tc, lendVal r, .slice dp dn dc, .int .i64 t] w (StockR T r d t w) := by
 have hat := fun u (hu : Ext w u) => atN_any tp tn tc T r dp dn dc d t u (h.ext hu) ht
 have hTo := titlesF_ok (libF_zero h.ok).1
 have hTl := h.ti.1.1
 have hTT := h.ti
 have htl := h.tl
 have hts := h.ts
 unfold lendVal at hat ⊢
 have hE : Ext w (w.alloc (.cells #[.int .i64 r.days, .int .i64 r.late, .int .i64 r.most, .int .i64 r.each] 28)) := (Ext.refl w).alloc _
 clear h; replace hat := Lib.hid hat; replace hE := Lib.hid hE; replace hTo := Lib.hid hTo; replace hTT := Lib.hid hTT
 go_enter Tryz.func53, Tryz.ntmps53
 go_wp2_with (go_at_call 86; (with_reducible refine Calls.mono (hat.out _ hE.out) ?_); rintro e w1 ⟨base, bb, ms, ml, mh, q, rfl, hL, hb1⟩)
 have hEw := hE.out.trans hb1
 have hw1s := hEw.size
 obtain ⟨L, hLe⟩ : ∃ L, L = (libAt T r d t).1 := ⟨_, rfl⟩
 rw [← hLe] at hL
 have hres : ∀ v w', w'.ownsRow w1.heap.size 77 2 v T.length ((stockL T L).flatMap lpC) → Ext w1 w' → StockR T r d t w (.returned (.tuple #[v, .int .i64 0])) w' := fun v w' ho hx => ⟨v, rfl, by rw [← hLe]; exact own_low ho hw1s, hEw.trans hx⟩
 replace hres := Lib.hid hres
 have hmn := fun u (hu : Ext w1 u) (x : TitleV) (hx : x ∈ T) (g : Nat) (hg : Blk u g 9 #[.string ⟨#[105,110]⟩]) => many_any (hL.ext hu) x (by have := (hts x hx).1; omega) (by have := (hTo.out.one x hx).2.1; omega) (hTo.out.one x hx).2.2.1 (some ⟨g, 0, none⟩) 1 1 [inW] (slc_str1 hg) (by omega)
 have htb := fun u (hu : Ext w1 u) => hB.ext (hEw.trans hu)
 replace hmn := Lib.hid hmn; replace htb := Lib.hid htb; clear hLe hat hL hB hb1 hE
 go_loopw [12,28] (fun v12 v28 wr => ∃ (k : Nat) (v : Value), v28 = .int .i64 k ∧ v = v12 ∧ k ≤ tn ∧ wr.ownsRow w1.heap.size 77 2 v k (((stockL T L).take k).flatMap lpC) ∧ Ext w1 wr) (fun _ v28 _ => tn - (intOf v28).toNat)
 case atStart => exact ⟨0, _, rfl, rfl, Nat.zero_le _, World.ownsRow_nil _ _ _ _, Ext.refl _⟩
 case round =>
  obtain ⟨k, v, rfl, rfl, hk, hown, he⟩ := hrel
  by_cases hlt : k < tn
  ·obtain ⟨x, hx⟩ := getD_some hTl hlt
   obtain ⟨b, off, rfl, hb, hEl⟩ := hTT.out.1.2.2 (by omega)
   obtain ⟨d0, d1, d2⟩ := (hEl.ext (hEw.trans he) hb).title hx
   have hkI : (k : Int) < (tn : Int) := by omega
   have hszr := he.size
   have htk := stock_take (L := L) hx
   have hxm := List.mem_of_getElem? hx
   have hcl : cntT L x [inW] ≤ x.owned.toNat := cntN_le _ _ _ _
   have ho5 := (hTo.out.one x hxm).2.2.1
   have hm1 := fun u (hu : Ext wr u) g hg => hmn.out u (he.trans hu) x hxm g hg
   unfold titleVal at hm1
   generalize cntT L x [inW] = cn at *
   replace hx := Lib.hid hx; replace hEl := Lib.hid hEl; replace htk := Lib.hid htk; replace hm1 := Lib.hid hm1
   have hX := Blk.new' (w := wr) (g := wr.heap.size) (t := 105) (cs := #[.string x.piece, .int .i64 x.owned, .int .i64 x.cost]) rfl
   have hEx : Ext wr (wr.alloc (.cells #[.string x.piece, .int .i64 x.owned, .int .i64 x.cost] 105)) := (Ext.refl wr).alloc _
   have hown1 := hown.alloc (.cells #[.string x.piece, .int .i64 x.owned, .int .i64 x.cost] 105)
   have lx := hX.lt
   have x0 := hX.cell 0
   have x1 := hX.cell 1
   have x2 := hX.cell 2
   replace hX := Lib.hid hX; replace hEx := Lib.hid hEx
   go_upto_region 8 with fail
   clear hX
   generalize wr.heap.size = gx at *
   generalize (wr.alloc (.cells #[.string x.piece, .int .i64 x.owned, .int .i64 x.cost] 105)) = W2 at *
   refine wp_region_facts [0] [([],false,false),([],false,false),([1],false,false),([],false,false),([],false,false),([], false, true),([3,4,5],false,false),([3,4,5,6],false,false),([1,2,3,4,5,6,7],false,false),([1,2,3,4,5,6,7,8], false, true)] (Ext) Ext (fun _ => True) (by kernel_rfl) (by kernel_rfl) Ext.refl (fun _ _ _ => Ext.trans) (fun _ _ h => h) (fun _ _ h => h.size) (fun _ _ h _ => h) trivial ?_
   dsimp only [List.length_cons, List.length_nil, List.drop_succ_cons, List.drop_zero, List.drop_nil]
   refine fac_late 0 rfl rfl Ext.refl cK rfl rfl (fun _ _ _ _ h => h) ?_; apply Exists.intro; constructor
   ·intro sv w' hw' hfa
    refine ⟨rfl, fun w2 => ?_⟩
    simp only [putsL]
    change pureTo _ _ (Sem.run _ (execOp (Act.eval _) _) _)
    try simp only [Act.put, sIA, sCS, sCZ]
    simp [go_sem, pureTo]
    (all_goals try simp (disch := omega) only [IntWalk.i64_in]); all_goals rfl
   refine fq 1 rfl rfl rfl cK rfl rfl ?_; apply Exists.intro; constructor
   ·intro sv w' hw' hfa
    refine ⟨rfl, ?_⟩; simp only [putsL]; change qT _; simp only [qT, Act.put, sIA, sCS, sCZ]; simp [go_sem, quietTo, Ext.refl]; all_goals rfl
   refine fq 2 rfl rfl rfl cK rfl rfl ?_; apply Exists.intro; constructor
   ·rintro sv w' hw' ⟨(f1 : sv 1 = _), -⟩; (try dsimp only at f1)
    have hk9 := (Ext.refl W2).drew.trans hw'; obtain ⟨hc, -, -⟩ := hk9.walk; have y0 := (hc gx 0 lx).trans x0; have y1 := (hc gx 1 lx).trans x1; have y2 := (hc gx 2 lx).trans x2
    refine ⟨rfl, ?_⟩; simp only [putsL]; change qT (pT _ 33 (sv 1)); simp only [qT, pT, Act.put, sIA, sCS, sCZ]; simp [go_sem, quietTo, Ext.refl, ↓IntWalk.iteOmega, f1, y0]; (all_goals try simp (disch := omega) only [IntWalk.i64_in]); all_goals rfl
   refine fq 3 rfl rfl rfl cK rfl rfl ?_; apply Exists.intro; constructor
   ·intro sv w' hw' hfa
    refine ⟨rfl, ?_⟩; simp only [putsL]; change qT _; simp only [qT, Act.put, sIA, sCS, sCZ]; simp [go_sem, quietTo, Ext.refl]; all_goals rfl
   refine fq 4 rfl rfl rfl cK rfl rfl ?_; apply Exists.intro; constructor
   ·intro sv w' hw' hfa
    have hk9 := (Ext.refl W2).drew.trans hw'; obtain ⟨hc, -, -⟩ := hk9.walk; have y0 := (hc gx 0 lx).trans x0; have y1 := (hc gx 1 lx).trans x1; have y2 := (hc gx 2 lx).trans x2
    refine ⟨rfl, ?_⟩; simp only [putsL]; change qT _; simp only [qT, Act.put, sIA, sCS, sCZ]; simp [go_sem, quietTo, Ext.refl, ↓IntWalk.iteOmega, y0, y1, y2]; (all_goals try simp (disch := omega) only [IntWalk.i64_in]); all_goals rfl
   refine fac_row 5 rfl rfl rfl cK (fun _ _ h => h.size) (fun _ _ _ _ _ he _ hb => hb.ext he) ?_
   apply Exists.intro
   apply Exists.intro
   apply Exists.intro
   apply Exists.intro
   refine ⟨fun sv w' hw' hfa => ?_, ?_⟩
   ·refine ⟨rfl, ?_⟩; simp only [putsL]; change rowTo _ _ _ _ _ (Sem.run _ (execOp (Act.eval _) _) _); (try simp only [Act.put, sIA, sCS, sCZ]); simp [go_sem, rowTo, Ext.refl]; (all_goals try simp (disch := omega) only [IntWalk.i64_in]); all_goals first | rfl | exact ⟨rfl, rfl⟩ | exact ⟨⟨rfl, rfl⟩, rfl⟩
   refine fq 6 rfl rfl rfl cK rfl rfl ?_; apply Exists.intro; constructor
   ·rintro sv w' hw' ⟨(f3 : sv 3 = _), (f4 : sv 4 = _), f5, -⟩; (try dsimp only at f3 f4)
    obtain ⟨g5, f5, l5, b5⟩ := f5; replace f5 : sv 5 = _ := f5; obtain ⟨p5, q5⟩ := b5.walk
    have hk9 := (Ext.refl W2).drew.trans hw'; obtain ⟨hc, -, -⟩ := hk9.walk; have y0 := (hc gx 0 lx).trans x0; have y1 := (hc gx 1 lx).trans x1; have y2 := (hc gx 2 lx).trans x2
    refine ⟨rfl, ?_⟩; simp only [putsL]; change qT (pT (pT (pT _ 37 (sv 5)) 36 (sv 4)) 35 (sv 3)); simp only [qT, pT, Act.put, sIA, sCS, sCZ]; simp [go_sem, quietTo, Ext.refl, ↓IntWalk.iteOmega, f3, f4, f5, p5, q5]; (all_goals try simp (disch := omega) only [IntWalk.i64_in]); all_goals first | rfl | (exact hm1.out _ (hEx.out.trans hk9) _ b5)
   refine fq 7 rfl rfl rfl cK rfl rfl ?_; apply Exists.intro; constructor
   ·rintro sv w' hw' ⟨(f3 : sv 3 = _), (f4 : sv 4 = _), f5, (f6 : sv 6 = _), -⟩; (try dsimp only at f3 f4 f6)
    obtain ⟨g5, f5, l5, b5⟩ := f5; replace f5 : sv 5 = _ := f5; obtain ⟨p5, q5⟩ := b5.walk
    have hk9 := (Ext.refl W2).drew.trans hw'; obtain ⟨hc, -, -⟩ := hk9.walk; have y0 := (hc gx 0 lx).trans x0; have y1 := (hc gx 1 lx).trans x1; have y2 := (hc gx 2 lx).trans x2
    refine ⟨rfl, ?_⟩; simp only [putsL]; change qT (pT (pT (pT (pT _ 38 (sv 6)) 37 (sv 5)) 36 (sv 4)) 35 (sv 3)); simp only [qT, pT, Act.put, sIA, sCS, sCZ]; simp [go_sem, quietTo, Ext.refl, ↓IntWalk.iteOmega, f6, p5, q5]; (all_goals try simp (disch := omega) only [IntWalk.i64_in]); all_goals first | rfl | (exact itoa_any _ (by omega) (by omega) B _ (htb.out _ ((he.trans hEx.out).trans hk9)))
   refine fq 8 rfl rfl rfl cK rfl rfl ?_; apply Exists.intro; constructor
   ·rintro sv w' hw' ⟨_, (f2 : sv 2 = _), _, _, _, _, (f7 : sv 7 = _), -⟩; (try dsimp only at f2 f7)
    refine ⟨rfl, ?_⟩; simp only [putsL]; change qT (pT (pT (pT (pT (pT (pT (pT _ 39 (sv 7)) 38 (sv 6)) 37 (sv 5)) 36 (sv 4)) 35 (sv 3)) 34 (sv 2)) 33 (sv 1)); simp only [qT, pT, Act.put, sIA, sCS, sCZ]; simp [go_sem, quietTo, Ext.refl, f2, f7]; all_goals rfl
   refine fac_row 9 rfl rfl rfl cK (fun _ _ h => h.size) (fun _ _ _ _ _ he _ hb => hb.ext he) ?_
   apply Exists.intro
   apply Exists.intro
   apply Exists.intro
   apply Exists.intro
   refine ⟨fun sv w' hw' hfa => ?_, ?_⟩
   ·obtain ⟨_, _, _, _, _, _, _, (f8 : sv 8 = _), -⟩ := hfa; (try dsimp only at f8)
    refine ⟨rfl, ?_⟩; simp only [putsL]; change rowTo _ _ _ _ _ (Sem.run _ (execOp (Act.eval (pT (pT (pT (pT (pT (pT (pT (pT _ 40 (sv 8)) 39 (sv 7)) 38 (sv 6)) 37 (sv 5)) 36 (sv 4)) 35 (sv 3)) 34 (sv 2)) 33 (sv 1))) _) _); (try simp only [pT, Act.put, sIA, sCS, sCZ]); simp [go_sem, rowTo, Ext.refl, f8]; (all_goals try simp (disch := omega) only [IntWalk.i64_in]); all_goals first | rfl | exact ⟨rfl, rfl⟩ | exact ⟨⟨rfl, rfl⟩, rfl⟩
   refine fac_nil fun xa wra hera hfra hcra holda hapa => ?_
   obtain ⟨(f0 : xa 0 = _), (f1 : xa 1 = _), (f2 : xa 2 = _), (f3 : xa 3 = _), (f4 : xa 4 = _), f5, (f6 : xa 6 = _), (f7 : xa 7 = _), (f8 : xa 8 = _), f9, -⟩ := hfra; (try dsimp only at f0 f1 f2 f3 f4 f6 f7 f8)
   obtain ⟨g5, f5, l5, b5⟩ := f5; replace f5 : xa 5 = _ := f5; obtain ⟨p5, q5⟩ := b5.walk; obtain ⟨g9, f9, l9, b9⟩ := f9; replace f9 : xa 9 = _ := f9; obtain ⟨p9, q9⟩ := b9.walk
   change wpList _ _ _ _ (pT (pT (pT (pT (pT (pT (pT (pT (pT (pT _ 32 (xa 0)) 33 (xa 1)) 34 (xa 2)) 35 (xa 3)) 36 (xa 4)) 37 (xa 5)) 38 (xa 6)) 39 (xa 7)) 40 (xa 8)) 41 (xa 9)) _
   simp only [putsL, Nat.reduceAdd, List.drop_succ_cons, List.drop_zero, List.drop_nil, pT, Act.put, sIA, sCS, sCZ]
   try simp only [f0, f1, f2, f3, f4, f5, f6, f7, f8, f9]
   clear f0 f1 f2 f3 f4 f6 f7 f8; clear holda hapa
   have hka := (Ext.refl W2).drew.trans hera
   have hown2 := own_ext hka hown1
   have hE2 := (he.trans hEx.out).trans hka
   have hE2s := hE2.size
   clear hown hown1 hera hka x0 x1 x2 lx hcra
   go_wp2_with (at_builtin; go_loud (refine wp_app1 _ (.tmp 32) (.tmp 41) 70 77 2 32 _ rfl rfl Tryz.underlying70 lpInfo rfl (by decide) (by decide) w1.heap.size _ k _ rfl hown2 _ (lpC (x.piece, itoaL cn)) rfl rfl b9 (lpC_one _) (by omega) (by omega) ?_; intro v' w6 hown6 hgrow6 _))
   go_roundw
   case rel => exact ⟨k + 1, v', by go_num, rfl, by omega, by rw [htk.out, flat_snoc]; exact hown6, hE2.app hown2 (Nat.le_refl _) hgrow6⟩
   case measure => simp [intOf]; omega
  ·obtain rfl : tn = k := by omega
   rw [List.take_of_length_le (by unfold stockL; simp; omega)] at hown
   have hr := hres.out _ _ (by rw [hTl]; exact hown) he
   replace hr := Lib.hid hr
   go_wp2
   go_ret2
   exact hr.out
end Go.Proofs.YtehboinleolihaaGreatDoor
