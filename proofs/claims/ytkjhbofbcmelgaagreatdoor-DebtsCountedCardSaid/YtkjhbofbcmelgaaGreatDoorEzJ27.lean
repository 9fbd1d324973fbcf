/- A library at a moment, when all is right: the walk of at. Conditions: sizes; at most 19 slips. Which slips are refused, and why: the walk of Refused when all is right. Conditions: sizes; at most 19 slips. How many copies of each title are in: the walk of Stock. Conditions: sizes; at most 19 slips. Rows of pairs with the same content are equal. Conditions: sizes. -/
import Derived.Test.YtkjhbofbcmelgaaGreatDoorEzLbJ
import Derived.Test.YtkjhbofbcmelgaaGreatDoorEzJ16
import Derived.Test.YtkjhbofbcmelgaaGreatDoorEzJ18
import Derived.Test.YtkjhbofbcmelgaaGreatDoorEzJ8
set_option linter.unusedSimpArgs false
set_option linter.unusedVariables false
namespace Go.Proofs.YtkjhbofbcmelgaaGreatDoor
open Go Go.RowKit Go.Maps
/-- What is right about a library's lists in memory. -/
structure ListsM (w : World) (tp : Option Addr) (tn tc : Nat) (T : List TitleV) (r : LendR) (dp : Option Addr) (dn dc : Nat) (d : List SlipV) : Prop where
 ti : Slc 3 titleC w tp tn tc T
 ts : ∀ x ∈ T, x.Small
 tl : tn ≤ 1000
 sl : Slc 7 slipC w dp dn dc d
 ss : ∀ x ∈ d, x.Small
 sn : dn ≤ 19
 ok : libF T r d = 0
theorem ListsM.ext {w w' : World} {tp : Option Addr} {tn tc : Nat} {T : List TitleV} {r : LendR} {dp : Option Addr} {dn dc : Nat} {d : List SlipV} (h : ListsM w tp tn tc T r dp dn dc d) (he : Ext w w') : ListsM w' tp tn tc T r dp dn dc d :=
 ⟨h.ti.ext he, h.ts, h.tl, h.sl.ext he, h.ss, h.sn, h.ok⟩
/-- A library at a moment. -/
def AtR (tp : Option Addr) (tn tc : Nat) (T : List TitleV) (r : LendR) (d : List SlipV) (t : Int) (w : World) (e : Ending) (w' : World) : Prop :=
 ∃ (base bb ms ml mh q : Nat), e = .returned (.tuple #[.pointer (some ⟨bb, 0, none⟩), .int .i64 0]) ∧ LibM base w' bb ms ml mh q tp tn tc r (libAt T r d t).1 ∧ Ext w w'
set_option maxRecDepth 100000 in
theorem nothing_any (w : World) : Calls Tryz.prog 67 #[] w fun e w' => e = .returned (.int .i64 0) ∧ w = w' := by
 go_enter Tryz.func67, Tryz.ntmps67
 go_wp2
 go_ret
 exact ⟨rfl, rfl⟩
set_option maxRecDepth 100000 in
set_option maxHeartbeats 6400000 in
theorem atN_any (tp : Option Addr) (tn tc : Nat) (T : List TitleV) (r : LendR) (dp : Option Addr) (dn dc : Nat) (d : List SlipV) (t : Int) (w : World) (h : ListsM w tp tn tc T r dp dn dc d) (ht : outB t 0 345686399999 = false) :
 Calls Tryz.prog 64 #[.slice tp tn tc, lendVal r, .slice dp dn dc, .int .i64 t, .func (.func 67) #[] #[]] w (AtR tp tn tc T r d t w) := by
 obtain ⟨z1, z2, z3⟩ := libF_zero h.ok
 have hl := fun u (hu : Ext w u) => listsFault_any tp tn tc T r dp dn dc d u (h.ext hu).ti.1 h.ts h.tl (h.ext hu).sl.1 h.ss (by have := h.sn; omega)
 have hm := fun u => sMom_is ht u
 have hL := fun u (hu : Ext w u) => libraryAt_any tp tn tc T r dp dn dc d t u (h.ext hu).ti (titlesF_ok z1) (h.ext hu).sl (slipsF_right z3) h.ss h.sn
 rw [h.ok] at hl
 unfold lendVal at hl hL ⊢
 have hE : Ext w (w.alloc (.cells #[.int .i64 r.days, .int .i64 r.late, .int .i64 r.most, .int .i64 r.each] 28)) := (Ext.refl w).alloc _
 have hX := Blk.new' (w := w) (g := w.heap.size) (t := 28) (cs := #[.int .i64 r.days, .int .i64 r.late, .int .i64 r.most, .int .i64 r.each]) rfl
 have lx := hX.lt
 have x0 := hX.cell 0
 have x1 := hX.cell 1
 have x2 := hX.cell 2
 have x3 := hX.cell 3
 clear h z1 z2 z3 hX; replace hl := Lib.hid hl; replace hm := Lib.hid hm; replace hL := Lib.hid hL; replace hE := Lib.hid hE
 go_enter Tryz.func64, Tryz.ntmps64
 go_wp2_with (first
  | (go_at_call 60; (with_reducible refine Calls.mono (hl.out _ hE.out) ?_); rintro e w1 ⟨rfl, hb1⟩; have v0 := (hb1.walk.1 _ _ lx).trans x0; have v1 := (hb1.walk.1 _ _ lx).trans x1; have v2 := (hb1.walk.1 _ _ lx).trans x2; have v3 := (hb1.walk.1 _ _ lx).trans x3)
  | (go_at_call 67; (with_reducible refine Calls.mono (nothing_any _) ?_); rintro e w2 ⟨rfl, rfl⟩)
  | (go_at_call 125; (with_reducible refine Calls.mono (hm.out _) ?_); rintro e w3 ⟨rfl, hb3⟩; have u0 := (hb3.walk.1 _ _ (Nat.lt_of_lt_of_le lx hb1.size)).trans v0; have u1 := (hb3.walk.1 _ _ (Nat.lt_of_lt_of_le lx hb1.size)).trans v1; have u2 := (hb3.walk.1 _ _ (Nat.lt_of_lt_of_le lx hb1.size)).trans v2; have u3 := (hb3.walk.1 _ _ (Nat.lt_of_lt_of_le lx hb1.size)).trans v3)
  | (go_at_call 61; (with_reducible refine Calls.mono (hL.out _ ((hE.out.trans hb1).trans hb3)) ?_); rintro e w4 ⟨base, bb, ms, ml, mh, q, mr, n, rfl, hLM, hRM, hb4⟩))
 have hres : AtR tp tn tc T r d t w (.returned (.tuple #[.pointer (some ⟨bb, 0, none⟩), .int .i64 0])) w4 := ⟨base, bb, ms, ml, mh, q, rfl, hLM, ((hE.out.trans hb1).trans hb3).trans hb4⟩
 go_ret2
 exact hres
end Go.Proofs.YtkjhbofbcmelgaaGreatDoor
namespace Go.Proofs.YtkjhbofbcmelgaaGreatDoor
open Go Go.RowKit
end Go.Proofs.YtkjhbofbcmelgaaGreatDoor
namespace Go.Proofs.YtkjhbofbcmelgaaGreatDoor
open Go Go.RowKit Go.Maps
def lpC (x : ByteArray × ByteArray) : List Value := [.string x.1, .string x.2]
theorem lpC_len (x : ByteArray × ByteArray) : (lpC x).length = 2 := rfl
theorem lpC_one (x : ByteArray × ByteArray) : ∀ u ∈ lpC x, u.oneCell' = true := by simp [lpC, Value.oneCell']
theorem lpInfo : (Tryz.prog.info? 77).map (fun i => (i.zero, i.size, i.bytes)) = some (some (.agg #[.string ⟨#[]⟩, .string ⟨#[]⟩]), 2,32) := by kernel_rfl
end Go.Proofs.YtkjhbofbcmelgaaGreatDoor
namespace Go.Proofs.YtkjhbofbcmelgaaGreatDoor
open Go Go.RowKit
theorem Elems.lp {w : World} {b off : Nat} {xs : List (ByteArray × ByteArray)} (h : Elems 2 lpC w b off xs) {i : Nat} {x : ByteArray × ByteArray} (hx : xs[i]? = some x) :
 w.cell? ⟨b, off + i * 2, none⟩ = some (.string x.1) ∧ w.cell? ⟨b, off + i * 2 + 1, none⟩ = some (.string x.2) := ⟨h i x hx 0 _ rfl, h i x hx 1 _ rfl⟩
set_option maxRecDepth 100000 in
set_option maxHeartbeats 3200000 in
theorem eqPairs_any (p q : Option Addr) (n c d : Nat) (xs : List (ByteArray × ByteArray)) (w : World) (h1 : Slc 2 lpC w p n c xs) (h2 : Slc 2 lpC w q n d xs) (hn : n ≤ 300000) :
 Calls Tryz.prog 37 #[.slice p n c, .slice q n d] w fun e w' => e = .returned (.bool true) ∧ Ext w w' := by
 obtain ⟨hl, hp⟩ := slcC h1
 obtain ⟨-, hq⟩ := slcC h2
 subst hl
 replace hp := Lib.hid hp; replace hq := Lib.hid hq; clear h1 h2
 go_enter Tryz.func37, Tryz.ntmps37
 go_wp2
 go_loopw [13] (fun i wr => ∃ k : Nat, k ≤ xs.length ∧ i = .int .i64 k ∧ Ext w wr) (fun i _ => xs.length - (intOf i).toNat)
 case atStart => exact ⟨0, Nat.zero_le _, rfl, Ext.refl _⟩
 case round =>
  obtain ⟨k, hk, rfl, hE⟩ := hrel
  by_cases hlt : k < xs.length
  ·obtain ⟨x, hx⟩ := getD_some (rfl : xs.length = xs.length) hlt
   rcases hp.out with ⟨-, e⟩ | ⟨b1, o1, rfl, hb1, hE1⟩
   ·rw [e] at hx; cases hx
   rcases hq.out with ⟨-, e⟩ | ⟨b2, o2, rfl, hb2, hE2⟩
   ·rw [e] at hx; cases hx
   obtain ⟨c1, c2⟩ := (hE1.ext hE hb1).lp hx
   obtain ⟨d1, d2⟩ := (hE2.ext hE hb2).lp hx
   have l1 := Nat.lt_of_lt_of_le hb1 hE.size
   have l2 := Nat.lt_of_lt_of_le hb2 hE.size
   have hkI : (k : Int) < xs.length := by omega
   clear hx hE1 hE2
   go_upto_region 6 with fail
   refine wp_region_facts [] [([],false,false),([],false,false),([0,1],false,false),([0,1,2],false,false),([],false,false),([],false,false),([4,5],false,false),([4,5,6],false,false),([0,1,2,3,4,5,6,7],false,false)] (Ext) Ext (fun _ => True) (by kernel_rfl) (by kernel_rfl) Ext.refl (fun _ _ _ => Ext.trans) (fun _ _ h => h) (fun _ _ h => h.size) (fun _ _ h _ => h) trivial ?_
   dsimp only [List.length_cons, List.length_nil, List.drop_succ_cons, List.drop_zero, List.drop_nil]
   refine fq 0 rfl rfl rfl cK rfl rfl ?_; apply Exists.intro; constructor
   ·intro sv w' hw' hfa
    refine ⟨rfl, ?_⟩; simp only [putsL]; change qT _; simp only [qT, Act.put, sIA, sCS, sCZ]; simp [go_sem, quietTo, Ext.refl]; all_goals rfl
   refine fq 1 rfl rfl rfl cK rfl rfl ?_; apply Exists.intro; constructor
   ·intro sv w' hw' hfa
    refine ⟨rfl, ?_⟩; simp only [putsL]; change qT _; simp only [qT, Act.put, sIA, sCS, sCZ]; simp [go_sem, quietTo, Ext.refl]; all_goals rfl
   refine fq 2 rfl rfl rfl cK rfl rfl ?_; apply Exists.intro; constructor
   ·rintro sv w' hw' ⟨(f0 : sv 0 = _), (f1 : sv 1 = _), -⟩; (try dsimp only at f0 f1)
    refine ⟨rfl, ?_⟩; simp only [putsL]; change qT (pT (pT _ 17 (sv 1)) 16 (sv 0)); simp only [qT, pT, Act.put, sIA, sCS, sCZ]; simp [go_sem, quietTo, Ext.refl, ↓IntWalk.iteOmega, f0, f1, hkI]; (all_goals try simp (disch := omega) only [IntWalk.i64_in]); all_goals rfl
   refine fq 3 rfl rfl rfl cK rfl rfl ?_; apply Exists.intro; constructor
   ·rintro sv w' hw' ⟨_, _, (f2 : sv 2 = _), -⟩; (try dsimp only at f2)
    have hk9 := (Ext.refl wr).drew.trans hw'; obtain ⟨hc, hff, hz9⟩ := hk9.walk; have y1 := (hc _ _ l1).trans c1; have y2 := (hc _ _ l1).trans c2
    refine ⟨rfl, ?_⟩; simp only [putsL]; change qT (pT (pT (pT _ 18 (sv 2)) 17 (sv 1)) 16 (sv 0)); simp only [qT, pT, Act.put, sIA, sCS, sCZ]; simp [go_sem, quietTo, Ext.refl, ↓IntWalk.iteOmega, f2, y1, y2]; (all_goals try simp (disch := omega) only [IntWalk.i64_in]); all_goals rfl
   refine fq 4 rfl rfl rfl cK rfl rfl ?_; apply Exists.intro; constructor
   ·intro sv w' hw' hfa
    refine ⟨rfl, ?_⟩; simp only [putsL]; change qT _; simp only [qT, Act.put, sIA, sCS, sCZ]; simp [go_sem, quietTo, Ext.refl]; all_goals rfl
   refine fq 5 rfl rfl rfl cK rfl rfl ?_; apply Exists.intro; constructor
   ·intro sv w' hw' hfa
    refine ⟨rfl, ?_⟩; simp only [putsL]; change qT _; simp only [qT, Act.put, sIA, sCS, sCZ]; simp [go_sem, quietTo, Ext.refl]; all_goals rfl
   refine fq 6 rfl rfl rfl cK rfl rfl ?_; apply Exists.intro; constructor
   ·rintro sv w' hw' ⟨(f4 : sv 4 = _), (f5 : sv 5 = _), -⟩; (try dsimp only at f4 f5)
    refine ⟨rfl, ?_⟩; simp only [putsL]; change qT (pT (pT _ 21 (sv 5)) 20 (sv 4)); simp only [qT, pT, Act.put, sIA, sCS, sCZ]; simp [go_sem, quietTo, Ext.refl, ↓IntWalk.iteOmega, f4, f5, hkI]; (all_goals try simp (disch := omega) only [IntWalk.i64_in]); all_goals rfl
   refine fq 7 rfl rfl rfl cK rfl rfl ?_; apply Exists.intro; constructor
   ·rintro sv w' hw' ⟨_, _, (f6 : sv 6 = _), -⟩; (try dsimp only at f6)
    have hk9 := (Ext.refl wr).drew.trans hw'; obtain ⟨hc, hff, hz9⟩ := hk9.walk; have z1 := (hc _ _ l2).trans d1; have z2 := (hc _ _ l2).trans d2
    refine ⟨rfl, ?_⟩; simp only [putsL]; change qT (pT (pT (pT _ 22 (sv 6)) 21 (sv 5)) 20 (sv 4)); simp only [qT, pT, Act.put, sIA, sCS, sCZ]; simp [go_sem, quietTo, Ext.refl, ↓IntWalk.iteOmega, f6, z1, z2]; (all_goals try simp (disch := omega) only [IntWalk.i64_in]); all_goals rfl
   refine fq 8 rfl rfl rfl cK rfl rfl ?_; apply Exists.intro; constructor
   ·rintro sv w' hw' ⟨_, _, _, (f3 : sv 3 = _), _, _, _, (f7 : sv 7 = _), -⟩; (try dsimp only at f3 f7)
    refine ⟨rfl, ?_⟩; simp only [putsL]; change qT (pT (pT (pT (pT (pT (pT (pT (pT _ 23 (sv 7)) 22 (sv 6)) 21 (sv 5)) 20 (sv 4)) 19 (sv 3)) 18 (sv 2)) 17 (sv 1)) 16 (sv 0)); simp only [qT, pT, Act.put, sIA, sCS, sCZ]; simp [go_sem, quietTo, Ext.refl, ↓IntWalk.iteOmega, f3, f7]; (all_goals try simp (disch := omega) only [IntWalk.i64_in]); all_goals rfl
   refine fac_nil fun xq wrq herq hfrq hcrq holdq hapq => ?_
   obtain ⟨(f0 : xq 0 = _), (f1 : xq 1 = _), (f2 : xq 2 = _), (f3 : xq 3 = _), (f4 : xq 4 = _), (f5 : xq 5 = _), (f6 : xq 6 = _), (f7 : xq 7 = _), (f8 : xq 8 = _), -⟩ := hfrq; (try dsimp only at f0 f1 f2 f3 f4 f5 f6 f7 f8)
   change wpList _ _ _ _ (pT (pT (pT (pT (pT (pT (pT (pT (pT _ 16 (xq 0)) 17 (xq 1)) 18 (xq 2)) 19 (xq 3)) 20 (xq 4)) 21 (xq 5)) 22 (xq 6)) 23 (xq 7)) 24 (xq 8)) _
   simp only [putsL, Nat.reduceAdd, List.drop_succ_cons, List.drop_zero, List.drop_nil, pT, Act.put, sIA, sCS, sCZ]
   try simp only [f0, f1, f2, f3, f4, f5, f6, f7, f8]
   clear f0 f1 f2 f3 f4 f5 f6 f7 f8; clear holdq hapq
   go_wp2
   go_roundw
   case rel => exact ⟨k + 1, by omega, by go_num, hE.trans ((Ext.refl _).drew.trans herq)⟩
   case measure => simp [intOf]; omega
  ·obtain rfl : k = xs.length := by omega
   go_wp2
   go_ret
   exact ⟨rfl, hE⟩
end Go.Proofs.YtkjhbofbcmelgaaGreatDoor
