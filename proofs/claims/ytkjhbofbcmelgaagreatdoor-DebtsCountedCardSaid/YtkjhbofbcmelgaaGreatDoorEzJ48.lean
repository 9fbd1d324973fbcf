/- The facts of the library's properties: a copy that was lent is out. Conditions: none. Debts are counted as specified: the property answers true. Conditions: the argument is a list of ints that lies in memory; the table of the powers of ten stands. (Printed by gen_lawdt.py.) -/
import Derived.Test.YtkjhbofbcmelgaaGreatDoorEzLcA
import Derived.Test.YtkjhbofbcmelgaaGreatDoorEzJ45
import Derived.Test.YtkjhbofbcmelgaaGreatDoorEzJ34
import Derived.Test.YtkjhbofbcmelgaaGreatDoorEzLbS
import Derived.Test.YtkjhbofbcmelgaaGreatDoorEzSlK
import Derived.Test.YtkjhbofbcmelgaaGreatDoorEzJ27
import Derived.Deep.CutBlock
set_option linter.unusedSimpArgs false
set_option linter.unusedVariables false
namespace Go.Proofs.YtkjhbofbcmelgaaGreatDoor
open Go Go.RowKit Go.Sort
theorem slc1 {α : Type} {k : Nat} {enc : α → List Value} {w : World} {g : Nat} {t : TypeId} {x : α} (h : Blk w g t (enc x).toArray) : Slc k enc w (some ⟨g, 0, none⟩) 1 1 [x] := by
 refine ⟨⟨rfl, by omega, fun _ => ⟨g, 0, rfl, h.lt, fun i y hy j u hu => ?_⟩⟩, by omega, (fun e => by cases e), (fun a ha => by cases ha; exact ⟨g, 0, rfl, h.lt⟩)⟩
 have hi := (List.getElem?_eq_some_iff.1 hy).1
 simp only [List.length_singleton] at hi
 obtain rfl : i = 0 := by omega
 cases hy
 have e : 0 + 0 * k + j = j := by omega
 rw [e, h.cell]
 simpa using hu
theorem Elems.lent {w : World} {b off : Nat} {xs : List LentV} (h : Elems 4 lentC w b off xs) {i : Nat} {x : LentV} (hx : xs[i]? = some x) : w.cell? ⟨b, off + i * 4, none⟩ = some (.string x.piece) ∧ w.cell? ⟨b, off + i * 4 + 1, none⟩ = some (.int .i64 x.no) ∧ w.cell? ⟨b, off + i * 4 + 2, none⟩ = some (.string x.singer) ∧ w.cell? ⟨b, off + i * 4 + 3, none⟩ = some (.int .i64 x.since) :=
 ⟨h i x hx 0 _ rfl, h i x hx 1 _ rfl, h i x hx 2 _ rfl, h i x hx 3 _ rfl⟩
set_option maxRecDepth 100000 in
set_option maxHeartbeats 3200000 in
theorem eqLent_any (p q : Option Addr) (n c d : Nat) (xs : List LentV) (w : World) (h1 : Slc 4 lentC w p n c xs) (h2 : Slc 4 lentC w q n d xs) (hn : n ≤ 300000) :
 Calls Tryz.prog 29 #[.slice p n c, .slice q n d] w fun e w' => e = .returned (.bool true) ∧ Ext w w' := by
 obtain ⟨hl, hp⟩ := slcC h1
 obtain ⟨-, hq⟩ := slcC h2
 subst hl
 replace hp := Lib.hid hp; replace hq := Lib.hid hq; clear h1 h2
 go_enter Tryz.func29, Tryz.ntmps29
 go_wp2
 go_loopw [13] (fun i wr => ∃ k : Nat, k ≤ xs.length ∧ i = .int .i64 k ∧ Ext w wr) (fun i _ => xs.length - (intOf i).toNat)
 case atStart => exact ⟨0, Nat.zero_le _, rfl, Ext.refl _⟩
 case round =>
  obtain ⟨k, hk, rfl, hE⟩ := hrel
  by_cases hlt : k < xs.length
  ·obtain ⟨x, hx⟩ := getD_some (rfl : xs.length = xs.length) hlt
   rcases hp.out with ⟨-, e⟩ | ⟨b1, o1, rfl, hb1, hE1⟩
   ·rw [e] at hx; cases hx
   rcases hq.out with ⟨-, e⟩ | ⟨b2, o2, rfl, hb2, hE2⟩
   ·rw [e] at hx; cases hx
   obtain ⟨c1, c2, c3, c4⟩ := (hE1.ext hE hb1).lent hx
   obtain ⟨d1, d2, d3, d4⟩ := (hE2.ext hE hb2).lent hx
   have l1 := Nat.lt_of_lt_of_le hb1 hE.size
   have l2 := Nat.lt_of_lt_of_le hb2 hE.size
   have hkI : (k : Int) < xs.length := by omega
   clear hx hE1 hE2
   go_upto_region 6 with fail
   refine wp_region_facts [] [([],false,false),([],false,false),([0,1],false,false),([0,1,2],false,false),([],false,false),([],false,false),([4,5],false,false),([4,5,6],false,false),([0,1,2,3,4,5,6,7],false,false)] (Ext) Ext (fun _ => True) (by kernel_rfl) (by kernel_rfl) Ext.refl (fun _ _ _ => Ext.trans) (fun _ _ h => h) (fun _ _ h => h.size) (fun _ _ h _ => h) trivial ?_
   dsimp only [List.length_cons, List.length_nil, List.drop_succ_cons, List.drop_zero, List.drop_nil]
   refine fq 0 rfl rfl rfl cK rfl rfl ?_; apply Exists.intro; constructor
   ·intro sv w' hw' hfa
    refine ⟨rfl, ?_⟩; simp only [putsL]; change qT _; simp only [qT, Act.put, sIA, sCS, sCZ]; simp [go_sem, quietTo, Ext.refl]; all_goals rfl
   refine fq 1 rfl rfl rfl cK rfl rfl ?_; apply Exists.intro; constructor
   ·intro sv w' hw' hfa
    refine ⟨rfl, ?_⟩; simp only [putsL]; change qT _; simp only [qT, Act.put, sIA, sCS, sCZ]; simp [go_sem, quietTo, Ext.refl]; all_goals rfl
   refine fq 2 rfl rfl rfl cK rfl rfl ?_; apply Exists.intro; constructor
   ·rintro sv w' hw' ⟨(f0 : sv 0 = _), (f1 : sv 1 = _), -⟩; (try dsimp only at f0 f1)
    refine ⟨rfl, ?_⟩; simp only [putsL]; change qT (pT (pT _ 17 (sv 1)) 16 (sv 0)); simp only [qT, pT, Act.put, sIA, sCS, sCZ]; simp [go_sem, quietTo, Ext.refl, ↓IntWalk.iteOmega, f0, f1, hkI]; (all_goals try simp (disch := omega) only [IntWalk.i64_in]); all_goals rfl
   refine fq 3 rfl rfl rfl cK rfl rfl ?_; apply Exists.intro; constructor
   ·rintro sv w' hw' ⟨_, _, (f2 : sv 2 = _), -⟩; (try dsimp only at f2)
    have hk9 := (Ext.refl wr).drew.trans hw'; obtain ⟨hc, hff, hz9⟩ := hk9.walk; have y1 := (hc _ _ l1).trans c1; have y2 := (hc _ _ l1).trans c2; have y3 := (hc _ _ l1).trans c3; have y4 := (hc _ _ l1).trans c4
    refine ⟨rfl, ?_⟩; simp only [putsL]; change qT (pT (pT (pT _ 18 (sv 2)) 17 (sv 1)) 16 (sv 0)); simp only [qT, pT, Act.put, sIA, sCS, sCZ]; simp [go_sem, quietTo, Ext.refl, ↓IntWalk.iteOmega, f2, y1, y2, y3, y4]; (all_goals try simp (disch := omega) only [IntWalk.i64_in]); all_goals rfl
   refine fq 4 rfl rfl rfl cK rfl rfl ?_; apply Exists.intro; constructor
   ·intro sv w' hw' hfa
    refine ⟨rfl, ?_⟩; simp only [putsL]; change qT _; simp only [qT, Act.put, sIA, sCS, sCZ]; simp [go_sem, quietTo, Ext.refl]; all_goals rfl
   refine fq 5 rfl rfl rfl cK rfl rfl ?_; apply Exists.intro; constructor
   ·intro sv w' hw' hfa
    refine ⟨rfl, ?_⟩; simp only [putsL]; change qT _; simp only [qT, Act.put, sIA, sCS, sCZ]; simp [go_sem, quietTo, Ext.refl]; all_goals rfl
   refine fq 6 rfl rfl rfl cK rfl rfl ?_; apply Exists.intro; constructor
   ·rintro sv w' hw' ⟨(f4 : sv 4 = _), (f5 : sv 5 = _), -⟩; (try dsimp only at f4 f5)
    refine ⟨rfl, ?_⟩; simp only [putsL]; change qT (pT (pT _ 21 (sv 5)) 20 (sv 4)); simp only [qT, pT, Act.put, sIA, sCS, sCZ]; simp [go_sem, quietTo, Ext.refl, ↓IntWalk.iteOmega, f4, f5, hkI]; (all_goals try simp (disch := omega) only [IntWalk.i64_in]); all_goals rfl
   refine fq 7 rfl rfl rfl cK rfl rfl ?_; apply Exists.intro; constructor
   ·rintro sv w' hw' ⟨_, _, (f6 : sv 6 = _), -⟩; (try dsimp only at f6)
    have hk9 := (Ext.refl wr).drew.trans hw'; obtain ⟨hc, hff, hz9⟩ := hk9.walk; have z1 := (hc _ _ l2).trans d1; have z2 := (hc _ _ l2).trans d2; have z3 := (hc _ _ l2).trans d3; have z4 := (hc _ _ l2).trans d4
    refine ⟨rfl, ?_⟩; simp only [putsL]; change qT (pT (pT (pT _ 22 (sv 6)) 21 (sv 5)) 20 (sv 4)); simp only [qT, pT, Act.put, sIA, sCS, sCZ]; simp [go_sem, quietTo, Ext.refl, ↓IntWalk.iteOmega, f6, z1, z2, z3, z4]; (all_goals try simp (disch := omega) only [IntWalk.i64_in]); all_goals rfl
   refine fq 8 rfl rfl rfl cK rfl rfl ?_; apply Exists.intro; constructor
   ·rintro sv w' hw' ⟨_, _, _, (f3 : sv 3 = _), _, _, _, (f7 : sv 7 = _), -⟩; (try dsimp only at f3 f7)
    refine ⟨rfl, ?_⟩; simp only [putsL]; change qT (pT (pT (pT (pT (pT (pT (pT (pT _ 23 (sv 7)) 22 (sv 6)) 21 (sv 5)) 20 (sv 4)) 19 (sv 3)) 18 (sv 2)) 17 (sv 1)) 16 (sv 0)); simp only [qT, pT, Act.put, sIA, sCS, sCZ]; simp [go_sem, quietTo, Ext.refl, ↓IntWalk.iteOmega, f3, f7]; (all_goals try simp (disch := omega) only [IntWalk.i64_in]); all_goals rfl
   refine fac_nil fun xq wrq herq hfrq hcrq holdq hapq => ?_
   obtain ⟨(f0 : xq 0 = _), (f1 : xq 1 = _), (f2 : xq 2 = _), (f3 : xq 3 = _), (f4 : xq 4 = _), (f5 : xq 5 = _), (f6 : xq 6 = _), (f7 : xq 7 = _), (f8 : xq 8 = _), -⟩ := hfrq; (try dsimp only at f0 f1 f2 f3 f4 f5 f6 f7 f8)
   change wpList _ _ _ _ (pT (pT (pT (pT (pT (pT (pT (pT (pT _ 16 (xq 0)) 17 (xq 1)) 18 (xq 2)) 19 (xq 3)) 20 (xq 4)) 21 (xq 5)) 22 (xq 6)) 23 (xq 7)) 24 (xq 8)) _
   simp only [putsL, Nat.reduceAdd, List.drop_succ_cons, List.drop_zero, List.drop_nil, pT, Act.put, sIA, sCS, sCZ]
   try simp only [f0, f1, f2, f3, f4, f5, f6, f7, f8]
   clear f0 f1 f2 f3 f4 f5 f6 f7 f8; clear holdq hapq
   go_wp2
   go_roundw
   case rel => exact ⟨k + 1, by omega, by go_num, hE.trans ((Ext.refl _).drew.trans herq)⟩
   case measure => simp [intOf]; omega
  ·obtain rfl : k = xs.length := by omega
   go_wp2
   go_ret
   exact ⟨rfl, hE⟩
/-! ### the library's facts -/
def pB : ByteArray := ⟨#[112]⟩
def lB : ByteArray := ⟨#[108]⟩
def sB : ByteArray := ⟨#[115]⟩
def T0L : List TitleV := [⟨pB, 1,0⟩]
def r0L : LendR := ⟨1,0,0,1⟩
def d0L : List SlipV := [⟨lB, 1,5,1, pB, 1, sB⟩]
theorem libF0 : libF T0L r0L d0L = 0 := by kernel_rfl
theorem ord0 : ordF d0L 5 = [0] := (ord_is (M := [0]) (by rw [show selF d0L 5 = [0] by decide]) (List.pairwise_singleton _ _)).symm
theorem loans0 : outL (libAt T0L r0L d0L 5).1.loans = [⟨pB, 1, sB, 5⟩] := by
 unfold libAt
 rw [ord0]
 kernel_rfl
theorem okL0 : (∀ x ∈ T0L, x.Small) ∧ ∀ x ∈ d0L, x.Small := by
 constructor
 ·intro x hx
  rw [List.mem_singleton.1 hx]
  exact ⟨by decide, by decide, by decide, by decide, by decide⟩
 ·intro x hx
  rw [List.mem_singleton.1 hx]
  exact ⟨by decide, by decide, by decide⟩
set_option maxRecDepth 100000 in
set_option maxHeartbeats 3200000 in
theorem lentReady_any (w : World) : Calls Tryz.prog 30 #[] w fun e w' => e = .returned (.bool true) ∧ Ext w w' := by
 have hE : Ext w (((w.alloc (.cells (titleC ⟨pB, 1,0⟩).toArray 97)).alloc (.cells #[.int .i64 1, .int .i64 0, .int .i64 0, .int .i64 1] 28)).alloc (.cells (slipC ⟨lB, 1,5,1, pB, 1, sB⟩).toArray 101)) := (((Ext.refl w).alloc _).alloc _).alloc _
 have hT : Blk (((w.alloc (.cells (titleC ⟨pB, 1,0⟩).toArray 97)).alloc (.cells #[.int .i64 1, .int .i64 0, .int .i64 0, .int .i64 1] 28)).alloc (.cells (slipC ⟨lB, 1,5,1, pB, 1, sB⟩).toArray 101)) w.heap.size 97 (titleC ⟨pB, 1,0⟩).toArray := ((Blk.new' rfl).alloc _).alloc _
 have hS : Blk (((w.alloc (.cells (titleC ⟨pB, 1,0⟩).toArray 97)).alloc (.cells #[.int .i64 1, .int .i64 0, .int .i64 0, .int .i64 1] 28)).alloc (.cells (slipC ⟨lB, 1,5,1, pB, 1, sB⟩).toArray 101)) (w.heap.size + 1 + 1) 101 (slipC ⟨lB, 1,5,1, pB, 1, sB⟩).toArray := Blk.new' (by simp)
 have ho := out_any (some ⟨w.heap.size, 0, none⟩) 1 1 T0L r0L (some ⟨w.heap.size + 1 + 1,0, none⟩) 1 1 d0L 5 _ ⟨slc1 hT, okL0.1, by omega, slc1 hS, okL0.2, by omega, libF0⟩ (by decide)
 have ho2 := ho.mono fun e w' hh => (by
  obtain ⟨v, M, rfl, hp, -, hown, hx⟩ := hh
  rw [loans0] at hp
  obtain rfl := List.perm_singleton.1 hp
  obtain ⟨p, c, rfl, hS⟩ := slc_of_own lentC_len hown (by decide) (by simp)
  exact ⟨p, c, rfl, hS, hx⟩ : ∃ (p : Option Addr) (c : Nat), e = .returned (.tuple #[.slice p 1 c, .int .i64 0]) ∧ Slc 4 lentC w' p 1 c [⟨pB, 1, sB, 5⟩] ∧ Ext _ w')
 unfold lendVal r0L at ho2
 unfold titleC slipC pB lB sB at ho2 hE
 clear ho hT hS; replace ho2 := Lib.hid ho2; replace hE := Lib.hid hE
 go_enter Tryz.func30, Tryz.ntmps30
 go_upto_region 3 with (go_at_call 14; (with_reducible refine Calls.mono ho2.out ?_); rintro e w1 ⟨p, c, rfl, hS1, hb1⟩)
 have hB2 : Blk (w1.alloc (.cells (lentC ⟨⟨#[112]⟩, 1, ⟨#[115]⟩, 5⟩).toArray 65)) w1.heap.size 65 (lentC ⟨⟨#[112]⟩, 1, ⟨#[115]⟩, 5⟩).toArray := Blk.new' rfl
 have hq := eqLent_any p (some ⟨w1.heap.size, 0, none⟩) 1 c 1 [⟨⟨#[112]⟩, 1, ⟨#[115]⟩, 5⟩] _ (hS1.ext ((Ext.refl w1).alloc _)) (slc1 hB2) (by omega)
 unfold lentC at hq
 replace hq := Lib.hid hq; clear hS1 hB2
 go_wp2_with (go_at_call 29; (with_reducible refine Calls.mono hq.out ?_); rintro e w2 ⟨rfl, hb2⟩)
 go_ret
 exact ⟨rfl, ((hE.out.trans hb1).alloc _).trans hb2⟩
end Go.Proofs.YtkjhbofbcmelgaaGreatDoor
namespace Go.Proofs.YtkjhbofbcmelgaaGreatDoor
open Go Go.RowKit
theorem sizeAnn : ∀ y ∈ ([⟨#[97,110,110]⟩, ⟨#[98,111,98]⟩, ⟨#[99,105,100]⟩, ⟨#[]⟩] : List ByteArray), y.size ≤ 100 := by decide
set_option maxRecDepth 100000 in
set_option maxHeartbeats 25600000 in
theorem lawDT_any (B : Nat) (w : World) (p : Option Addr) (n c : Nat) (h : Lst w w.heap.size p n) (ht : Tab B w) :
 Calls Tryz.prog 4 #[.slice p n c] w fun e w' => e = .returned (.bool true) ∧ Ext w w' := by
 have hS0 : Str (w.alloc (.cells #[.slice p n c, .int .i64 0] 25)) w.heap.size 0 := ⟨p, n, c, 0, Nat.le_refl _, Blk.new' rfl, h.low fun j hj => Below.heap_alloc w _ j hj⟩
 clear h
 have hback : ∀ u, ExtS w.heap.size (w.alloc (.cells #[.slice p n c, .int .i64 0] 25)) u → Ext w u := fun u hu => ExtS.back ((Ext.refl w).alloc _) (by simp) hu
 have hW0s : (w.alloc (.cells #[.slice p n c, .int .i64 0] 25)).heap.size = w.heap.size + 1 := by simp
 have hlb := library_any w.heap.size 0 _ (by omega) hS0
 replace hback := Lib.hid hback; replace hlb := Lib.hid hlb; replace hW0s := Lib.hid hW0s
 go_enter Tryz.func4, Tryz.ntmps4
 go_upto_region 3 with (go_at_call 6; (with_reducible refine Calls.mono hlb.out ?_); rintro e w1 ⟨p1, n1, ca1, T, r, rfl, hn1, hTo, hTl, hTs, hS1, hE1⟩; unfold lendVal)
 have hS1a := hS1.ext ((Ext.refl w1).alloc (.cells (lendC r) 28))
 have hE1a := hE1.alloc (.cells (lendC r) 28)
 have hT1a := hTo.alloc (.cells (lendC r) 28)
 have hR1a : Blk (w1.alloc (.cells (lendC r) 28)) w1.heap.size 28 (lendC r) := Blk.new' rfl
 have hsl : w.heap.size < w1.heap.size := hS1.lt
 rw [hW0s.out] at hT1a
 unfold lendC at hS1a hE1a hT1a hR1a
 clear hS0 hS1 hE1 hTo hlb
 generalize (w1.alloc (.cells #[.int .i64 r.days, .int .i64 r.late, .int .i64 r.most, .int .i64 r.each] 28)) = W1 at *
 generalize w1.heap.size = g5 at *
 subst hTl
 have hsa := slips_any w.heap.size (0 + 40) W1 (by omega) hS1a
 replace hsa := Lib.hid hsa
 go_upto_region 4 with (first
  | (go_at_call 7; (with_reducible refine Calls.mono hsa.out ?_); rintro e w2 ⟨p2, n2, ca2, V, rfl, hn2, hVo, hVl, hVs, hS2, hE2⟩; subst hVl; obtain ⟨p2', c2', e2', hV2⟩ := slc_of_own slipC_len hVo (by decide) (by omega); cases e2'; have hlt := lendTime_any w.heap.size (0 + 40 + 120) w2 (by omega) hS2; replace hlt := Lib.hid hlt)
  | (go_at_call 8; (with_reducible refine Calls.mono hlt.out ?_); rintro e w3 ⟨t, ht1, ht2, rfl, hS3, hE3⟩)
  | (go_at_call 9; have l3 := hS3.lt; refine (somes_any w.heap.size (0 + 40 + 120 + 2) _ _ 4 [⟨#[97,110,110]⟩, ⟨#[98,111,98]⟩, ⟨#[99,105,100]⟩, ⟨#[]⟩] _ (by omega) (by simp) (by simp) (by exact hS3.ext (Ext.alloc (Ext.refl _) _)) (by exact Nat.ne_of_gt l3) (by exact Blk.new' rfl)).mono ?_; rintro e w6 ⟨s, hs, rfl, hS6, hE6⟩))
 have hE36 := ((ExtS.refl _ w3).alloc _).trans hE6
 have hE26 := hE3.trans hE36
 have hE16 := hE2.trans hE26
 have hsz := sizeAnn s hs
 have hp2 : ∀ a, p2 = some a → a.block ≠ w.heap.size := fun a ha => by subst ha; have h9 := hVo.lt a.block rfl; have := hS1a.lt; omega
 have hV6 := hV2.extS hE26 hp2
 have hT6 := own_extS hE16 (by omega) hT1a
 have hR6 := hR1a.extS (by omega) hE16
 have hb6 := hback.out w6 (hE1a.trans hE16)
 obtain ⟨p1', c1', e1', hT7⟩ := slc_of_own titleC_len hT6 (by decide) (by omega)
 cases e1'
 have hL : ListsW w6 p1 T.length ca1 T r p2 V.length ca2 V := ⟨hT7, hTs, by omega, hV6, hVs, by omega⟩
 have r0 := hR6.cell 0
 have r1 := hR6.cell 1
 have r2 := hR6.cell 2
 have r3 := hR6.cell 3
 have lr6 := hR6.lt
 have hcell : ∀ u, Ext w6 u → u.cell? ⟨g5,0, none⟩ = some (.int .i64 r.days) ∧ u.cell? ⟨g5,1, none⟩ = some (.int .i64 r.late) ∧ u.cell? ⟨g5,2, none⟩ = some (.int .i64 r.most) ∧ u.cell? ⟨g5,3, none⟩ = some (.int .i64 r.each) ∧ g5 < u.heap.size := fun u hu =>
  ⟨(hu.walk.1 _ _ lr6).trans r0, (hu.walk.1 _ _ lr6).trans r1, (hu.walk.1 _ _ lr6).trans r2, (hu.walk.1 _ _ lr6).trans r3, Nat.lt_of_lt_of_le lr6 hu.size⟩
 clear hE16 hE26 hE36 hE2 hE3 hE6 hS2 hS3 hS6 hV2 hVo hT1a hR1a hS1a hE1a hT6 hR6 hsa hlt hp2 hs l3 r0 r1 r2 r3 lr6
 have htb := fun u (hu : Ext w6 u) => ht.ext (hb6.trans hu)
 have c1 := fun u (hu : Ext w6 u) => libFault_any p1 T.length ca1 T r p2 V.length ca2 V u (hL.ext hu).ti.1 hTs (by omega) (hL.ext hu).sl.1 hVs (by omega)
 have c2 := fun u (hu : Ext w6 u) => owes_uni p1 T.length ca1 T r p2 V.length ca2 V s t u (hL.ext hu) (by omega)
 have c3 := fun u (hu : Ext w6 u) => debts_uni B p1 T.length ca1 T r p2 V.length ca2 V t u (hL.ext hu) (htb u hu)
 have c4 := fun u (hu : Ext w6 u) => late_uni p1 T.length ca1 T r p2 V.length ca2 V t u (hL.ext hu)
 have c8 := fun u => momDoc_any t u
 have c9 := fun u => keyDoc_any s u (by omega)
 have d2 := fun (hF : atF T r V t (keyE s) = 0) u (hu : Ext w6 u) => owesD_uni p1 T.length ca1 T r p2 V.length ca2 V s t u (hL.ext hu) hF
 have d3 := fun (hF : atF T r V t 0 = 0) u (hu : Ext w6 u) => debtsD_uni B p1 T.length ca1 T r p2 V.length ca2 V t u (hL.ext hu) (htb u hu) hF
 have d4 := fun (hF : atF T r V t 0 = 0) u (hu : Ext w6 u) => lateD_uni p1 T.length ca1 T r p2 V.length ca2 V t u (hL.ext hu) hF
 have m2 := owesA_bad (T := T) (r := r) (d := V) (t := t) (s := s)
 have m3 := debtC2_bad (T := T) (r := r) (d := V) (t := t)
 have m4 := lateA_bad (T := T) (r := r) (d := V) (t := t)
 have z3 := fun M N => debtC2_uniq (T := T) (r := r) (d := V) (t := t) (M := M) (N := N)
 have e2 : atF T r V t 0 = orF [libF T r V, momF t] := by
  show orF [libF T r V, 0, momF t] = _
  simp [orF]
 have e3 : atF T r V t (keyE s) = orF [libF T r V, keyE s, momF t] := rfl
 unfold DebtT at c3
 unfold LateT at c4
 unfold lendVal at c1 c2 c3 c4 d2 d3 d4
 generalize atF T r V t 0 = f2 at *
 generalize atF T r V t (keyE s) = f3 at *
 generalize libF T r V = F at *
 generalize momF t = mf at *
 generalize keyE s = kf at *
 generalize owesA T r V t s = ow at *
 generalize debtC2 T r V t = C at *
 generalize lateA T r V t = la at *
 have hle := lentReady_any
 replace hle := Lib.hid hle; clear hL hTs hVs hT7 hV6 htb; replace c1 := Lib.hid c1; replace c2 := Lib.hid c2; replace c3 := Lib.hid c3; replace c4 := Lib.hid c4; replace c8 := Lib.hid c8; replace c9 := Lib.hid c9; replace d2 := Lib.hid d2; replace d3 := Lib.hid d3; replace d4 := Lib.hid d4; replace m2 := Lib.hid m2; replace m3 := Lib.hid m3; replace m4 := Lib.hid m4; replace z3 := Lib.hid z3
 replace e2 := Lib.hid e2; replace e3 := Lib.hid e3; replace hb6 := Lib.hid hb6
 obtain ⟨t0, t1, t2, t3, lr⟩ := hcell w6 (Ext.refl _)
 replace hcell := Lib.hid hcell
 go_upto_if 78 with (first
  | (go_at_call 11; (with_reducible refine Calls.mono (c1.out _ (Ext.refl _)) ?_); rintro e x1 ⟨rfl, hy1⟩; have hx1 := hy1; clear t0 t1 t2 t3 lr; obtain ⟨t0, t1, t2, t3, lr⟩ := hcell.out _ hx1)
  | (go_at_call 31; (with_reducible refine Calls.mono (c2.out _ hx1) ?_); rintro e x2 ⟨rfl, hy2⟩; have hx2 := hx1.trans hy2; clear t0 t1 t2 t3 lr; obtain ⟨t0, t1, t2, t3, lr⟩ := hcell.out _ hx2)
  | (go_at_call 32; (with_reducible refine Calls.mono (c3.out _ hx2) ?_); rintro e x3 ⟨v12, rfl, pD, cD, MD, rfl, hD1, hD2, hSD, hy3⟩; have hx3 := hx2.trans hy3; clear t0 t1 t2 t3 lr; obtain ⟨t0, t1, t2, t3, lr⟩ := hcell.out _ hx3)
  | (go_at_call 33; (with_reducible refine Calls.mono (c4.out _ hx3) ?_); rintro e x4 ⟨v14, rfl, pL, cL, ML, rfl, hL1, hL2, hL3, hSL, hy4⟩; have hx4 := hx3.trans hy4; clear t0 t1 t2 t3 lr; obtain ⟨t0, t1, t2, t3, lr⟩ := hcell.out _ hx4)
  | (go_at_call 20; (with_reducible refine Calls.mono (c9.out _) ?_); rintro e x5 ⟨rfl, hy5⟩; have hx5 := hx4.trans hy5)
  | (go_at_call 19; have hq := hx6; (with_reducible refine Calls.mono (c8.out _) ?_); rintro e x7 ⟨rfl, hy7⟩; have hx7 := (hq.alloc _).trans hy7)
  | (go_at_call 19; (with_reducible refine Calls.mono (c8.out _) ?_); rintro e x6 ⟨rfl, hy6⟩; have hx6 := hx5.trans hy6)
  | (go_at_call 17; have hq := hx7; clear hq; refine (orErr_blk _ _ 2 [F, mf] _ (by simp) (by exact Blk.new' rfl)).mono ?_; rintro e xo ⟨he, rfl⟩; rw [← e2.out] at he; subst he)
  | (go_at_call 17; have hq := hx6; clear hq; refine (orErr_blk _ _ 3 [F, kf, mf] _ (by simp) (by exact Blk.new' rfl)).mono ?_; rintro e xo ⟨he, rfl⟩; rw [← e3.out] at he; subst he))
 have hE := hx7.alloc (.cells #[.int .i64 F, .int .i64 mf] 36)
 have k4 : Ext x4 (x7.alloc (.cells #[.int .i64 F, .int .i64 mf] 36)) := ((((hy5.trans hy6).alloc _).trans hy7).alloc _)
 have k3 := hy4.trans k4
 replace hSD := hSD.ext k3
 replace hSL := hSL.ext k4
 clear t0 t1 t2 t3 lr k3 k4 hx1 hx2 hx3 hx4 hx5 hx6 hx7 hy1 hy2 hy3 hy4 hy5 hy6 hy7 c1 c2 c3 c4 c8 c9 e2 e3
 generalize (x7.alloc (.cells #[.int .i64 F, .int .i64 mf] 36)) = u0 at *
 replace hSD := Lib.hid hSD; replace hSL := Lib.hid hSL; replace hD1 := Lib.hid hD1; replace hL1 := Lib.hid hL1; replace hL2 := Lib.hid hL2
 go_cut [18] (fun v18 u => v18 = .int .i64 ow ∧ Ext u0 u)
 case first =>
  as_aux_lemma =>
   clear d3 d4 m3 m4
   obtain ⟨t0, t1, t2, t3, lr⟩ := hcell.out u0 hE
   by_cases hF : f3 = 0
   ·subst hF
    go_wp2_with (go_at_call 34; (with_reducible refine Calls.mono (d2.out rfl _ hE) ?_); rintro e y1 ⟨rfl, hRT⟩)
    go_meet
    exact ⟨rfl, hRT⟩
   ·have hfb : (f3 == 0) = false := beq_false_of_ne hF
    have hA0 := m2.out hF
    replace hF := Lib.hid hF; clear d2
    go_wp2
    go_meet
    rw [hA0]
    exact ⟨rfl, Ext.refl _⟩
 case rest =>
  obtain ⟨rfl, hE1⟩ := hcut
  obtain ⟨u1, rfl⟩ : ∃ w9, w9 = wc := ⟨_, rfl⟩
  have hEu1 := hE.trans hE1
  clear d2 m2
  go_upto_if 86 with fail
  go_cut [19,20] (fun v19 v20 u => (∃ (p : Option Addr) (c : Nat) (M : List DebtV), v19 = .slice p M.length c ∧ C M ∧ M.length ≤ 1000 ∧ Slc 2 lpC u p M.length c (M.map debtPair)) ∧ LateT la u1 v20 u)
  case first =>
   as_aux_lemma =>
    obtain ⟨t0, t1, t2, t3, lr⟩ := hcell.out u1 hEu1
    by_cases hF : f2 = 0
    ·subst hF
     go_upto_region 15 with fail
     refine wp_region_facts [] [([],false,false),([],false,false),([],false,false),([],false,false),([0,1,2,3],false,false),([],false,false),([],false,false),([],false,false),([],false,false),([5,6,7,8],false,false)] (Ext) Ext (fun _ => True) (by kernel_rfl) (by kernel_rfl) Ext.refl (fun _ _ _ => Ext.trans) (fun _ _ h => h) (fun _ _ h => h.size) (fun _ _ h _ => h) trivial ?_
     dsimp only [List.length_cons, List.length_nil, List.drop_succ_cons, List.drop_zero, List.drop_nil]
     refine fq 0 rfl rfl rfl cK rfl rfl ?_; apply Exists.intro; constructor
     ·intro sv w' hw' hfa
      refine ⟨rfl, ?_⟩; simp only [putsL]; change qT _; simp only [qT, Act.put, sIA, sCS, sCZ]; simp [go_sem, quietTo, Ext.refl]; all_goals rfl
     refine fq 1 rfl rfl rfl cK rfl rfl ?_; apply Exists.intro; constructor
     ·intro sv w' hw' hfa
      have hk9 := (Ext.refl u1).drew.trans hw'; obtain ⟨hc, -, -⟩ := hk9.walk; have y0 := (hc g5 0 lr).trans t0; have y1 := (hc g5 1 lr).trans t1; have y2 := (hc g5 2 lr).trans t2; have y3 := (hc g5 3 lr).trans t3
      refine ⟨rfl, ?_⟩; simp only [putsL]; change qT _; simp only [qT, Act.put, sIA, sCS, sCZ]; simp [go_sem, quietTo, Ext.refl, ↓IntWalk.iteOmega, y0, y1, y2, y3]; (all_goals try simp (disch := omega) only [IntWalk.i64_in]); all_goals rfl
     refine fq 2 rfl rfl rfl cK rfl rfl ?_; apply Exists.intro; constructor
     ·intro sv w' hw' hfa
      refine ⟨rfl, ?_⟩; simp only [putsL]; change qT _; simp only [qT, Act.put, sIA, sCS, sCZ]; simp [go_sem, quietTo, Ext.refl]; all_goals rfl
     refine fq 3 rfl rfl rfl cK rfl rfl ?_; apply Exists.intro; constructor
     ·intro sv w' hw' hfa
      refine ⟨rfl, ?_⟩; simp only [putsL]; change qT _; simp only [qT, Act.put, sIA, sCS, sCZ]; simp [go_sem, quietTo, Ext.refl]; all_goals rfl
     refine fac_any 4 rfl rfl rfl cK ?_
     refine ⟨(fun y u => ∃ (p : Option Addr) (c : Nat) (M : List DebtV), y 4 = .slice p M.length c ∧ C M ∧ M.length ≤ 1000 ∧ Slc 2 lpC u p M.length c (M.map debtPair)), fun sv w' hw' hfa => ?_, ?_, ?_⟩
     ·obtain ⟨(f0 : sv 0 = _), (f1 : sv 1 = _), (f2 : sv 2 = _), (f3 : sv 3 = _), -⟩ := hfa; (try dsimp only at f0 f1 f2 f3)
      have hk9 := (Ext.refl u1).drew.trans hw'
      refine ⟨rfl, ?_⟩
      simp only [putsL]
      change outc _ _ (Sem.run _ (execOp (Act.eval (pT (pT (pT (pT _ 90 (sv 3)) 89 (sv 2)) 88 (sv 1)) 87 (sv 0))) _) _)
      try simp only [pT, Act.put, sIA, sCS, sCZ]
      simp [go_sem, outc, f0, f1, f2, f3]
      refine (d3.out rfl _ (hEu1.trans hk9)).mono ?_
      rintro e w9 ⟨v, rfl, pz, cz, Mz, rfl, hz1, hz2, hz3, hb9⟩
      exact ⟨_, rfl, hb9, pz, cz, Mz, by simp [upd], hz1, hz2, hz3⟩
     ·exact fun x w w' ⟨a, c, M, h1, h2, h3, h4⟩ he => ⟨a, c, M, h1, h2, h3, h4.ext he⟩
     refine fq 5 rfl rfl rfl cK rfl rfl ?_; apply Exists.intro; constructor
     ·intro sv w' hw' hfa
      refine ⟨rfl, ?_⟩; simp only [putsL]; change qT _; simp only [qT, Act.put, sIA, sCS, sCZ]; simp [go_sem, quietTo, Ext.refl]; all_goals rfl
     refine fq 6 rfl rfl rfl cK rfl rfl ?_; apply Exists.intro; constructor
     ·intro sv w' hw' hfa
      have hk9 := (Ext.refl u1).drew.trans hw'; obtain ⟨hc, -, -⟩ := hk9.walk; have y0 := (hc g5 0 lr).trans t0; have y1 := (hc g5 1 lr).trans t1; have y2 := (hc g5 2 lr).trans t2; have y3 := (hc g5 3 lr).trans t3
      refine ⟨rfl, ?_⟩; simp only [putsL]; change qT _; simp only [qT, Act.put, sIA, sCS, sCZ]; simp [go_sem, quietTo, Ext.refl, ↓IntWalk.iteOmega, y0, y1, y2, y3]; (all_goals try simp (disch := omega) only [IntWalk.i64_in]); all_goals rfl
     refine fq 7 rfl rfl rfl cK rfl rfl ?_; apply Exists.intro; constructor
     ·intro sv w' hw' hfa
      refine ⟨rfl, ?_⟩; simp only [putsL]; change qT _; simp only [qT, Act.put, sIA, sCS, sCZ]; simp [go_sem, quietTo, Ext.refl]; all_goals rfl
     refine fq 8 rfl rfl rfl cK rfl rfl ?_; apply Exists.intro; constructor
     ·intro sv w' hw' hfa
      refine ⟨rfl, ?_⟩; simp only [putsL]; change qT _; simp only [qT, Act.put, sIA, sCS, sCZ]; simp [go_sem, quietTo, Ext.refl]; all_goals rfl
     refine fac_any 9 rfl rfl rfl cK ?_
     refine ⟨(fun y u => ∃ (p : Option Addr) (c : Nat) (M : List LentV), y 9 = .slice p M.length c ∧ M.Perm la ∧ M.Pairwise lateLt ∧ M.length ≤ 1000 ∧ Slc 4 lentC u p M.length c M), fun sv w' hw' hfa => ?_, ?_, ?_⟩
     ·obtain ⟨(f5 : sv 5 = _), (f6 : sv 6 = _), (f7 : sv 7 = _), (f8 : sv 8 = _), -⟩ := hfa; (try dsimp only at f5 f6 f7 f8)
      have hk9 := (Ext.refl u1).drew.trans hw'
      refine ⟨rfl, ?_⟩
      simp only [putsL]
      change outc _ _ (Sem.run _ (execOp (Act.eval (pT (pT (pT (pT _ 95 (sv 8)) 94 (sv 7)) 93 (sv 6)) 92 (sv 5))) _) _)
      try simp only [pT, Act.put, sIA, sCS, sCZ]
      simp [go_sem, outc, f5, f6, f7, f8]
      refine (d4.out rfl _ (hEu1.trans hk9)).mono ?_
      rintro e w9 ⟨v, rfl, py, cy, My, rfl, hy1, hy2, hy3, hy4, hb9⟩
      exact ⟨_, rfl, hb9, py, cy, My, by simp [upd], hy1, hy2, hy3, hy4⟩
     ·exact fun x w w' ⟨a, c, M, h1, h2, h3, h4, h5⟩ he => ⟨a, c, M, h1, h2, h3, h4, h5.ext he⟩
     refine fac_nil fun xa wra hera hfra hcra holda hapa => ?_
     obtain ⟨(f0 : xa 0 = _), (f1 : xa 1 = _), (f2 : xa 2 = _), (f3 : xa 3 = _), f4, f5, f6, f7, f8, f9, -⟩ := hfra; (try dsimp only at f0 f1 f2 f3)
     obtain ⟨pz, cz, Mz, f4, hz1, hz2, hz3⟩ := f4
     replace f4 : xa 4 = _ := f4; replace f5 : xa 5 = _ := f5
     try dsimp only at f5
     replace f6 : xa 6 = _ := f6
     try dsimp only at f6
     replace f7 : xa 7 = _ := f7
     try dsimp only at f7
     replace f8 : xa 8 = _ := f8
     try dsimp only at f8
     obtain ⟨py, cy, My, f9, hy1, hy2, hy3, hy4⟩ := f9
     replace f9 : xa 9 = _ := f9
     change wpList _ _ _ _ (pT (pT (pT (pT (pT (pT (pT (pT (pT (pT _ 87 (xa 0)) 88 (xa 1)) 89 (xa 2)) 90 (xa 3)) 91 (xa 4)) 92 (xa 5)) 93 (xa 6)) 94 (xa 7)) 95 (xa 8)) 96 (xa 9)) _
     simp only [putsL, Nat.reduceAdd, List.drop_succ_cons, List.drop_zero, List.drop_nil, pT, Act.put, sIA, sCS, sCZ]
     try simp only [f0, f1, f2, f3, f4, f5, f6, f7, f8, f9]
     clear f0 f1 f2 f3 f5 f6 f7 f8; clear holda hapa
     have hka := (Ext.refl u1).drew.trans hera
     go_wp2
     go_meet
     exact ⟨⟨pz, cz, Mz, rfl, hz1, hz2, hz3⟩, py, cy, My, rfl, hy1, hy2, hy3, hy4, hka⟩
    ·have hfb : (f2 == 0) = false := beq_false_of_ne hF
     have hA0 := m3.out hF
     have hB0 := m4.out hF
     replace hF := Lib.hid hF; clear d3 d4
     go_wp2
     go_meet
     rw [hB0]
     exact ⟨⟨none, 0,[], rfl, hA0, by simp, Slc.nil _ _ _⟩, lateT_nil (Ext.refl _)⟩
  case rest =>
   as_aux_lemma =>
    obtain ⟨⟨qD, dD, ND, rfl, hP1, hP2, hTD⟩, qL, dL, NL, rfl, hQ1, hQ2, hQ3, hTL, hE2⟩ := hcut
    obtain ⟨u2, rfl⟩ : ∃ w9, w9 = wc := ⟨_, rfl⟩
    obtain rfl : MD = ND := z3.out _ _ hD1.out hP1
    obtain rfl : ML = NL := late_same hL1.out hL2.out hQ1 hQ2
    have hEu2 := hEu1.trans hE2
    have j0 := hE1.trans hE2
    have q1 := fun u (hu : Ext u2 u) => eqPairs_any pD qD MD.length cD dD (MD.map debtPair) u (hSD.out.ext (j0.trans hu)) (hTD.ext hu) (by omega)
    have q2 := fun u (hu : Ext u2 u) => eqLent_any pL qL ML.length cL dL ML u (hSL.out.ext (j0.trans hu)) (hTL.ext hu) (by omega)
    replace q1 := Lib.hid q1; replace q2 := Lib.hid q2; clear hcell d3 d4 m3 m4 j0 hSD hSL hTD hTL hP1 hQ1 hQ2
    go_wp2_with (first
     | (go_at_call 37; (with_reducible refine Calls.mono (q1.out _ (Ext.refl _)) ?_); rintro e y1 ⟨rfl, g1⟩)
     | (go_at_call 29; (with_reducible refine Calls.mono (q2.out _ g1) ?_); rintro e y2 ⟨rfl, h2⟩; have g2 := g1.trans h2)
     | (go_at_call 30; (with_reducible refine Calls.mono (hle.out _) ?_); rintro e y6 ⟨rfl, h6⟩))
    go_ret
    exact ⟨rfl, ((hb6.out.trans hEu2).trans g2).trans h6⟩
end Go.Proofs.YtkjhbofbcmelgaaGreatDoor
