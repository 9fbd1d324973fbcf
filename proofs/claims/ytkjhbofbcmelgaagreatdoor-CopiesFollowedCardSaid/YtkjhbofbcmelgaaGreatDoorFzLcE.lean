/- The facts of the library's properties: a copy that was lent is out. Conditions: none. -/
import Derived.Test.YtkjhbofbcmelgaaGreatDoorFzLcA
set_option linter.unusedSimpArgs false
set_option linter.unusedVariables false
namespace Go.Proofs.YtkjhbofbcmelgaaGreatDoor
open Go Go.RowKit Go.Sort
theorem slc1 {α : Type} {k : Nat} {enc : α → List Value} {w : World} {g : Nat} {t : TypeId} {x : α} (h : Blk w g t (enc x).toArray) : Slc k enc w (some ⟨g, 0, none⟩) 1 1 [x] := by
 refine ⟨⟨rfl, by omega, fun _ => ⟨g, 0, rfl, h.lt, fun i y hy j u hu => ?_⟩⟩, by omega, (fun e => by cases e), (fun a ha => by cases ha; exact ⟨g, 0, rfl, h.lt⟩)⟩
 have hi := (List.getElem?_eq_some_iff.1 hy).1
 simp only [List.length_singleton] at hi
 obtain rfl : i = 0 := by omega
 cases hy
 have e : 0 + 0 * k + j = j := by omega
 rw [e, h.cell]
 simpa using hu
theorem Elems.lent {w : World} {b off : Nat} {xs : List LentV} (h : Elems 4 lentC w b off xs) {i : Nat} {x : LentV} (hx : xs[i]? = some x) : w.cell? ⟨b, off + i * 4, none⟩ = some (.string x.piece) ∧ w.cell? ⟨b, off + i * 4 + 1, none⟩ = some (.int .i64 x.no) ∧ w.cell? ⟨b, off + i * 4 + 2, none⟩ = some (.string x.singer) ∧ w.cell? ⟨b, off + i * 4 + 3, none⟩ = some (.int .i64 x.since) :=
 ⟨h i x hx 0 _ rfl, h i x hx 1 _ rfl, h i x hx 2 _ rfl, h i x hx 3 _ rfl⟩
set_option maxRecDepth 100000 in
set_option maxHeartbeats 3200000 in
theorem eqLent_any (p q : Option Addr) (n c d : Nat) (xs : List LentV) (w : World) (h1 : Slc 4 lentC w p n c xs) (h2 : Slc 4 lentC w q n d xs) (hn : n ≤ 300000) :
 Calls Tryz.prog 29 #[.slice p n c, .slice q n d] w fun e w' => e = .returned (.bool true) ∧ Ext w w' := by
 obtain ⟨hl, hp⟩ := slcC h1
 obtain ⟨-, hq⟩ := slcC h2
 subst hl
 replace hp := Lib.hid hp; replace hq := Lib.hid hq; clear h1 h2
 go_enter Tryz.func29, Tryz.ntmps29
 go_wp2
 go_loopw [13] (fun i wr => ∃ k : Nat, k ≤ xs.length ∧ i = .int .i64 k ∧ Ext w wr) (fun i _ => xs.length - (intOf i).toNat)
 case atStart => exact ⟨0, Nat.zero_le _, rfl, Ext.refl _⟩
 case round =>
  obtain ⟨k, hk, rfl, hE⟩ := hrel
  by_cases hlt : k < xs.length
  ·obtain ⟨x, hx⟩ := getD_some (rfl : xs.length = xs.length) hlt
   rcases hp.out with ⟨-, e⟩ | ⟨b1, o1, rfl, hb1, hE1⟩
   ·rw [e] at hx; cases hx
   rcases hq.out with ⟨-, e⟩ | ⟨b2, o2, rfl, hb2, hE2⟩
   ·rw [e] at hx; cases hx
   obtain ⟨c1, c2, c3, c4⟩ := (hE1.ext hE hb1).lent hx
   obtain ⟨d1, d2, d3, d4⟩ := (hE2.ext hE hb2).lent hx
   have l1 := Nat.lt_of_lt_of_le hb1 hE.size
   have l2 := Nat.lt_of_lt_of_le hb2 hE.size
   have hkI : (k : Int) < xs.length := by omega
   clear hx hE1 hE2
   go_upto_region 6 with fail
   refine wp_region_facts [] [([],false,false),([],false,false),([0,1],false,false),([0,1,2],false,false),([],false,false),([],false,false),([4,5],false,false),([4,5,6],false,false),([0,1,2,3,4,5,6,7],false,false)] (Ext) Ext (fun _ => True) (by kernel_rfl) (by kernel_rfl) Ext.refl (fun _ _ _ => Ext.trans) (fun _ _ h => h) (fun _ _ h => h.size) (fun _ _ h _ => h) trivial ?_
   dsimp only [List.length_cons, List.length_nil, List.drop_succ_cons, List.drop_zero, List.drop_nil]
   refine fq 0 rfl rfl rfl cK rfl rfl ?_; apply Exists.intro; constructor
   ·intro sv w' hw' hfa
    refine ⟨rfl, ?_⟩; simp only [putsL]; change qT _; simp only [qT, Act.put, sIA, sCS, sCZ]; simp [go_sem, quietTo, Ext.refl]; all_goals rfl
   refine fq 1 rfl rfl rfl cK rfl rfl ?_; apply Exists.intro; constructor
   ·intro sv w' hw' hfa
    refine ⟨rfl, ?_⟩; simp only [putsL]; change qT _; simp only [qT, Act.put, sIA, sCS, sCZ]; simp [go_sem, quietTo, Ext.refl]; all_goals rfl
   refine fq 2 rfl rfl rfl cK rfl rfl ?_; apply Exists.intro; constructor
   ·rintro sv w' hw' ⟨(f0 : sv 0 = _), (f1 : sv 1 = _), -⟩; (try dsimp only at f0 f1)
    have hk9 := (Ext.refl wr).drew.trans hw'; obtain ⟨hc, hff, hz9⟩ := hk9.walk; have y1 := (hc _ _ l1).trans c1; have y2 := (hc _ _ l1).trans c2; have y3 := (hc _ _ l1).trans c3; have y4 := (hc _ _ l1).trans c4; have z1 := (hc _ _ l2).trans d1; have z2 := (hc _ _ l2).trans d2; have z3 := (hc _ _ l2).trans d3; have z4 := (hc _ _ l2).trans d4
    refine ⟨rfl, ?_⟩; simp only [putsL]; change qT (pT (pT _ 17 (sv 1)) 16 (sv 0)); simp only [qT, pT, Act.put, sIA, sCS, sCZ]; simp [go_sem, quietTo, Ext.refl, ↓IntWalk.iteOmega, f0, f1, hkI]; (all_goals try simp (disch := omega) only [IntWalk.i64_in]); all_goals rfl
   refine fq 3 rfl rfl rfl cK rfl rfl ?_; apply Exists.intro; constructor
   ·rintro sv w' hw' ⟨_, _, (f2 : sv 2 = _), -⟩; (try dsimp only at f2)
    have hk9 := (Ext.refl wr).drew.trans hw'; obtain ⟨hc, hff, hz9⟩ := hk9.walk; have y1 := (hc _ _ l1).trans c1; have y2 := (hc _ _ l1).trans c2; have y3 := (hc _ _ l1).trans c3; have y4 := (hc _ _ l1).trans c4; have z1 := (hc _ _ l2).trans d1; have z2 := (hc _ _ l2).trans d2; have z3 := (hc _ _ l2).trans d3; have z4 := (hc _ _ l2).trans d4
    refine ⟨rfl, ?_⟩; simp only [putsL]; change qT (pT (pT (pT _ 18 (sv 2)) 17 (sv 1)) 16 (sv 0)); simp only [qT, pT, Act.put, sIA, sCS, sCZ]; simp [go_sem, quietTo, Ext.refl, ↓IntWalk.iteOmega, f2, y1, y2, y3, y4]; (all_goals try simp (disch := omega) only [IntWalk.i64_in]); all_goals rfl
   refine fq 4 rfl rfl rfl cK rfl rfl ?_; apply Exists.intro; constructor
   ·intro sv w' hw' hfa
    refine ⟨rfl, ?_⟩; simp only [putsL]; change qT _; simp only [qT, Act.put, sIA, sCS, sCZ]; simp [go_sem, quietTo, Ext.refl]; all_goals rfl
   refine fq 5 rfl rfl rfl cK rfl rfl ?_; apply Exists.intro; constructor
   ·intro sv w' hw' hfa
    refine ⟨rfl, ?_⟩; simp only [putsL]; change qT _; simp only [qT, Act.put, sIA, sCS, sCZ]; simp [go_sem, quietTo, Ext.refl]; all_goals rfl
   refine fq 6 rfl rfl rfl cK rfl rfl ?_; apply Exists.intro; constructor
   ·rintro sv w' hw' ⟨(f4 : sv 4 = _), (f5 : sv 5 = _), -⟩; (try dsimp only at f4 f5)
    have hk9 := (Ext.refl wr).drew.trans hw'; obtain ⟨hc, hff, hz9⟩ := hk9.walk; have y1 := (hc _ _ l1).trans c1; have y2 := (hc _ _ l1).trans c2; have y3 := (hc _ _ l1).trans c3; have y4 := (hc _ _ l1).trans c4; have z1 := (hc _ _ l2).trans d1; have z2 := (hc _ _ l2).trans d2; have z3 := (hc _ _ l2).trans d3; have z4 := (hc _ _ l2).trans d4
    refine ⟨rfl, ?_⟩; simp only [putsL]; change qT (pT (pT _ 21 (sv 5)) 20 (sv 4)); simp only [qT, pT, Act.put, sIA, sCS, sCZ]; simp [go_sem, quietTo, Ext.refl, ↓IntWalk.iteOmega, f4, f5, hkI]; (all_goals try simp (disch := omega) only [IntWalk.i64_in]); all_goals rfl
   refine fq 7 rfl rfl rfl cK rfl rfl ?_; apply Exists.intro; constructor
   ·rintro sv w' hw' ⟨_, _, (f6 : sv 6 = _), -⟩; (try dsimp only at f6)
    have hk9 := (Ext.refl wr).drew.trans hw'; obtain ⟨hc, hff, hz9⟩ := hk9.walk; have y1 := (hc _ _ l1).trans c1; have y2 := (hc _ _ l1).trans c2; have y3 := (hc _ _ l1).trans c3; have y4 := (hc _ _ l1).trans c4; have z1 := (hc _ _ l2).trans d1; have z2 := (hc _ _ l2).trans d2; have z3 := (hc _ _ l2).trans d3; have z4 := (hc _ _ l2).trans d4
    refine ⟨rfl, ?_⟩; simp only [putsL]; change qT (pT (pT (pT _ 22 (sv 6)) 21 (sv 5)) 20 (sv 4)); simp only [qT, pT, Act.put, sIA, sCS, sCZ]; simp [go_sem, quietTo, Ext.refl, ↓IntWalk.iteOmega, f6, z1, z2, z3, z4]; (all_goals try simp (disch := omega) only [IntWalk.i64_in]); all_goals rfl
   refine fq 8 rfl rfl rfl cK rfl rfl ?_; apply Exists.intro; constructor
   ·rintro sv w' hw' ⟨_, _, _, (f3 : sv 3 = _), _, _, _, (f7 : sv 7 = _), -⟩; (try dsimp only at f3 f7)
    refine ⟨rfl, ?_⟩; simp only [putsL]; change qT (pT (pT (pT (pT (pT (pT (pT (pT _ 23 (sv 7)) 22 (sv 6)) 21 (sv 5)) 20 (sv 4)) 19 (sv 3)) 18 (sv 2)) 17 (sv 1)) 16 (sv 0)); simp only [qT, pT, Act.put, sIA, sCS, sCZ]; simp [go_sem, quietTo, Ext.refl, ↓IntWalk.iteOmega, f3, f7]; (all_goals try simp (disch := omega) only [IntWalk.i64_in]); all_goals rfl
   refine fac_nil fun xq wrq herq hfrq hcrq holdq hapq => ?_
   obtain ⟨(f0 : xq 0 = _), (f1 : xq 1 = _), (f2 : xq 2 = _), (f3 : xq 3 = _), (f4 : xq 4 = _), (f5 : xq 5 = _), (f6 : xq 6 = _), (f7 : xq 7 = _), (f8 : xq 8 = _), -⟩ := hfrq; (try dsimp only at f0 f1 f2 f3 f4 f5 f6 f7 f8)
   change wpList _ _ _ _ (pT (pT (pT (pT (pT (pT (pT (pT (pT _ 16 (xq 0)) 17 (xq 1)) 18 (xq 2)) 19 (xq 3)) 20 (xq 4)) 21 (xq 5)) 22 (xq 6)) 23 (xq 7)) 24 (xq 8)) _
   simp only [putsL, Nat.reduceAdd, List.drop_succ_cons, List.drop_zero, List.drop_nil, pT, Act.put, sIA, sCS, sCZ]
   try simp only [f0, f1, f2, f3, f4, f5, f6, f7, f8]
   clear f0 f1 f2 f3 f4 f5 f6 f7 f8; clear holdq hapq
   go_wp2
   go_roundw
   case rel => exact ⟨k + 1, by omega, by go_num, hE.trans ((Ext.refl _).drew.trans herq)⟩
   case measure => simp [intOf]; omega
  ·obtain rfl : k = xs.length := by omega
   go_wp2
   go_ret
   exact ⟨rfl, hE⟩
/-! ### the library's facts -/
def pB : ByteArray := ⟨#[112]⟩
def lB : ByteArray := ⟨#[108]⟩
def sB : ByteArray := ⟨#[115]⟩
def T0L : List TitleV := [⟨pB, 1,0⟩]
def r0L : LendR := ⟨1,0,0,1⟩
def d0L : List SlipV := [⟨lB, 1,5,1, pB, 1, sB⟩]
theorem libF0 : libF T0L r0L d0L = 0 := by kernel_rfl
theorem ord0 : ordF d0L 5 = [0] := (ord_is (M := [0]) (by rw [show selF d0L 5 = [0] by decide]) (List.pairwise_singleton _ _)).symm
theorem loans0 : outL (libAt T0L r0L d0L 5).1.loans = [⟨pB, 1, sB, 5⟩] := by
 unfold libAt
 rw [ord0]
 kernel_rfl
theorem okL0 : (∀ x ∈ T0L, x.Small) ∧ ∀ x ∈ d0L, x.Small := by
 constructor
 ·intro x hx
  rw [List.mem_singleton.1 hx]
  exact ⟨by decide, by decide, by decide, by decide, by decide⟩
 ·intro x hx
  rw [List.mem_singleton.1 hx]
  exact ⟨by decide, by decide, by decide⟩
set_option maxRecDepth 100000 in
set_option maxHeartbeats 3200000 in
theorem lentReady_any (w : World) : Calls Tryz.prog 30 #[] w fun e w' => e = .returned (.bool true) ∧ Ext w w' := by
 have hE : Ext w (((w.alloc (.cells (titleC ⟨pB, 1,0⟩).toArray 97)).alloc (.cells #[.int .i64 1, .int .i64 0, .int .i64 0, .int .i64 1] 28)).alloc (.cells (slipC ⟨lB, 1,5,1, pB, 1, sB⟩).toArray 101)) := (((Ext.refl w).alloc _).alloc _).alloc _
 have hT : Blk (((w.alloc (.cells (titleC ⟨pB, 1,0⟩).toArray 97)).alloc (.cells #[.int .i64 1, .int .i64 0, .int .i64 0, .int .i64 1] 28)).alloc (.cells (slipC ⟨lB, 1,5,1, pB, 1, sB⟩).toArray 101)) w.heap.size 97 (titleC ⟨pB, 1,0⟩).toArray := ((Blk.new' rfl).alloc _).alloc _
 have hS : Blk (((w.alloc (.cells (titleC ⟨pB, 1,0⟩).toArray 97)).alloc (.cells #[.int .i64 1, .int .i64 0, .int .i64 0, .int .i64 1] 28)).alloc (.cells (slipC ⟨lB, 1,5,1, pB, 1, sB⟩).toArray 101)) (w.heap.size + 1 + 1) 101 (slipC ⟨lB, 1,5,1, pB, 1, sB⟩).toArray := Blk.new' (by simp)
 have ho := out_any (some ⟨w.heap.size, 0, none⟩) 1 1 T0L r0L (some ⟨w.heap.size + 1 + 1,0, none⟩) 1 1 d0L 5 _ ⟨slc1 hT, okL0.1, by omega, slc1 hS, okL0.2, by omega, libF0⟩ (by decide)
 have ho2 := ho.mono fun e w' hh => (by
  obtain ⟨v, M, rfl, hp, -, hown, hx⟩ := hh
  rw [loans0] at hp
  obtain rfl := List.perm_singleton.1 hp
  obtain ⟨p, c, rfl, hS⟩ := slc_of_own lentC_len hown (by decide) (by simp)
  exact ⟨p, c, rfl, hS, hx⟩ : ∃ (p : Option Addr) (c : Nat), e = .returned (.tuple #[.slice p 1 c, .int .i64 0]) ∧ Slc 4 lentC w' p 1 c [⟨pB, 1, sB, 5⟩] ∧ Ext _ w')
 unfold lendVal r0L at ho2
 unfold titleC slipC pB lB sB at ho2 hE
 clear ho hT hS; replace ho2 := Lib.hid ho2; replace hE := Lib.hid hE
 go_enter Tryz.func30, Tryz.ntmps30
 go_upto_region 3 with (go_at_call 14; (with_reducible refine Calls.mono ho2.out ?_); rintro e w1 ⟨p, c, rfl, hS1, hb1⟩)
 have hB2 : Blk (w1.alloc (.cells (lentC ⟨⟨#[112]⟩, 1, ⟨#[115]⟩, 5⟩).toArray 65)) w1.heap.size 65 (lentC ⟨⟨#[112]⟩, 1, ⟨#[115]⟩, 5⟩).toArray := Blk.new' rfl
 have hq := eqLent_any p (some ⟨w1.heap.size, 0, none⟩) 1 c 1 [⟨⟨#[112]⟩, 1, ⟨#[115]⟩, 5⟩] _ (hS1.ext ((Ext.refl w1).alloc _)) (slc1 hB2) (by omega)
 unfold lentC at hq
 replace hq := Lib.hid hq; clear hS1 hB2
 go_wp2_with (go_at_call 29; (with_reducible refine Calls.mono hq.out ?_); rintro e w2 ⟨rfl, hb2⟩)
 go_ret
 exact ⟨rfl, ((hE.out.trans hb1).alloc _).trans hb2⟩
end Go.Proofs.YtkjhbofbcmelgaaGreatDoor
