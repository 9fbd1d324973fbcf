/- A text that the stream changes. Conditions: sizes. -/
import Derived.Test.YtehboinleolihaaGreatDoorZkJ10
import Derived.Test.YtehboinleolihaaGreatDoorZkJ4
import Derived.Laws.Runes
set_option linter.unusedSimpArgs false
set_option linter.unusedVariables false
namespace Go.Proofs.YtehboinleolihaaGreatDoor
open Go Go.RowKit
theorem encode_le4 (r : Int) : (Utf8.encode r).size ≤ 4 := by
 unfold Utf8.encode
 simp only
 generalize (if Utf8.valid r = true then r.toNat else Utf8.runeError) = c
 split
 ·show 1 ≤ 4; omega
 ·split
  ·show 2 ≤ 4; omega
  ·split
   ·show 3 ≤ 4; omega
   ·show 4 ≤ 4; omega
def ChangedR (s k : Nat) (str cs : ByteArray) (w : World) (e : Ending) (w' : World) : Prop := ∃ y : ByteArray, e = .returned (.string y) ∧ y.size ≤ str.size + cs.size + 4 ∧ Str w' s (k + 3) ∧ ExtS s w w'
set_option maxRecDepth 100000 in
set_option maxHeartbeats 3200000 in
theorem changed_any (s k : Nat) (str cs : ByteArray) (w : World) (hk : k ≤ 900000) (hs : str.size ≤ 100000) (hc1 : 1 ≤ cs.size) (hc2 : cs.size ≤ 1000) (h : Str w s k) :
 Calls Tryz.prog 157 #[.pointer (some ⟨s, 0, none⟩), .string str, .string cs] w (ChangedR s k str cs w) := by
 by_cases h0 : str = ⟨#[]⟩
 ·subst h0
  have hres : ChangedR s k ⟨#[]⟩ cs w (.returned (.string cs)) w := ⟨_, rfl, by omega, h.more (by omega), ExtS.refl _ _⟩
  replace hres := Lib.hid hres
  go_enter Tryz.func157, Tryz.ntmps157
  go_wp2
  go_ret
  exact hres.out
 ·obtain ⟨g1, g2⟩ := ba_empty h0
  have hpos : 1 ≤ str.size := by
   rcases Nat.eq_zero_or_pos str.size with h1 | h1
   ·exact absurd (ba_eq (Array.toList_inj.2 (Array.eq_empty_of_size_eq_zero h1))) h0
   ·exact h1
  obtain ⟨g3, g4⟩ := ba_empty (s := cs) (fun e => by subst e; exact absurd hc1 (by decide))
  go_enter Tryz.func157, Tryz.ntmps157
  go_upto_region 4 with (first
   | (go_at_call 81; refine (next_any s k str.size _ (by omega) hpos (by omega) h).mono ?_; rintro e w1 ⟨i, rfl, hi, hS1, hE1⟩))
  have hil : (i : Int) < str.size := by omega
  go_upto_region 5 with (go_at_call 81; (with_reducible refine Calls.mono (next_any s (k + 1) cs.size w1 (by omega) hc1 (by omega) hS1) ?_); rintro e w2 ⟨v, rfl, hv, hS2, hE2⟩; have hvl : (v : Int) < cs.size := by omega)
  go_upto_if 28 with (go_at_call 81; (with_reducible refine Calls.mono (next_any s (k + 1 + 1) 3 w2 (by omega) (by omega) (by omega) hS2) ?_); rintro e w3 ⟨u, rfl, hu, hS3, hE3⟩)
  generalize UInt8.toNat _ = ch
  have hE4 := (hE1.trans hE2).trans hE3
  have hil2 : ¬ (str.size : Int) < (i : Int) := by omega
  have hil3 : ¬ (str.size : Int) < (i : Int) + 1 := by omega
  have hi1 : IntKind.i64.wrap ((i : Int) + 1) = (i : Int) + 1 := IntWalk.i64_in _ (by omega)
  have hen := encode_le4 (IntKind.i32.wrap (ch : Int))
  have a6 : ¬ 9223372036854775807 < min i str.size + (Utf8.encode (IntKind.i32.wrap (ch : Int))).size := by omega
  clear hS1 hE1 hS2 hE2 hE3 h g1 g2 g3 g4 h0
  have hu3 : u = 0 ∨ u = 1 ∨ u = 2 := by omega
  rcases hu3 with rfl | rfl | rfl
  ·go_upto_region 7 with fail
   refine wp_region_facts [] [([],false,false),([],false,false),([0,1],false,false),([],false,false),([3],false,false),([3,4],false,false),([0,1,2,3,4,5],false,false),([],false,false),([],false,false),([8],false,false),([7,8,9],false,false),([0,1,2,3,4,5,6,7,8,9,10],false,false),([0,1,2,3,4,5,6,7,8,9,10,11],false,false)] (Ext) Ext (fun _ => True) (by kernel_rfl) (by kernel_rfl) Ext.refl (fun _ _ _ => Ext.trans) (fun _ _ h => h) (fun _ _ h => h.size) (fun _ _ h _ => h) trivial ?_
   dsimp only [List.length_cons, List.length_nil, List.drop_succ_cons, List.drop_zero, List.drop_nil]
   refine fq 0 rfl rfl rfl cK rfl rfl ?_; apply Exists.intro; constructor
   ·intro sv w' hw' hfa
    refine ⟨rfl, ?_⟩; simp only [putsL]; change qT _; simp only [qT, Act.put, sIA, sCS, sCZ]; simp [go_sem, quietTo, Ext.refl]; all_goals rfl
   refine fq 1 rfl rfl rfl cK rfl rfl ?_; apply Exists.intro; constructor
   ·intro sv w' hw' hfa
    refine ⟨rfl, ?_⟩; simp only [putsL]; change qT _; simp only [qT, Act.put, sIA, sCS, sCZ]; simp [go_sem, quietTo, Ext.refl]; all_goals rfl
   refine fq 2 rfl rfl rfl cK rfl rfl ?_; apply Exists.intro; constructor
   ·rintro sv w' hw' ⟨(f0 : sv 0 = _), (f1 : sv 1 = _), -⟩; (try dsimp only at f0 f1)
    refine ⟨rfl, ?_⟩; simp only [putsL]; change qT (pT (pT _ 31 (sv 1)) 30 (sv 0)); simp only [qT, pT, Act.put, sIA, sCS, sCZ]; simp [go_sem, quietTo, Ext.refl, ↓IntWalk.iteOmega, f0, f1, hil, hil2, hi]; (all_goals try simp (disch := omega) only [IntWalk.i64_in]); all_goals rfl
   refine fq 3 rfl rfl rfl cK rfl rfl ?_; apply Exists.intro; constructor
   ·intro sv w' hw' hfa
    refine ⟨rfl, ?_⟩; simp only [putsL]; change qT _; simp only [qT, Act.put, sIA, sCS, sCZ]; simp [go_sem, quietTo, Ext.refl]; all_goals rfl
   refine fq 4 rfl rfl rfl cK rfl rfl ?_; apply Exists.intro; constructor
   ·rintro sv w' hw' ⟨(f3 : sv 3 = _), -⟩; (try dsimp only at f3)
    refine ⟨rfl, ?_⟩; simp only [putsL]; change qT (pT _ 33 (sv 3)); simp only [qT, pT, Act.put, sIA, sCS, sCZ]; simp [go_sem, quietTo, Ext.refl, ↓IntWalk.iteOmega, f3]; (all_goals try simp (disch := omega) only [IntWalk.i64_in]); all_goals rfl
   refine fq 5 rfl rfl rfl cK rfl rfl ?_; apply Exists.intro; constructor
   ·rintro sv w' hw' ⟨_, (f4 : sv 4 = _), -⟩; (try dsimp only at f4)
    refine ⟨rfl, ?_⟩; simp only [putsL]; change qT (pT (pT _ 34 (sv 4)) 33 (sv 3)); simp only [qT, pT, Act.put, sIA, sCS, sCZ]; simp [go_sem, quietTo, Ext.refl, ↓IntWalk.iteOmega, f4]; (all_goals try simp (disch := omega) only [IntWalk.i64_in]); all_goals rfl
   refine fq 6 rfl rfl rfl cK rfl rfl ?_; apply Exists.intro; constructor
   ·rintro sv w' hw' ⟨_, _, (f2 : sv 2 = _), _, _, (f5 : sv 5 = _), -⟩; (try dsimp only at f2 f5)
    refine ⟨rfl, ?_⟩; simp only [putsL]; change qT (pT (pT (pT (pT (pT (pT _ 35 (sv 5)) 34 (sv 4)) 33 (sv 3)) 32 (sv 2)) 31 (sv 1)) 30 (sv 0)); simp only [qT, pT, Act.put, sIA, sCS, sCZ]; simp [go_sem, quietTo, Ext.refl, ↓IntWalk.iteOmega, f2, f5, a6]; (all_goals try simp (disch := omega) only [IntWalk.i64_in]); all_goals rfl
   refine fq 7 rfl rfl rfl cK rfl rfl ?_; apply Exists.intro; constructor
   ·intro sv w' hw' hfa
    refine ⟨rfl, ?_⟩; simp only [putsL]; change qT _; simp only [qT, Act.put, sIA, sCS, sCZ]; simp [go_sem, quietTo, Ext.refl]; all_goals rfl
   refine fq 8 rfl rfl rfl cK rfl rfl ?_; apply Exists.intro; constructor
   ·intro sv w' hw' hfa
    refine ⟨rfl, ?_⟩; simp only [putsL]; change qT _; simp only [qT, Act.put, sIA, sCS, sCZ]; simp [go_sem, quietTo, Ext.refl]; all_goals rfl
   refine fq 9 rfl rfl rfl cK rfl rfl ?_; apply Exists.intro; constructor
   ·rintro sv w' hw' ⟨(f8 : sv 8 = _), -⟩; (try dsimp only at f8)
    refine ⟨rfl, ?_⟩; simp only [putsL]; change qT (pT _ 38 (sv 8)); simp only [qT, pT, Act.put, sIA, sCS, sCZ]; simp [go_sem, quietTo, Ext.refl, ↓IntWalk.iteOmega, f8, hi1]; (all_goals try simp (disch := omega) only [IntWalk.i64_in]); all_goals rfl
   refine fq 10 rfl rfl rfl cK rfl rfl ?_; apply Exists.intro; constructor
   ·rintro sv w' hw' ⟨(f7 : sv 7 = _), _, (f9 : sv 9 = _), -⟩; (try dsimp only at f7 f9)
    refine ⟨rfl, ?_⟩; simp only [putsL]; change qT (pT (pT (pT _ 39 (sv 9)) 38 (sv 8)) 37 (sv 7)); simp only [qT, pT, Act.put, sIA, sCS, sCZ]; simp [go_sem, quietTo, Ext.refl, ↓IntWalk.iteOmega, f7, f9, hil, hil3, hi]; (all_goals try simp (disch := omega) only [IntWalk.i64_in]); all_goals rfl
   refine fq 11 rfl rfl rfl cK rfl rfl ?_; apply Exists.intro; constructor
   ·rintro sv w' hw' ⟨_, _, _, _, _, _, (f6 : sv 6 = _), _, _, _, (f10 : sv 10 = _), -⟩; (try dsimp only at f6 f10)
    refine ⟨rfl, ?_⟩; simp only [putsL]; change qT (pT (pT (pT (pT (pT (pT (pT (pT (pT (pT (pT _ 40 (sv 10)) 39 (sv 9)) 38 (sv 8)) 37 (sv 7)) 36 (sv 6)) 35 (sv 5)) 34 (sv 4)) 33 (sv 3)) 32 (sv 2)) 31 (sv 1)) 30 (sv 0)); simp only [qT, pT, Act.put, sIA, sCS, sCZ]; simp [go_sem, quietTo, Ext.refl, ↓IntWalk.iteOmega, f6, f10]; (all_goals try simp (disch := omega) only [IntWalk.i64_in]); all_goals rfl
   refine fq 12 rfl rfl rfl cK rfl rfl ?_; apply Exists.intro; constructor
   ·rintro sv w' hw' ⟨_, _, _, _, _, _, _, _, _, _, _, (f11 : sv 11 = _), -⟩; (try dsimp only at f11)
    refine ⟨rfl, ?_⟩; simp only [putsL]; change qT (pT (pT (pT (pT (pT (pT (pT (pT (pT (pT (pT (pT _ 41 (sv 11)) 40 (sv 10)) 39 (sv 9)) 38 (sv 8)) 37 (sv 7)) 36 (sv 6)) 35 (sv 5)) 34 (sv 4)) 33 (sv 3)) 32 (sv 2)) 31 (sv 1)) 30 (sv 0)); simp only [qT, pT, Act.put, sIA, sCS, sCZ]; simp [go_sem, quietTo, Ext.refl, f11]; all_goals rfl
   refine fac_nil fun xq wrq herq hfrq hcrq holdq hapq => ?_
   obtain ⟨(f0 : xq 0 = _), (f1 : xq 1 = _), (f2 : xq 2 = _), (f3 : xq 3 = _), (f4 : xq 4 = _), (f5 : xq 5 = _), (f6 : xq 6 = _), (f7 : xq 7 = _), (f8 : xq 8 = _), (f9 : xq 9 = _), (f10 : xq 10 = _), (f11 : xq 11 = _), (f12 : xq 12 = _), -⟩ := hfrq; (try dsimp only at f0 f1 f2 f3 f4 f5 f6 f7 f8 f9 f10 f11 f12)
   change wpList _ _ _ _ (pT (pT (pT (pT (pT (pT (pT (pT (pT (pT (pT (pT (pT _ 30 (xq 0)) 31 (xq 1)) 32 (xq 2)) 33 (xq 3)) 34 (xq 4)) 35 (xq 5)) 36 (xq 6)) 37 (xq 7)) 38 (xq 8)) 39 (xq 9)) 40 (xq 10)) 41 (xq 11)) 6 (xq 12)) _
   simp only [putsL, Nat.reduceAdd, List.drop_succ_cons, List.drop_zero, List.drop_nil, pT, Act.put, sIA, sCS, sCZ]
   try simp only [f0, f1, f2, f3, f4, f5, f6, f7, f8, f9, f10, f11, f12]
   clear f0 f1 f2 f3 f4 f5 f6 f7 f8 f9 f10 f11 f12; clear holdq hapq
   go_wp2
   go_ret
   exact ⟨_, rfl, by simp only [ByteArray.size_append, ByteArray.size_extract]; omega, (hS3.ext (Ext.drew (Ext.refl _))).ext herq |>.more (by omega), (hE4.ext (Ext.drew (Ext.refl _))).ext herq⟩
  ·go_upto_region 9 with fail
   refine wp_region_facts [] [([],false,false),([],false,false),([0,1],false,false),([],false,false),([3],false,false),([3,4],false,false),([0,1,2,3,4,5],false,false),([],false,false),([],false,false),([7,8],false,false),([0,1,2,3,4,5,6,7,8,9],false,false),([0,1,2,3,4,5,6,7,8,9,10],false,false)] (Ext) Ext (fun _ => True) (by kernel_rfl) (by kernel_rfl) Ext.refl (fun _ _ _ => Ext.trans) (fun _ _ h => h) (fun _ _ h => h.size) (fun _ _ h _ => h) trivial ?_
   dsimp only [List.length_cons, List.length_nil, List.drop_succ_cons, List.drop_zero, List.drop_nil]
   refine fq 0 rfl rfl rfl cK rfl rfl ?_; apply Exists.intro; constructor
   ·intro sv w' hw' hfa
    refine ⟨rfl, ?_⟩; simp only [putsL]; change qT _; simp only [qT, Act.put, sIA, sCS, sCZ]; simp [go_sem, quietTo, Ext.refl]; all_goals rfl
   refine fq 1 rfl rfl rfl cK rfl rfl ?_; apply Exists.intro; constructor
   ·intro sv w' hw' hfa
    refine ⟨rfl, ?_⟩; simp only [putsL]; change qT _; simp only [qT, Act.put, sIA, sCS, sCZ]; simp [go_sem, quietTo, Ext.refl]; all_goals rfl
   refine fq 2 rfl rfl rfl cK rfl rfl ?_; apply Exists.intro; constructor
   ·rintro sv w' hw' ⟨(f0 : sv 0 = _), (f1 : sv 1 = _), -⟩; (try dsimp only at f0 f1)
    refine ⟨rfl, ?_⟩; simp only [putsL]; change qT (pT (pT _ 45 (sv 1)) 44 (sv 0)); simp only [qT, pT, Act.put, sIA, sCS, sCZ]; simp [go_sem, quietTo, Ext.refl, ↓IntWalk.iteOmega, f0, f1, hil, hil2, hi]; (all_goals try simp (disch := omega) only [IntWalk.i64_in]); all_goals rfl
   refine fq 3 rfl rfl rfl cK rfl rfl ?_; apply Exists.intro; constructor
   ·intro sv w' hw' hfa
    refine ⟨rfl, ?_⟩; simp only [putsL]; change qT _; simp only [qT, Act.put, sIA, sCS, sCZ]; simp [go_sem, quietTo, Ext.refl]; all_goals rfl
   refine fq 4 rfl rfl rfl cK rfl rfl ?_; apply Exists.intro; constructor
   ·rintro sv w' hw' ⟨(f3 : sv 3 = _), -⟩; (try dsimp only at f3)
    refine ⟨rfl, ?_⟩; simp only [putsL]; change qT (pT _ 47 (sv 3)); simp only [qT, pT, Act.put, sIA, sCS, sCZ]; simp [go_sem, quietTo, Ext.refl, ↓IntWalk.iteOmega, f3]; (all_goals try simp (disch := omega) only [IntWalk.i64_in]); all_goals rfl
   refine fq 5 rfl rfl rfl cK rfl rfl ?_; apply Exists.intro; constructor
   ·rintro sv w' hw' ⟨_, (f4 : sv 4 = _), -⟩; (try dsimp only at f4)
    refine ⟨rfl, ?_⟩; simp only [putsL]; change qT (pT (pT _ 48 (sv 4)) 47 (sv 3)); simp only [qT, pT, Act.put, sIA, sCS, sCZ]; simp [go_sem, quietTo, Ext.refl, ↓IntWalk.iteOmega, f4]; (all_goals try simp (disch := omega) only [IntWalk.i64_in]); all_goals rfl
   refine fq 6 rfl rfl rfl cK rfl rfl ?_; apply Exists.intro; constructor
   ·rintro sv w' hw' ⟨_, _, (f2 : sv 2 = _), _, _, (f5 : sv 5 = _), -⟩; (try dsimp only at f2 f5)
    refine ⟨rfl, ?_⟩; simp only [putsL]; change qT (pT (pT (pT (pT (pT (pT _ 49 (sv 5)) 48 (sv 4)) 47 (sv 3)) 46 (sv 2)) 45 (sv 1)) 44 (sv 0)); simp only [qT, pT, Act.put, sIA, sCS, sCZ]; simp [go_sem, quietTo, Ext.refl, ↓IntWalk.iteOmega, f2, f5, a6]; (all_goals try simp (disch := omega) only [IntWalk.i64_in]); all_goals rfl
   refine fq 7 rfl rfl rfl cK rfl rfl ?_; apply Exists.intro; constructor
   ·intro sv w' hw' hfa
    refine ⟨rfl, ?_⟩; simp only [putsL]; change qT _; simp only [qT, Act.put, sIA, sCS, sCZ]; simp [go_sem, quietTo, Ext.refl]; all_goals rfl
   refine fq 8 rfl rfl rfl cK rfl rfl ?_; apply Exists.intro; constructor
   ·intro sv w' hw' hfa
    refine ⟨rfl, ?_⟩; simp only [putsL]; change qT _; simp only [qT, Act.put, sIA, sCS, sCZ]; simp [go_sem, quietTo, Ext.refl]; all_goals rfl
   refine fq 9 rfl rfl rfl cK rfl rfl ?_; apply Exists.intro; constructor
   ·rintro sv w' hw' ⟨(f7 : sv 7 = _), (f8 : sv 8 = _), -⟩; (try dsimp only at f7 f8)
    refine ⟨rfl, ?_⟩; simp only [putsL]; change qT (pT (pT _ 52 (sv 8)) 51 (sv 7)); simp only [qT, pT, Act.put, sIA, sCS, sCZ]; simp [go_sem, quietTo, Ext.refl, ↓IntWalk.iteOmega, f7, f8, hil, hil2, hi]; (all_goals try simp (disch := omega) only [IntWalk.i64_in]); all_goals rfl
   refine fq 10 rfl rfl rfl cK rfl rfl ?_; apply Exists.intro; constructor
   ·rintro sv w' hw' ⟨_, _, _, _, _, _, (f6 : sv 6 = _), _, _, (f9 : sv 9 = _), -⟩; (try dsimp only at f6 f9)
    refine ⟨rfl, ?_⟩; simp only [putsL]; change qT (pT (pT (pT (pT (pT (pT (pT (pT (pT (pT _ 53 (sv 9)) 52 (sv 8)) 51 (sv 7)) 50 (sv 6)) 49 (sv 5)) 48 (sv 4)) 47 (sv 3)) 46 (sv 2)) 45 (sv 1)) 44 (sv 0)); simp only [qT, pT, Act.put, sIA, sCS, sCZ]; simp [go_sem, quietTo, Ext.refl, ↓IntWalk.iteOmega, f6, f9]; (all_goals try simp (disch := omega) only [IntWalk.i64_in]); all_goals rfl
   refine fq 11 rfl rfl rfl cK rfl rfl ?_; apply Exists.intro; constructor
   ·rintro sv w' hw' ⟨_, _, _, _, _, _, _, _, _, _, (f10 : sv 10 = _), -⟩; (try dsimp only at f10)
    refine ⟨rfl, ?_⟩; simp only [putsL]; change qT (pT (pT (pT (pT (pT (pT (pT (pT (pT (pT (pT _ 54 (sv 10)) 53 (sv 9)) 52 (sv 8)) 51 (sv 7)) 50 (sv 6)) 49 (sv 5)) 48 (sv 4)) 47 (sv 3)) 46 (sv 2)) 45 (sv 1)) 44 (sv 0)); simp only [qT, pT, Act.put, sIA, sCS, sCZ]; simp [go_sem, quietTo, Ext.refl, f10]; all_goals rfl
   refine fac_nil fun xq wrq herq hfrq hcrq holdq hapq => ?_
   obtain ⟨(f0 : xq 0 = _), (f1 : xq 1 = _), (f2 : xq 2 = _), (f3 : xq 3 = _), (f4 : xq 4 = _), (f5 : xq 5 = _), (f6 : xq 6 = _), (f7 : xq 7 = _), (f8 : xq 8 = _), (f9 : xq 9 = _), (f10 : xq 10 = _), (f11 : xq 11 = _), -⟩ := hfrq; (try dsimp only at f0 f1 f2 f3 f4 f5 f6 f7 f8 f9 f10 f11)
   change wpList _ _ _ _ (pT (pT (pT (pT (pT (pT (pT (pT (pT (pT (pT (pT _ 44 (xq 0)) 45 (xq 1)) 46 (xq 2)) 47 (xq 3)) 48 (xq 4)) 49 (xq 5)) 50 (xq 6)) 51 (xq 7)) 52 (xq 8)) 53 (xq 9)) 54 (xq 10)) 6 (xq 11)) _
   simp only [putsL, Nat.reduceAdd, List.drop_succ_cons, List.drop_zero, List.drop_nil, pT, Act.put, sIA, sCS, sCZ]
   try simp only [f0, f1, f2, f3, f4, f5, f6, f7, f8, f9, f10, f11]
   clear f0 f1 f2 f3 f4 f5 f6 f7 f8 f9 f10 f11; clear holdq hapq
   go_wp2
   go_ret
   exact ⟨_, rfl, by simp only [ByteArray.size_append, ByteArray.size_extract]; omega, (hS3.ext (Ext.drew (Ext.refl _))).ext herq |>.more (by omega), (hE4.ext (Ext.drew (Ext.refl _))).ext herq⟩
  ·go_upto_region 10 with fail
   refine wp_region_facts [] [([],false,false),([],false,false),([0,1],false,false),([],false,false),([],false,false),([4],false,false),([3,4,5],false,false),([0,1,2,3,4,5,6],false,false),([0,1,2,3,4,5,6,7],false,false)] (Ext) Ext (fun _ => True) (by kernel_rfl) (by kernel_rfl) Ext.refl (fun _ _ _ => Ext.trans) (fun _ _ h => h) (fun _ _ h => h.size) (fun _ _ h _ => h) trivial ?_
   dsimp only [List.length_cons, List.length_nil, List.drop_succ_cons, List.drop_zero, List.drop_nil]
   refine fq 0 rfl rfl rfl cK rfl rfl ?_; apply Exists.intro; constructor
   ·intro sv w' hw' hfa
    refine ⟨rfl, ?_⟩; simp only [putsL]; change qT _; simp only [qT, Act.put, sIA, sCS, sCZ]; simp [go_sem, quietTo, Ext.refl]; all_goals rfl
   refine fq 1 rfl rfl rfl cK rfl rfl ?_; apply Exists.intro; constructor
   ·intro sv w' hw' hfa
    refine ⟨rfl, ?_⟩; simp only [putsL]; change qT _; simp only [qT, Act.put, sIA, sCS, sCZ]; simp [go_sem, quietTo, Ext.refl]; all_goals rfl
   refine fq 2 rfl rfl rfl cK rfl rfl ?_; apply Exists.intro; constructor
   ·rintro sv w' hw' ⟨(f0 : sv 0 = _), (f1 : sv 1 = _), -⟩; (try dsimp only at f0 f1)
    refine ⟨rfl, ?_⟩; simp only [putsL]; change qT (pT (pT _ 56 (sv 1)) 55 (sv 0)); simp only [qT, pT, Act.put, sIA, sCS, sCZ]; simp [go_sem, quietTo, Ext.refl, ↓IntWalk.iteOmega, f0, f1, hil, hil2, hi]; (all_goals try simp (disch := omega) only [IntWalk.i64_in]); all_goals rfl
   refine fq 3 rfl rfl rfl cK rfl rfl ?_; apply Exists.intro; constructor
   ·intro sv w' hw' hfa
    refine ⟨rfl, ?_⟩; simp only [putsL]; change qT _; simp only [qT, Act.put, sIA, sCS, sCZ]; simp [go_sem, quietTo, Ext.refl]; all_goals rfl
   refine fq 4 rfl rfl rfl cK rfl rfl ?_; apply Exists.intro; constructor
   ·intro sv w' hw' hfa
    refine ⟨rfl, ?_⟩; simp only [putsL]; change qT _; simp only [qT, Act.put, sIA, sCS, sCZ]; simp [go_sem, quietTo, Ext.refl]; all_goals rfl
   refine fq 5 rfl rfl rfl cK rfl rfl ?_; apply Exists.intro; constructor
   ·rintro sv w' hw' ⟨(f4 : sv 4 = _), -⟩; (try dsimp only at f4)
    refine ⟨rfl, ?_⟩; simp only [putsL]; change qT (pT _ 59 (sv 4)); simp only [qT, pT, Act.put, sIA, sCS, sCZ]; simp [go_sem, quietTo, Ext.refl, ↓IntWalk.iteOmega, f4, hi1]; (all_goals try simp (disch := omega) only [IntWalk.i64_in]); all_goals rfl
   refine fq 6 rfl rfl rfl cK rfl rfl ?_; apply Exists.intro; constructor
   ·rintro sv w' hw' ⟨(f3 : sv 3 = _), _, (f5 : sv 5 = _), -⟩; (try dsimp only at f3 f5)
    refine ⟨rfl, ?_⟩; simp only [putsL]; change qT (pT (pT (pT _ 60 (sv 5)) 59 (sv 4)) 58 (sv 3)); simp only [qT, pT, Act.put, sIA, sCS, sCZ]; simp [go_sem, quietTo, Ext.refl, ↓IntWalk.iteOmega, f3, f5, hil, hil3, hi]; (all_goals try simp (disch := omega) only [IntWalk.i64_in]); all_goals rfl
   refine fq 7 rfl rfl rfl cK rfl rfl ?_; apply Exists.intro; constructor
   ·rintro sv w' hw' ⟨_, _, (f2 : sv 2 = _), _, _, _, (f6 : sv 6 = _), -⟩; (try dsimp only at f2 f6)
    refine ⟨rfl, ?_⟩; simp only [putsL]; change qT (pT (pT (pT (pT (pT (pT (pT _ 61 (sv 6)) 60 (sv 5)) 59 (sv 4)) 58 (sv 3)) 57 (sv 2)) 56 (sv 1)) 55 (sv 0)); simp only [qT, pT, Act.put, sIA, sCS, sCZ]; simp [go_sem, quietTo, Ext.refl, ↓IntWalk.iteOmega, f2, f6]; (all_goals try simp (disch := omega) only [IntWalk.i64_in]); all_goals rfl
   refine fq 8 rfl rfl rfl cK rfl rfl ?_; apply Exists.intro; constructor
   ·rintro sv w' hw' ⟨_, _, _, _, _, _, _, (f7 : sv 7 = _), -⟩; (try dsimp only at f7)
    refine ⟨rfl, ?_⟩; simp only [putsL]; change qT (pT (pT (pT (pT (pT (pT (pT (pT _ 62 (sv 7)) 61 (sv 6)) 60 (sv 5)) 59 (sv 4)) 58 (sv 3)) 57 (sv 2)) 56 (sv 1)) 55 (sv 0)); simp only [qT, pT, Act.put, sIA, sCS, sCZ]; simp [go_sem, quietTo, Ext.refl, f7]; all_goals rfl
   refine fac_nil fun xq wrq herq hfrq hcrq holdq hapq => ?_
   obtain ⟨(f0 : xq 0 = _), (f1 : xq 1 = _), (f2 : xq 2 = _), (f3 : xq 3 = _), (f4 : xq 4 = _), (f5 : xq 5 = _), (f6 : xq 6 = _), (f7 : xq 7 = _), (f8 : xq 8 = _), -⟩ := hfrq; (try dsimp only at f0 f1 f2 f3 f4 f5 f6 f7 f8)
   change wpList _ _ _ _ (pT (pT (pT (pT (pT (pT (pT (pT (pT _ 55 (xq 0)) 56 (xq 1)) 57 (xq 2)) 58 (xq 3)) 59 (xq 4)) 60 (xq 5)) 61 (xq 6)) 62 (xq 7)) 6 (xq 8)) _
   simp only [putsL, Nat.reduceAdd, List.drop_succ_cons, List.drop_zero, List.drop_nil, pT, Act.put, sIA, sCS, sCZ]
   try simp only [f0, f1, f2, f3, f4, f5, f6, f7, f8]
   clear f0 f1 f2 f3 f4 f5 f6 f7 f8; clear holdq hapq
   go_wp2
   go_ret
   exact ⟨_, rfl, by simp only [ByteArray.size_append, ByteArray.size_extract]; omega, (hS3.ext (Ext.drew (Ext.refl _))).ext herq |>.more (by omega), (hE4.ext (Ext.drew (Ext.refl _))).ext herq⟩
end Go.Proofs.YtehboinleolihaaGreatDoor
