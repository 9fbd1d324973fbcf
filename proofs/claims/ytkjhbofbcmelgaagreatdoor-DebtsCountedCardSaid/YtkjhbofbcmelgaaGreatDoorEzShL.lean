/- The document's library follows a slip: all kinds. Conditions: sizes. (Printed by gen_shl.py.) -/
import Derived.Test.YtkjhbofbcmelgaaGreatDoorEzJ34
import Derived.Test.YtkjhbofbcmelgaaGreatDoorEzShJ
import Derived.Test.YtkjhbofbcmelgaaGreatDoorEzJ16
set_option linter.unusedSimpArgs false
set_option linter.unusedVariables false
namespace Go.Proofs.YtkjhbofbcmelgaaGreatDoor
open Go Go.RowKit
theorem ShM.same {base : Nat} {w : World} {bb ms mr q nr : Nat} {tp : Option Addr} {tn tc : Nat} {r : LendR} {L L2 : LibS} {F : Int → Option Int} (h : ShM base w bb ms mr q nr tp tn tc r L F) (h1 : L.st = L2.st) (h2 : L.loans = L2.loans) : ShM base w bb ms mr q nr tp tn tc r L2 F := ⟨h2 ▸ h.row, h1 ▸ h.st, h.ref, h.ne⟩
theorem lend_lib {n : Nat} {base : Nat} {w : World} {bb ms mr q nr : Nat} {tp : Option Addr} {tn tc : Nat} {T : List TitleV} {r : LendR} {t : Int} {L : LibS} {F : Int → Option Int} {x : SlipV} (hI : LibI r.each t L) (hN : LibN n L) (hc : isCopyT T (x.piece, x.copy) = true) (hk : x.kind = 1)
 (h : ShM base w bb ms mr q nr tp tn tc r (if lendE r L x = 0 then ⟨setF L.st (x.piece, x.copy) outW, L.last, L.loans ++ [⟨x.piece, x.copy, x.singer, x.at_, -1, false⟩], L.has⟩ else L) F) : ShM base w bb ms mr q nr tp tn tc r (slipD T r L x).1 F := by
 obtain ⟨h1, h2⟩ := lend_same hI hN hc hk
 by_cases h0 : lendE r L x = 0
 ·rw [if_pos h0] at h
  obtain ⟨e1, e2, e3⟩ := h2 h0
  exact h.same (by rw [e1, e2]) (by rw [e1, e3])
 ·rw [if_neg h0] at h
  rw [slipD_same (by rw [h1]; exact h0)]
  exact h
set_option maxRecDepth 100000 in
set_option maxHeartbeats 6400000 in
theorem doF_any {base : Nat} {w : World} {bb ms mr q nr : Nat} {tp : Option Addr} {tn tc : Nat} {T : List TitleV} {r : LendR} {L : LibS} {F : Int → Option Int} (h : ShM base w bb ms mr q nr tp tn tc r L F) (hT : Slc 3 titleC w tp tn tc T) (htn : tn ≤ 1000) (by_ : ByteArray) (no at_ kind : Int) (piece : ByteArray) (copy : Int) (singer : ByteArray) (hc : isCopyT T (piece, copy) = false) :
 Calls Tryz.prog 137 #[.pointer (some ⟨bb, 0, none⟩), .agg #[.string by_, .int .i64 no, .int .i64 at_, .int .i64 kind, .string piece, .int .i64 copy, .string singer]] w fun e w' => e = .returned (.int .i64 8) ∧ Ext w w' := by
 have hE1 : Ext w ((w.alloc (.cells #[.string by_, .int .i64 no, .int .i64 at_, .int .i64 kind, .string piece, .int .i64 copy, .string singer] 101)).alloc (.cells #[.string piece, .int .i64 copy] 146)) := ((Ext.refl w).alloc _).alloc _
 have hx1 : Blk ((w.alloc (.cells #[.string by_, .int .i64 no, .int .i64 at_, .int .i64 kind, .string piece, .int .i64 copy, .string singer] 101)).alloc (.cells #[.string piece, .int .i64 copy] 146)) w.heap.size 101 #[.string by_, .int .i64 no, .int .i64 at_, .int .i64 kind, .string piece, .int .i64 copy, .string singer] := (Blk.new' rfl).alloc _
 have hk1 : Blk ((w.alloc (.cells #[.string by_, .int .i64 no, .int .i64 at_, .int .i64 kind, .string piece, .int .i64 copy, .string singer] 101)).alloc (.cells #[.string piece, .int .i64 copy] 146)) (w.heap.size + 1) 146 #[.string piece, .int .i64 copy] := Blk.new' (by simp)
 have hcf : ∀ u, Ext ((w.alloc (.cells #[.string by_, .int .i64 no, .int .i64 at_, .int .i64 kind, .string piece, .int .i64 copy, .string singer] 101)).alloc (.cells #[.string piece, .int .i64 copy] 146)) u → Calls Tryz.prog 18 #[.slice tp tn tc, .string piece, .int .i64 copy] u fun e w' => e = .returned (.int .i64 8) ∧ Ext u w' := fun u hu => by
  have h9 := copyFault1_any tp tn tc T piece copy u (hT.ext (hE1.trans hu)) htn
  rw [show copyF T (piece, copy) = 8 by unfold copyF; rw [if_neg (by rw [hc]; decide)]] at h9
  exact h9
 replace hcf := Lib.hid hcf; replace h := Lib.hid h; clear hT hc
 go_enter Tryz.func137, Tryz.ntmps137
 go_upto_region 2 with fail
 generalize ((w.alloc (.cells #[.string by_, .int .i64 no, .int .i64 at_, .int .i64 kind, .string piece, .int .i64 copy, .string singer] 101)).alloc (.cells #[.string piece, .int .i64 copy] 146)) = W1 at *
 generalize hgx : w.heap.size = gx at *
 generalize hgk : gx + 1 = gk at *
 have d0 : W1.cell? ⟨bb, 0, none⟩ = some (.slice tp tn tc) := by
  obtain ⟨⟨lv, hB, -⟩, -⟩ := h.out.ext hE1
  exact hB.cell 0
 have lb : bb < W1.heap.size := by
  obtain ⟨⟨lv, hB, -⟩, -⟩ := h.out.ext hE1
  exact hB.lt
 have lx := hx1.lt
 have lk := hk1.lt
 have e4 := hx1.cell 4
 have e5 := hx1.cell 5
 replace hgx := Lib.hid hgx; replace hgk := Lib.hid hgk
 refine wp_region_facts [] [([],false,false),([0],false,false),([0,1],false,false),([0,1,2],false,false),([],false,false),([4],false,false),([],false,false),([6],false,false),([0,1,2,3,4,5,6,7],false,false)] (Ext) Ext (fun _ => True) (by kernel_rfl) (by kernel_rfl) Ext.refl (fun _ _ _ => Ext.trans) (fun _ _ h => h) (fun _ _ h => h.size) (fun _ _ h _ => h) trivial ?_
 dsimp only [List.length_cons, List.length_nil, List.drop_succ_cons, List.drop_zero, List.drop_nil]
 refine fq 0 rfl rfl rfl cK rfl rfl ?_; apply Exists.intro; constructor
 ·intro sv w' hw' hfa
  refine ⟨rfl, ?_⟩; simp only [putsL]; change qT _; simp only [qT, Act.put, sIA, sCS, sCZ]; simp [go_sem, quietTo, Ext.refl]; all_goals rfl
 refine fq 1 rfl rfl rfl cK rfl rfl ?_; apply Exists.intro; constructor
 ·rintro sv w' hw' ⟨(f0 : sv 0 = _), -⟩; (try dsimp only at f0)
  refine ⟨rfl, ?_⟩; simp only [putsL]; change qT (pT _ 13 (sv 0)); simp only [qT, pT, Act.put, sIA, sCS, sCZ]; simp [go_sem, quietTo, Ext.refl, f0]; all_goals rfl
 refine fq 2 rfl rfl rfl cK rfl rfl ?_; apply Exists.intro; constructor
 ·rintro sv w' hw' ⟨_, (f1 : sv 1 = _), -⟩; (try dsimp only at f1)
  refine ⟨rfl, ?_⟩; simp only [putsL]; change qT (pT (pT _ 14 (sv 1)) 13 (sv 0)); simp only [qT, pT, Act.put, sIA, sCS, sCZ]; simp [go_sem, quietTo, Ext.refl, f1]; all_goals rfl
 refine fq 3 rfl rfl rfl cK rfl rfl ?_; apply Exists.intro; constructor
 ·rintro sv w' hw' ⟨_, _, (f2 : sv 2 = _), -⟩; (try dsimp only at f2)
  have hk9 := (Ext.refl W1).drew.trans hw'; obtain ⟨hc, hf, hz9⟩ := hk9.walk; have y0 := (hc bb 0 lb).trans d0
  refine ⟨rfl, ?_⟩; simp only [putsL]; change qT (pT (pT (pT _ 15 (sv 2)) 14 (sv 1)) 13 (sv 0)); simp only [qT, pT, Act.put, sIA, sCS, sCZ]; simp [go_sem, quietTo, Ext.refl, ↓IntWalk.iteOmega, f2, y0]; (all_goals try simp (disch := omega) only [IntWalk.i64_in]); all_goals rfl
 refine fq 4 rfl rfl rfl cK rfl rfl ?_; apply Exists.intro; constructor
 ·intro sv w' hw' hfa
  refine ⟨rfl, ?_⟩; simp only [putsL]; change qT _; simp only [qT, Act.put, sIA, sCS, sCZ]; simp [go_sem, quietTo, Ext.refl]; all_goals rfl
 refine fq 5 rfl rfl rfl cK rfl rfl ?_; apply Exists.intro; constructor
 ·rintro sv w' hw' ⟨(f4 : sv 4 = _), -⟩; (try dsimp only at f4)
  have hk9 := (Ext.refl W1).drew.trans hw'; obtain ⟨hc, hf, hz9⟩ := hk9.walk; have x4 := (hc gx 4 lx).trans e4
  refine ⟨rfl, ?_⟩; simp only [putsL]; change qT (pT _ 17 (sv 4)); simp only [qT, pT, Act.put, sIA, sCS, sCZ]; simp [go_sem, quietTo, Ext.refl, ↓IntWalk.iteOmega, f4, x4]; (all_goals try simp (disch := omega) only [IntWalk.i64_in]); all_goals rfl
 refine fq 6 rfl rfl rfl cK rfl rfl ?_; apply Exists.intro; constructor
 ·intro sv w' hw' hfa
  refine ⟨rfl, ?_⟩; simp only [putsL]; change qT _; simp only [qT, Act.put, sIA, sCS, sCZ]; simp [go_sem, quietTo, Ext.refl]; all_goals rfl
 refine fq 7 rfl rfl rfl cK rfl rfl ?_; apply Exists.intro; constructor
 ·rintro sv w' hw' ⟨(f6 : sv 6 = _), -⟩; (try dsimp only at f6)
  have hk9 := (Ext.refl W1).drew.trans hw'; obtain ⟨hc, hf, hz9⟩ := hk9.walk; have x5 := (hc gx 5 lx).trans e5
  refine ⟨rfl, ?_⟩; simp only [putsL]; change qT (pT _ 19 (sv 6)); simp only [qT, pT, Act.put, sIA, sCS, sCZ]; simp [go_sem, quietTo, Ext.refl, ↓IntWalk.iteOmega, f6, x5]; (all_goals try simp (disch := omega) only [IntWalk.i64_in]); all_goals rfl
 refine fq 8 rfl rfl rfl cK rfl rfl ?_; apply Exists.intro; constructor
 ·rintro sv w' hw' ⟨(f0 : sv 0 = _), (f1 : sv 1 = _), (f2 : sv 2 = _), (f3 : sv 3 = _), (f4 : sv 4 = _), (f5 : sv 5 = _), (f6 : sv 6 = _), (f7 : sv 7 = _), -⟩; (try dsimp only at f0 f1 f2 f3 f4 f5 f6 f7)
  have hk9 := (Ext.refl W1).drew.trans hw'
  refine ⟨rfl, ?_⟩; simp only [putsL]; change qT (pT (pT (pT (pT (pT (pT (pT (pT _ 20 (sv 7)) 19 (sv 6)) 18 (sv 5)) 17 (sv 4)) 16 (sv 3)) 15 (sv 2)) 14 (sv 1)) 13 (sv 0)); simp only [qT, pT, Act.put, sIA, sCS, sCZ]; simp [go_sem, quietTo, Ext.refl, ↓IntWalk.iteOmega, f3, f5, f7]; (all_goals try simp (disch := omega) only [IntWalk.i64_in]); all_goals first | rfl | (exact hcf.out _ hk9)
 refine fac_nil fun xa wra hera hfra hcra holda hapa => ?_
 obtain ⟨(f0 : xa 0 = _), (f1 : xa 1 = _), (f2 : xa 2 = _), (f3 : xa 3 = _), (f4 : xa 4 = _), (f5 : xa 5 = _), (f6 : xa 6 = _), (f7 : xa 7 = _), (f8 : xa 8 = _), -⟩ := hfra; (try dsimp only at f0 f1 f2 f3 f4 f5 f6 f7 f8)
 change wpList _ _ _ _ (pT (pT (pT (pT (pT (pT (pT (pT (pT _ 13 (xa 0)) 14 (xa 1)) 15 (xa 2)) 16 (xa 3)) 17 (xa 4)) 18 (xa 5)) 19 (xa 6)) 20 (xa 7)) 21 (xa 8)) _
 simp only [putsL, Nat.reduceAdd, List.drop_succ_cons, List.drop_zero, List.drop_nil, pT, Act.put, sIA, sCS, sCZ]
 try simp only [f0, f1, f2, f3, f4, f5, f6, f7, f8]
 clear f0 f1 f2 f3 f4 f5 f6 f7 f8; clear holda hapa
 have hka := (Ext.refl W1).drew.trans hera
 have hEa := hE1.trans hka
 go_wp2
 go_ret
 exact ⟨rfl, hEa⟩
set_option maxRecDepth 100000 in
set_option maxHeartbeats 6400000 in
theorem do1_any {base : Nat} {w : World} {bb ms mr q nr n : Nat} {tp : Option Addr} {tn tc : Nat} {T : List TitleV} {r : LendR} {t : Int} {L : LibS} {F : Int → Option Int} (h : ShM base w bb ms mr q nr tp tn tc r L F) (hT : Slc 3 titleC w tp tn tc T) (htn : tn ≤ 1000) (hI : LibI r.each t L) (hN : LibN n L) (hln : L.loans.length ≤ 1000) (by_ : ByteArray) (no at_ : Int) (piece : ByteArray) (copy : Int) (singer : ByteArray) (hx : OkX ⟨by_, no, at_, 1, piece, copy, singer⟩) (hc : isCopyT T (piece, copy) = true) (hq : q ≤ 1000000) (hbase : base ≤ w.heap.size) :
 Calls Tryz.prog 137 #[.pointer (some ⟨bb, 0, none⟩), .agg #[.string by_, .int .i64 no, .int .i64 at_, .int .i64 1, .string piece, .int .i64 copy, .string singer]] w fun e w' => e = .returned (.int .i64 (slipD T r L ⟨by_, no, at_, 1, piece, copy, singer⟩).2) ∧ ShM base w' bb ms mr (q + 1) nr tp tn tc r (slipD T r L ⟨by_, no, at_, 1, piece, copy, singer⟩).1 F ∧ KeepL base bb ms mr mr w w' := by
 have hle : ∀ u, Ext w u → Calls Tryz.prog 175 #[.pointer (some ⟨bb, 0, none⟩), .agg #[.string piece, .int .i64 copy], .agg #[.string by_, .int .i64 no, .int .i64 at_, .int .i64 1, .string piece, .int .i64 copy, .string singer]] u fun e w' => e = .returned (.int .i64 (slipD T r L ⟨by_, no, at_, 1, piece, copy, singer⟩).2) ∧ ShM base w' bb ms mr (q + 1) nr tp tn tc r (slipD T r L ⟨by_, no, at_, 1, piece, copy, singer⟩).1 F ∧ KeepL base bb ms mr mr w w' := fun u hu =>
  (lendDoc_any (h.ext hu) ⟨by_, no, at_, 1, piece, copy, singer⟩ hx hq hln (Nat.le_trans hbase hu.size)).mono fun e w' h9 => ⟨by rw [(lend_same (T := T) (x := ⟨by_, no, at_, 1, piece, copy, singer⟩) hI hN hc rfl).1]; exact h9.1, lend_lib (T := T) (x := ⟨by_, no, at_, 1, piece, copy, singer⟩) hI hN hc rfl h9.2.1, ((KeepL.refl w).ext hu).trans h9.2.2⟩
 generalize slipD T r L ⟨by_, no, at_, 1, piece, copy, singer⟩ = D at *
 have hE1 : Ext w ((w.alloc (.cells #[.string by_, .int .i64 no, .int .i64 at_, .int .i64 1, .string piece, .int .i64 copy, .string singer] 101)).alloc (.cells #[.string piece, .int .i64 copy] 146)) := ((Ext.refl w).alloc _).alloc _
 have hx1 : Blk ((w.alloc (.cells #[.string by_, .int .i64 no, .int .i64 at_, .int .i64 1, .string piece, .int .i64 copy, .string singer] 101)).alloc (.cells #[.string piece, .int .i64 copy] 146)) w.heap.size 101 #[.string by_, .int .i64 no, .int .i64 at_, .int .i64 1, .string piece, .int .i64 copy, .string singer] := (Blk.new' rfl).alloc _
 have hk1 : Blk ((w.alloc (.cells #[.string by_, .int .i64 no, .int .i64 at_, .int .i64 1, .string piece, .int .i64 copy, .string singer] 101)).alloc (.cells #[.string piece, .int .i64 copy] 146)) (w.heap.size + 1) 146 #[.string piece, .int .i64 copy] := Blk.new' (by simp)
 have hcf : ∀ u, Ext ((w.alloc (.cells #[.string by_, .int .i64 no, .int .i64 at_, .int .i64 1, .string piece, .int .i64 copy, .string singer] 101)).alloc (.cells #[.string piece, .int .i64 copy] 146)) u → Calls Tryz.prog 18 #[.slice tp tn tc, .string piece, .int .i64 copy] u fun e w' => e = .returned (.int .i64 0) ∧ Ext u w' := fun u hu => by
  have h9 := copyFault1_any tp tn tc T piece copy u (hT.ext (hE1.trans hu)) htn
  rw [show copyF T (piece, copy) = 0 by unfold copyF; rw [if_pos hc]] at h9
  exact h9
 replace hcf := Lib.hid hcf; replace hle := Lib.hid hle; replace h := Lib.hid h; clear hT hc hI hN
 go_enter Tryz.func137, Tryz.ntmps137
 go_upto_region 2 with fail
 generalize ((w.alloc (.cells #[.string by_, .int .i64 no, .int .i64 at_, .int .i64 1, .string piece, .int .i64 copy, .string singer] 101)).alloc (.cells #[.string piece, .int .i64 copy] 146)) = W1 at *
 generalize hgx : w.heap.size = gx at *
 generalize hgk : gx + 1 = gk at *
 have d0 : W1.cell? ⟨bb, 0, none⟩ = some (.slice tp tn tc) := by
  obtain ⟨⟨lv, hB, -⟩, -⟩ := h.out.ext hE1
  exact hB.cell 0
 have lb : bb < W1.heap.size := by
  obtain ⟨⟨lv, hB, -⟩, -⟩ := h.out.ext hE1
  exact hB.lt
 have lx := hx1.lt
 have lk := hk1.lt
 have e4 := hx1.cell 4
 have e5 := hx1.cell 5
 replace hgx := Lib.hid hgx; replace hgk := Lib.hid hgk
 refine wp_region_facts [] [([],false,false),([0],false,false),([0,1],false,false),([0,1,2],false,false),([],false,false),([4],false,false),([],false,false),([6],false,false),([0,1,2,3,4,5,6,7],false,false)] (Ext) Ext (fun _ => True) (by kernel_rfl) (by kernel_rfl) Ext.refl (fun _ _ _ => Ext.trans) (fun _ _ h => h) (fun _ _ h => h.size) (fun _ _ h _ => h) trivial ?_
 dsimp only [List.length_cons, List.length_nil, List.drop_succ_cons, List.drop_zero, List.drop_nil]
 refine fq 0 rfl rfl rfl cK rfl rfl ?_; apply Exists.intro; constructor
 ·intro sv w' hw' hfa
  refine ⟨rfl, ?_⟩; simp only [putsL]; change qT _; simp only [qT, Act.put, sIA, sCS, sCZ]; simp [go_sem, quietTo, Ext.refl]; all_goals rfl
 refine fq 1 rfl rfl rfl cK rfl rfl ?_; apply Exists.intro; constructor
 ·rintro sv w' hw' ⟨(f0 : sv 0 = _), -⟩; (try dsimp only at f0)
  refine ⟨rfl, ?_⟩; simp only [putsL]; change qT (pT _ 13 (sv 0)); simp only [qT, pT, Act.put, sIA, sCS, sCZ]; simp [go_sem, quietTo, Ext.refl, f0]; all_goals rfl
 refine fq 2 rfl rfl rfl cK rfl rfl ?_; apply Exists.intro; constructor
 ·rintro sv w' hw' ⟨_, (f1 : sv 1 = _), -⟩; (try dsimp only at f1)
  refine ⟨rfl, ?_⟩; simp only [putsL]; change qT (pT (pT _ 14 (sv 1)) 13 (sv 0)); simp only [qT, pT, Act.put, sIA, sCS, sCZ]; simp [go_sem, quietTo, Ext.refl, f1]; all_goals rfl
 refine fq 3 rfl rfl rfl cK rfl rfl ?_; apply Exists.intro; constructor
 ·rintro sv w' hw' ⟨_, _, (f2 : sv 2 = _), -⟩; (try dsimp only at f2)
  have hk9 := (Ext.refl W1).drew.trans hw'; obtain ⟨hc, hf, hz9⟩ := hk9.walk; have y0 := (hc bb 0 lb).trans d0
  refine ⟨rfl, ?_⟩; simp only [putsL]; change qT (pT (pT (pT _ 15 (sv 2)) 14 (sv 1)) 13 (sv 0)); simp only [qT, pT, Act.put, sIA, sCS, sCZ]; simp [go_sem, quietTo, Ext.refl, ↓IntWalk.iteOmega, f2, y0]; (all_goals try simp (disch := omega) only [IntWalk.i64_in]); all_goals rfl
 refine fq 4 rfl rfl rfl cK rfl rfl ?_; apply Exists.intro; constructor
 ·intro sv w' hw' hfa
  refine ⟨rfl, ?_⟩; simp only [putsL]; change qT _; simp only [qT, Act.put, sIA, sCS, sCZ]; simp [go_sem, quietTo, Ext.refl]; all_goals rfl
 refine fq 5 rfl rfl rfl cK rfl rfl ?_; apply Exists.intro; constructor
 ·rintro sv w' hw' ⟨(f4 : sv 4 = _), -⟩; (try dsimp only at f4)
  have hk9 := (Ext.refl W1).drew.trans hw'; obtain ⟨hc, hf, hz9⟩ := hk9.walk; have x4 := (hc gx 4 lx).trans e4
  refine ⟨rfl, ?_⟩; simp only [putsL]; change qT (pT _ 17 (sv 4)); simp only [qT, pT, Act.put, sIA, sCS, sCZ]; simp [go_sem, quietTo, Ext.refl, ↓IntWalk.iteOmega, f4, x4]; (all_goals try simp (disch := omega) only [IntWalk.i64_in]); all_goals rfl
 refine fq 6 rfl rfl rfl cK rfl rfl ?_; apply Exists.intro; constructor
 ·intro sv w' hw' hfa
  refine ⟨rfl, ?_⟩; simp only [putsL]; change qT _; simp only [qT, Act.put, sIA, sCS, sCZ]; simp [go_sem, quietTo, Ext.refl]; all_goals rfl
 refine fq 7 rfl rfl rfl cK rfl rfl ?_; apply Exists.intro; constructor
 ·rintro sv w' hw' ⟨(f6 : sv 6 = _), -⟩; (try dsimp only at f6)
  have hk9 := (Ext.refl W1).drew.trans hw'; obtain ⟨hc, hf, hz9⟩ := hk9.walk; have x5 := (hc gx 5 lx).trans e5
  refine ⟨rfl, ?_⟩; simp only [putsL]; change qT (pT _ 19 (sv 6)); simp only [qT, pT, Act.put, sIA, sCS, sCZ]; simp [go_sem, quietTo, Ext.refl, ↓IntWalk.iteOmega, f6, x5]; (all_goals try simp (disch := omega) only [IntWalk.i64_in]); all_goals rfl
 refine fq 8 rfl rfl rfl cK rfl rfl ?_; apply Exists.intro; constructor
 ·rintro sv w' hw' ⟨(f0 : sv 0 = _), (f1 : sv 1 = _), (f2 : sv 2 = _), (f3 : sv 3 = _), (f4 : sv 4 = _), (f5 : sv 5 = _), (f6 : sv 6 = _), (f7 : sv 7 = _), -⟩; (try dsimp only at f0 f1 f2 f3 f4 f5 f6 f7)
  have hk9 := (Ext.refl W1).drew.trans hw'
  refine ⟨rfl, ?_⟩; simp only [putsL]; change qT (pT (pT (pT (pT (pT (pT (pT (pT _ 20 (sv 7)) 19 (sv 6)) 18 (sv 5)) 17 (sv 4)) 16 (sv 3)) 15 (sv 2)) 14 (sv 1)) 13 (sv 0)); simp only [qT, pT, Act.put, sIA, sCS, sCZ]; simp [go_sem, quietTo, Ext.refl, ↓IntWalk.iteOmega, f3, f5, f7]; (all_goals try simp (disch := omega) only [IntWalk.i64_in]); all_goals first | rfl | (exact hcf.out _ hk9)
 refine fac_nil fun xa wra hera hfra hcra holda hapa => ?_
 obtain ⟨(f0 : xa 0 = _), (f1 : xa 1 = _), (f2 : xa 2 = _), (f3 : xa 3 = _), (f4 : xa 4 = _), (f5 : xa 5 = _), (f6 : xa 6 = _), (f7 : xa 7 = _), (f8 : xa 8 = _), -⟩ := hfra; (try dsimp only at f0 f1 f2 f3 f4 f5 f6 f7 f8)
 change wpList _ _ _ _ (pT (pT (pT (pT (pT (pT (pT (pT (pT _ 13 (xa 0)) 14 (xa 1)) 15 (xa 2)) 16 (xa 3)) 17 (xa 4)) 18 (xa 5)) 19 (xa 6)) 20 (xa 7)) 21 (xa 8)) _
 simp only [putsL, Nat.reduceAdd, List.drop_succ_cons, List.drop_zero, List.drop_nil, pT, Act.put, sIA, sCS, sCZ]
 try simp only [f0, f1, f2, f3, f4, f5, f6, f7, f8]
 clear f0 f1 f2 f3 f4 f5 f6 f7 f8; clear holda hapa
 have hka := (Ext.refl W1).drew.trans hera
 have hEa := hE1.trans hka
 have hxa := hx1.ext hka
 have hka1 := hk1.ext hka
 have x0 := hxa.cell 0
 have x1 := hxa.cell 1
 have x2 := hxa.cell 2
 have x3 := hxa.cell 3
 have x4 := hxa.cell 4
 have x5 := hxa.cell 5
 have x6 := hxa.cell 6
 have lxa := hxa.lt
 have k0 := hka1.cell 0
 have k1 := hka1.cell 1
 have lka := hka1.lt
 clear hera hcra hcf hx1 hk1 d0 lb lx lk e4 e5 hka hxa hka1
 go_wp2_with (go_at_call 175; (with_reducible refine Calls.mono (hle.out _ hEa) ?_); rintro e w6 ⟨rfl, hM6, hA6⟩)
 go_ret
 exact ⟨rfl, hM6, hA6⟩
/-- The document's library follows a slip as the package's does. -/
theorem do_any {base : Nat} {w : World} {bb ms mr q nr n : Nat} {tp : Option Addr} {tn tc : Nat} {T : List TitleV} {r : LendR} {t : Int} {L : LibS} {F : Int → Option Int} (h : ShM base w bb ms mr q nr tp tn tc r L F) (hT : Slc 3 titleC w tp tn tc T) (htn : tn ≤ 1000) (hI : LibI r.each t L) (hLL : LibL L) (hN : LibN n L) (hln : L.loans.length ≤ 1000) (x : SlipV) (hx : OkX x) (hkd : 1 ≤ x.kind ∧ x.kind ≤ 5) (hq : q ≤ 1000000) (hbase : base ≤ w.heap.size) :
 Calls Tryz.prog 137 #[.pointer (some ⟨bb, 0, none⟩), .agg #[.string x.by_, .int .i64 x.no, .int .i64 x.at_, .int .i64 x.kind, .string x.piece, .int .i64 x.copy, .string x.singer]] w fun e w' => e = .returned (.int .i64 (slipD T r L x).2) ∧ ShM base w' bb ms mr (q + 1) nr tp tn tc r (slipD T r L x).1 F ∧ KeepL base bb ms mr mr w w' := by
 obtain ⟨by_, no, at_, kind, piece, copy, singer⟩ := x
 dsimp only at *
 cases hc : isCopyT T (piece, copy) with
 | false =>
   have hD : slipD T r L ⟨by_, no, at_, kind, piece, copy, singer⟩ = (L, 8) := by unfold slipD; rw [if_pos hc]
   rw [hD]
   exact (doF_any h hT htn by_ no at_ kind piece copy singer hc).mono fun e w' h9 => ⟨h9.1, (h.ext h9.2).more (by omega), (KeepL.refl w).ext h9.2⟩
 | true =>
   obtain rfl | rfl | rfl | rfl | rfl : kind = 1 ∨ kind = 2 ∨ kind = 3 ∨ kind = 4 ∨ kind = 5 := by omega
   ·exact do1_any h hT htn hI hN hln by_ no at_ piece copy singer hx hc hq hbase
   ·exact do2_any h hT htn hI hLL hN hln by_ no at_ piece copy singer hx.k hc hq hbase
   ·exact do3_any h hT htn hI hLL hN hln by_ no at_ piece copy singer hx.k hc hq hbase
   ·exact do4_any h hT htn hI hLL hN hln by_ no at_ piece copy singer hx.k hc hq hbase
   ·exact do5_any h hT htn hI hLL hN hln by_ no at_ piece copy singer hx.k hc hq hbase
end Go.Proofs.YtkjhbofbcmelgaaGreatDoor
