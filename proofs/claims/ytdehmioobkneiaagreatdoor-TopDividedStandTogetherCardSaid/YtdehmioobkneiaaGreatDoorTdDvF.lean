/- The greatest sum from a singer on, by the program. Conditions: the choir and the divider lie in memory. -/
import Derived.Test.YtdehmioobkneiaaGreatDoorTdJ26
set_option linter.unusedSimpArgs false
set_option linter.unusedVariables false
namespace Go.Proofs.YtdehmioobkneiaaGreatDoor
open Go Go.RowKit Go.Maps
set_option maxRecDepth 100000 in
set_option maxHeartbeats 6400000 in
theorem with_any {w0 : World} {cb : Nat} {P : List PartV} {pp : Option Addr} {pc : Nat} {C : List (List Int)} {sp : Option Addr} {sc : Nat} {cp : Option Addr} {cc : Nat} (hC : ChoirM w0 cb P pp pc C sp sc cp cc) (hP4 : P.length ≤ 4) (hCl : C.length ≤ 24) (hCb : ∀ r ∈ C, ∀ x ∈ r, -2000 ≤ x ∧ x ≤ 2000)
    (db : Nat) (bp : Option Addr) (bc : Nat) (gs : List Nat) (k i : Nat) (hi : i + (k + 1) = C.length)
    (ih : ∀ (N : List Nat) (n : Nat) (w : World), NOk (i + 1) N → n + tF k ≤ 100000000000000000 → DivM w0 w cb db bp bc gs P C n → Calls Tryz.prog 29 #[.pointer (some ⟨db, 0, none⟩), .int .i64 ((i : Int) + 1), manV N] w (FromRes w0 w cb db bp bc gs P C (n + tF k) (fromF P (C.drop (i + 1)) N)))
    (N : List Nat) (n p : Nat) (w : World) (hN : NOk i N) (hp : p < P.length) (hn : n + tF k ≤ 100000000000000000) (hD : DivM w0 w cb db bp bc gs P C n) :
    Calls Tryz.prog 30 #[.pointer (some ⟨db, 0, none⟩), .int .i64 i, manV N, .int .i64 p] w (FromRes w0 w cb db bp bc gs P C (n + tF k) (withV P (fromF P (C.drop (i + 1))) (C.getD i []) N p)) := by
  obtain ⟨a, b, c, d, rfl⟩ := man4 hN.1
  obtain ⟨row, hrow⟩ := getD_some (rfl : C.length = C.length) (show i < C.length by omega)
  have hrl := hC.row row (List.mem_of_getElem? hrow)
  obtain ⟨x, hx⟩ := getD_some (rfl : P.length = P.length) hp
  obtain ⟨v, hv⟩ := getD_some hrl hp
  have hvb := hCb row (List.mem_of_getElem? hrow) v (List.mem_of_getElem? hv)
  have hcr : C.getD i [] = row := by rw [List.getD_eq_getElem?_getD, hrow]; rfl
  have hrv : row.getD p (-1) = v := by rw [List.getD_eq_getElem?_getD, hv]; rfl
  obtain ⟨a', b', c', d', y, hinc, hy, hcell, hset⟩ := cells4 (a := a) (b := b) (c := c) (d := d) (show p < 4 by omega)
  have hmo : mostP P p = x.most := by unfold mostP; rw [List.getD_eq_getElem?_getD, hx]; rfl
  have hbar : barB P row [a, b, c, d] p = (decide (v < 0) || decide ((y : Int) = x.most)) := by unfold barB; rw [hrv, hy, hmo]
  have hyi : y ≤ i := by
    have := hN.2 y (by
      rw [← hy, List.getD_eq_getElem?_getD]
      cases e : [a, b, c, d][p]? with
      | none =>
        have := List.getElem?_eq_none_iff.1 e
        simp at this; omega
      | some z => exact List.mem_of_getElem? e)
    exact this
  have hwv : withV P (fromF P (C.drop (i + 1))) (C.getD i []) [a, b, c, d] p = if barB P row [a, b, c, d] p then -1 else if fromF P (C.drop (i + 1)) [a', b', c', d'] = -1 then -1 else fromF P (C.drop (i + 1)) [a', b', c', d'] + v := by
    unfold withV; rw [hcr, hrv, hinc]
  have hN' : NOk (i + 1) [a', b', c', d'] := by rw [← hinc]; exact hN.inc
  have hCw := hC.ext hD.ext
  obtain ⟨rb, roff, rq, rd, hcpe, hrb, hcrow, hrS⟩ := hCw.com.at_ hrow
  cases hcpe
  obtain ⟨-, ⟨_, rfl⟩ | ⟨qb, qoff, rfl, hqb, hqE⟩⟩ := slcC hrS
  · cases hv
  obtain ⟨-, ⟨_, rfl⟩ | ⟨pb, poff, rfl, hpb, hpE⟩⟩ := slcC hCw.par
  · cases hx
  have e1 := hqE p v hv 0 _ rfl
  simp only [Nat.mul_one, Nat.add_zero] at e1
  obtain ⟨c0, c1, c2, c3, c4⟩ := hpE.part hx
  obtain ⟨z1, -⟩ := hD.blk.walk
  obtain ⟨z2, -⟩ := hCw.blk.walk
  have hdl := hD.blk.lt
  have hcl := hCw.blk.lt
  have hE1 : Ext w (w.alloc (.cells #[.int .i64 a, .int .i64 b, .int .i64 c, .int .i64 d] 81)) := (Ext.refl _).alloc _
  have hB1 : Blk (w.alloc (.cells #[.int .i64 a, .int .i64 b, .int .i64 c, .int .i64 d] 81)) w.heap.size 81 #[.int .i64 a, .int .i64 b, .int .i64 c, .int .i64 d] := Blk.new' rfl
  have hD1 := hD.more hE1
  have hiI : (i : Int) < C.length := by omega
  have hpI : (p : Int) < P.length := by omega
  have hpR : (p : Int) < row.length := by rw [hrl]; exact hpI
  have hp4 : (p : Int) < 4 := by omega
  replace hrl := Lib.hid hrl; replace hrow := Lib.hid hrow; replace hx := Lib.hid hx; replace hv := Lib.hid hv; replace hcr := Lib.hid hcr; replace hrv := Lib.hid hrv; replace hinc := Lib.hid hinc; replace hy := Lib.hid hy; replace hmo := Lib.hid hmo; replace hbar := Lib.hid hbar; replace hwv := Lib.hid hwv; replace ih := Lib.hid ih; replace hC := Lib.hid hC; replace hD1 := Lib.hid hD1
  have hD0 := Lib.hid hD
  replace hset := Lib.hid hset; replace hi := Lib.hid hi; replace hN' := Lib.hid hN'; replace hCb := Lib.hid hCb; clear hD hCw hqE hpE hrS
  show Calls Tryz.prog 30 #[.pointer (some ⟨db, 0, none⟩), .int .i64 i, .agg #[.int .i64 a, .int .i64 b, .int .i64 c, .int .i64 d], .int .i64 p] w _
  go_enter Tryz.func30, Tryz.ntmps30
  go_upto_region 2 with fail
  have hpb1 := Nat.lt_of_lt_of_le hpb hE1.size
  replace c4 := (hE1.walk.1 _ _ hpb).trans c4
  have hCw1 := hC.out.ext hD1.out.ext
  have hBl := hB1.lt
  clear z1 z2 hdl hcl e1 c0 c1 c2 c3 hrb hqb hpb
  generalize hgB : w.heap.size = gB at *
  replace hgB := Lib.hid hgB; replace hE1 := Lib.hid hE1
  generalize w.alloc (.cells #[.int .i64 a, .int .i64 b, .int .i64 c, .int .i64 d] 81) = W1 at *
  by_cases hv0 : v < 0
  · have hb1 : barB P row [a, b, c, d] p = true := by rw [hbar.out, decide_eq_true hv0]; rfl
    have hres := hwv.out
    rw [hb1, if_pos rfl] at hres
    replace hres := Lib.hid hres; replace hb1 := Lib.hid hb1
    refine wp_region_facts [] [([], false, false), ([0], false, false), ([0, 1], false, false), ([0, 1, 2], false, false), ([0, 1, 2, 3], false, false), ([0, 1, 2, 3, 4], false, false), ([0, 1, 2], false, false), ([0, 1, 2, 6], false, false), ([0, 1, 2, 6, 7], false, false), ([0, 1, 2, 6, 7, 8], false, false), ([0, 1, 2, 6, 7, 8, 9], false, false), ([0, 1, 2, 6, 7, 8, 9, 10], false, false), ([0, 1, 2, 6, 7, 8, 9, 10, 11], false, false), ([0, 1, 2], false, false), ([0, 1, 2, 6, 7, 8, 9, 10, 11, 12, 13], false, false), ([0, 1, 2, 6, 7, 8, 9, 10, 11, 12, 13, 14], false, false), ([0, 1, 2, 6, 7, 8, 9, 10, 11, 12, 13, 14, 15], false, false), ([0, 1, 2, 3, 4, 5, 6, 7, 8, 9, 10, 11, 12, 13, 14, 15, 16], false, false), ([0, 1, 2, 3, 4, 5, 6, 7, 8, 9, 10, 11, 12, 13, 14, 15, 16, 17], false, false)] (Ext) Ext (fun _ => True) (by kernel_rfl) (by kernel_rfl) Ext.refl (fun _ _ _ => Ext.trans) (fun _ _ h => h) (fun _ _ h => h.size) (fun _ _ h _ => h) trivial ?_
    dsimp only [List.length_cons, List.length_nil, List.drop_succ_cons, List.drop_zero, List.drop_nil]
    refine fac_quiet 0 rfl rfl rfl (fun _ _ h _ => h) rfl rfl ?_
    apply Exists.intro
    refine ⟨fun sv w' hw' hfa => ?_, ?_⟩
    · refine ⟨rfl, ?_⟩
      simp only [putsL]
      change quietTo _ _ _ _ (Sem.run _ (execOp (Act.eval _) _) _)
      try simp only [Act.put, sIA, sCS, sCZ]
      simp [go_sem, quietTo, Ext.refl]
      all_goals first
        | rfl
    refine fac_quiet 1 rfl rfl rfl (fun _ _ h _ => h) rfl rfl ?_
    apply Exists.intro
    refine ⟨fun sv w' hw' hfa => ?_, ?_⟩
    · obtain ⟨f0, -⟩ := hfa
      replace f0 : sv 0 = _ := f0; (try dsimp only at f0)
      refine ⟨rfl, ?_⟩
      simp only [putsL]
      change quietTo _ _ _ _ (Sem.run _ (execOp (Act.eval (Act.put _ (some 24) (sv 0))) _) _)
      try simp only [Act.put, sIA, sCS, sCZ]
      simp [go_sem, quietTo, Ext.refl, ↓IntWalk.iteOmega, f0, hv0]
      all_goals try simp (disch := omega) only [IntWalk.i64_in]
      all_goals first
        | rfl
    refine fac_quiet 2 rfl rfl rfl (fun _ _ h _ => h) rfl rfl ?_
    apply Exists.intro
    refine ⟨fun sv w' hw' hfa => ?_, ?_⟩
    · obtain ⟨_, f1, -⟩ := hfa
      replace f1 : sv 1 = _ := f1; (try dsimp only at f1)
      refine ⟨rfl, ?_⟩
      simp only [putsL]
      change quietTo _ _ _ _ (Sem.run _ (execOp (Act.eval (Act.put (Act.put _ (some 25) (sv 1)) (some 24) (sv 0))) _) _)
      try simp only [Act.put, sIA, sCS, sCZ]
      simp [go_sem, quietTo, Ext.refl, f1]
      all_goals first
        | rfl
    refine fac_skip 3 rfl rfl rfl (fun _ _ h _ => h) Ext.refl ?_ ?_
    · intro sv w' hw' hfa
      obtain ⟨f0, f1, f2, -⟩ := hfa
      replace f0 : sv 0 = _ := f0; (try dsimp only at f0); replace f1 : sv 1 = _ := f1; (try dsimp only at f1); replace f2 : sv 2 = _ := f2; (try dsimp only at f2)
      simp [Region.wanted, yielded, putsL, Act.put, f2]
    refine fac_skip 4 rfl rfl rfl (fun _ _ h _ => h) Ext.refl ?_ ?_
    · intro sv w' hw' hfa
      obtain ⟨f0, f1, f2, f3, -⟩ := hfa
      replace f0 : sv 0 = _ := f0; (try dsimp only at f0); replace f1 : sv 1 = _ := f1; (try dsimp only at f1); replace f2 : sv 2 = _ := f2; (try dsimp only at f2); replace f3 : sv 3 = _ := f3; (try dsimp only at f3)
      simp [Region.wanted, yielded, putsL, Act.put, f2, f3, hv0]
    refine fac_skip 5 rfl rfl rfl (fun _ _ h _ => h) Ext.refl ?_ ?_
    · intro sv w' hw' hfa
      obtain ⟨f0, f1, f2, f3, f4, -⟩ := hfa
      replace f0 : sv 0 = _ := f0; (try dsimp only at f0); replace f1 : sv 1 = _ := f1; (try dsimp only at f1); replace f2 : sv 2 = _ := f2; (try dsimp only at f2); replace f3 : sv 3 = _ := f3; (try dsimp only at f3); replace f4 : sv 4 = _ := f4; (try dsimp only at f4)
      simp [Region.wanted, yielded, putsL, Act.put, f2, f4, hv0]
    refine fac_skip 6 rfl rfl rfl (fun _ _ h _ => h) Ext.refl ?_ ?_
    · intro sv w' hw' hfa
      obtain ⟨f0, f1, f2, -⟩ := hfa
      replace f0 : sv 0 = _ := f0; (try dsimp only at f0); replace f1 : sv 1 = _ := f1; (try dsimp only at f1); replace f2 : sv 2 = _ := f2; (try dsimp only at f2)
      simp [Region.wanted, yielded, putsL, Act.put, f2]
    refine fac_skip 7 rfl rfl rfl (fun _ _ h _ => h) Ext.refl ?_ ?_
    · intro sv w' hw' hfa
      obtain ⟨f0, f1, f2, f6, -⟩ := hfa
      replace f0 : sv 0 = _ := f0; (try dsimp only at f0); replace f1 : sv 1 = _ := f1; (try dsimp only at f1); replace f2 : sv 2 = _ := f2; (try dsimp only at f2); replace f6 : sv 6 = _ := f6; (try dsimp only at f6)
      simp [Region.wanted, yielded, putsL, Act.put, f2, f6]
    refine fac_skip 8 rfl rfl rfl (fun _ _ h _ => h) Ext.refl ?_ ?_
    · intro sv w' hw' hfa
      obtain ⟨f0, f1, f2, f6, f7, -⟩ := hfa
      replace f0 : sv 0 = _ := f0; (try dsimp only at f0); replace f1 : sv 1 = _ := f1; (try dsimp only at f1); replace f2 : sv 2 = _ := f2; (try dsimp only at f2); replace f6 : sv 6 = _ := f6; (try dsimp only at f6); replace f7 : sv 7 = _ := f7; (try dsimp only at f7)
      simp [Region.wanted, yielded, putsL, Act.put, f2, f7]
    refine fac_skip 9 rfl rfl rfl (fun _ _ h _ => h) Ext.refl ?_ ?_
    · intro sv w' hw' hfa
      obtain ⟨f0, f1, f2, f6, f7, f8, -⟩ := hfa
      replace f0 : sv 0 = _ := f0; (try dsimp only at f0); replace f1 : sv 1 = _ := f1; (try dsimp only at f1); replace f2 : sv 2 = _ := f2; (try dsimp only at f2); replace f6 : sv 6 = _ := f6; (try dsimp only at f6); replace f7 : sv 7 = _ := f7; (try dsimp only at f7); replace f8 : sv 8 = _ := f8; (try dsimp only at f8)
      simp [Region.wanted, yielded, putsL, Act.put, f2, f8, hv0]
    refine fac_skip 10 rfl rfl rfl (fun _ _ h _ => h) Ext.refl ?_ ?_
    · intro sv w' hw' hfa
      obtain ⟨f0, f1, f2, f6, f7, f8, f9, -⟩ := hfa
      replace f0 : sv 0 = _ := f0; (try dsimp only at f0); replace f1 : sv 1 = _ := f1; (try dsimp only at f1); replace f2 : sv 2 = _ := f2; (try dsimp only at f2); replace f6 : sv 6 = _ := f6; (try dsimp only at f6); replace f7 : sv 7 = _ := f7; (try dsimp only at f7); replace f8 : sv 8 = _ := f8; (try dsimp only at f8); replace f9 : sv 9 = _ := f9; (try dsimp only at f9)
      simp [Region.wanted, yielded, putsL, Act.put, f2, f9]
    refine fac_skip 11 rfl rfl rfl (fun _ _ h _ => h) Ext.refl ?_ ?_
    · intro sv w' hw' hfa
      obtain ⟨f0, f1, f2, f6, f7, f8, f9, f10, -⟩ := hfa
      replace f0 : sv 0 = _ := f0; (try dsimp only at f0); replace f1 : sv 1 = _ := f1; (try dsimp only at f1); replace f2 : sv 2 = _ := f2; (try dsimp only at f2); replace f6 : sv 6 = _ := f6; (try dsimp only at f6); replace f7 : sv 7 = _ := f7; (try dsimp only at f7); replace f8 : sv 8 = _ := f8; (try dsimp only at f8); replace f9 : sv 9 = _ := f9; (try dsimp only at f9)
      replace f10 : sv 10 = _ := f10; (try dsimp only at f10)
      simp [Region.wanted, yielded, putsL, Act.put, f2, f10]
    refine fac_skip 12 rfl rfl rfl (fun _ _ h _ => h) Ext.refl ?_ ?_
    · intro sv w' hw' hfa
      obtain ⟨f0, f1, f2, f6, f7, f8, f9, f10, f11, -⟩ := hfa
      replace f0 : sv 0 = _ := f0; (try dsimp only at f0); replace f1 : sv 1 = _ := f1; (try dsimp only at f1); replace f2 : sv 2 = _ := f2; (try dsimp only at f2); replace f6 : sv 6 = _ := f6; (try dsimp only at f6); replace f7 : sv 7 = _ := f7; (try dsimp only at f7); replace f8 : sv 8 = _ := f8; (try dsimp only at f8); replace f9 : sv 9 = _ := f9; (try dsimp only at f9)
      replace f10 : sv 10 = _ := f10; (try dsimp only at f10); replace f11 : sv 11 = _ := f11; (try dsimp only at f11)
      simp [Region.wanted, yielded, putsL, Act.put, f2, f11, hv0]
    refine fac_skip 13 rfl rfl rfl (fun _ _ h _ => h) Ext.refl ?_ ?_
    · intro sv w' hw' hfa
      obtain ⟨f0, f1, f2, -⟩ := hfa
      replace f0 : sv 0 = _ := f0; (try dsimp only at f0); replace f1 : sv 1 = _ := f1; (try dsimp only at f1); replace f2 : sv 2 = _ := f2; (try dsimp only at f2)
      simp [Region.wanted, yielded, putsL, Act.put, f2]
    refine fac_skip 14 rfl rfl rfl (fun _ _ h _ => h) Ext.refl ?_ ?_
    · intro sv w' hw' hfa
      obtain ⟨f0, f1, f2, f6, f7, f8, f9, f10, f11, f12, f13, -⟩ := hfa
      replace f0 : sv 0 = _ := f0; (try dsimp only at f0); replace f1 : sv 1 = _ := f1; (try dsimp only at f1); replace f2 : sv 2 = _ := f2; (try dsimp only at f2); replace f6 : sv 6 = _ := f6; (try dsimp only at f6); replace f7 : sv 7 = _ := f7; (try dsimp only at f7); replace f8 : sv 8 = _ := f8; (try dsimp only at f8); replace f9 : sv 9 = _ := f9; (try dsimp only at f9)
      replace f10 : sv 10 = _ := f10; (try dsimp only at f10); replace f11 : sv 11 = _ := f11; (try dsimp only at f11); replace f12 : sv 12 = _ := f12; (try dsimp only at f12); replace f13 : sv 13 = _ := f13; (try dsimp only at f13)
      simp [Region.wanted, yielded, putsL, Act.put, f2, f12, f13, hv0]
    refine fac_skip 15 rfl rfl rfl (fun _ _ h _ => h) Ext.refl ?_ ?_
    · intro sv w' hw' hfa
      obtain ⟨f0, f1, f2, f6, f7, f8, f9, f10, f11, f12, f13, f14, -⟩ := hfa
      replace f0 : sv 0 = _ := f0; (try dsimp only at f0); replace f1 : sv 1 = _ := f1; (try dsimp only at f1); replace f2 : sv 2 = _ := f2; (try dsimp only at f2); replace f6 : sv 6 = _ := f6; (try dsimp only at f6); replace f7 : sv 7 = _ := f7; (try dsimp only at f7); replace f8 : sv 8 = _ := f8; (try dsimp only at f8); replace f9 : sv 9 = _ := f9; (try dsimp only at f9)
      replace f10 : sv 10 = _ := f10; (try dsimp only at f10); replace f11 : sv 11 = _ := f11; (try dsimp only at f11); replace f12 : sv 12 = _ := f12; (try dsimp only at f12); replace f13 : sv 13 = _ := f13; (try dsimp only at f13); replace f14 : sv 14 = _ := f14; (try dsimp only at f14)
      simp [Region.wanted, yielded, putsL, Act.put, f2, f14]
    refine fac_skip 16 rfl rfl rfl (fun _ _ h _ => h) Ext.refl ?_ ?_
    · intro sv w' hw' hfa
      obtain ⟨f0, f1, f2, f6, f7, f8, f9, f10, f11, f12, f13, f14, f15, -⟩ := hfa
      replace f0 : sv 0 = _ := f0; (try dsimp only at f0); replace f1 : sv 1 = _ := f1; (try dsimp only at f1); replace f2 : sv 2 = _ := f2; (try dsimp only at f2); replace f6 : sv 6 = _ := f6; (try dsimp only at f6); replace f7 : sv 7 = _ := f7; (try dsimp only at f7); replace f8 : sv 8 = _ := f8; (try dsimp only at f8); replace f9 : sv 9 = _ := f9; (try dsimp only at f9)
      replace f10 : sv 10 = _ := f10; (try dsimp only at f10); replace f11 : sv 11 = _ := f11; (try dsimp only at f11); replace f12 : sv 12 = _ := f12; (try dsimp only at f12); replace f13 : sv 13 = _ := f13; (try dsimp only at f13); replace f14 : sv 14 = _ := f14; (try dsimp only at f14); replace f15 : sv 15 = _ := f15; (try dsimp only at f15)
      simp [Region.wanted, yielded, putsL, Act.put, f2, f15, hv0]
    refine fac_skip 17 rfl rfl rfl (fun _ _ h _ => h) Ext.refl ?_ ?_
    · intro sv w' hw' hfa
      obtain ⟨f0, f1, f2, f3, f4, f5, f6, f7, f8, f9, f10, f11, f12, f13, f14, f15, f16, -⟩ := hfa
      replace f0 : sv 0 = _ := f0; (try dsimp only at f0); replace f1 : sv 1 = _ := f1; (try dsimp only at f1); replace f2 : sv 2 = _ := f2; (try dsimp only at f2); replace f3 : sv 3 = _ := f3; (try dsimp only at f3); replace f4 : sv 4 = _ := f4; (try dsimp only at f4); replace f5 : sv 5 = _ := f5; (try dsimp only at f5); replace f6 : sv 6 = _ := f6; (try dsimp only at f6)
      replace f7 : sv 7 = _ := f7; (try dsimp only at f7); replace f8 : sv 8 = _ := f8; (try dsimp only at f8); replace f9 : sv 9 = _ := f9; (try dsimp only at f9); replace f10 : sv 10 = _ := f10; (try dsimp only at f10); replace f11 : sv 11 = _ := f11; (try dsimp only at f11); replace f12 : sv 12 = _ := f12; (try dsimp only at f12); replace f13 : sv 13 = _ := f13; (try dsimp only at f13)
      replace f14 : sv 14 = _ := f14; (try dsimp only at f14); replace f15 : sv 15 = _ := f15; (try dsimp only at f15); replace f16 : sv 16 = _ := f16; (try dsimp only at f16)
      simp [Region.wanted, yielded, putsL, Act.put, f2, f5, f16, hv0]
    refine fac_quiet 18 rfl rfl rfl (fun _ _ h _ => h) rfl rfl ?_
    apply Exists.intro
    refine ⟨fun sv w' hw' hfa => ?_, ?_⟩
    · obtain ⟨_, _, f2, _, _, _, _, _, _, _, _, _, _, _, _, _, _, f17, -⟩ := hfa
      replace f2 : sv 2 = _ := f2; (try dsimp only at f2); replace f17 : sv 17 = _ := f17; (try dsimp only at f17)
      refine ⟨rfl, ?_⟩
      simp only [putsL]
      change quietTo _ _ _ _ (Sem.run _ (execOp (Act.eval (Act.put (Act.put (Act.put (Act.put (Act.put (Act.put (Act.put (Act.put (Act.put (Act.put (Act.put (Act.put (Act.put (Act.put (Act.put (Act.put (Act.put (Act.put _ (some 41) (sv 17)) (some 40) (sv 16)) (some 39) (sv 15)) (some 38) (sv 14)) (some 37) (sv 13)) (some 36) (sv 12)) (some 35) (sv 11)) (some 34) (sv 10)) (some 33) (sv 9)) (some 32) (sv 8)) (some 31) (sv 7)) (some 30) (sv 6)) (some 29) (sv 5)) (some 28) (sv 4)) (some 27) (sv 3)) (some 26) (sv 2)) (some 25) (sv 1)) (some 24) (sv 0))) _) _)
      try simp only [Act.put, sIA, sCS, sCZ]
      simp [go_sem, quietTo, Ext.refl, ↓IntWalk.iteOmega, f2, f17]
      all_goals try simp (disch := omega) only [IntWalk.i64_in]
      all_goals first
        | rfl
    refine fac_nil fun xa wra hera hfra hcra holda hapa => ?_
    obtain ⟨f0, f1, f2, f3, f4, f5, f6, f7, f8, f9, f10, f11, f12, f13, f14, f15, f16, f17, f18, -⟩ := hfra
    replace f0 : xa 0 = _ := f0
    (try dsimp only at f0)
    replace f1 : xa 1 = _ := f1
    (try dsimp only at f1)
    replace f2 : xa 2 = _ := f2
    (try dsimp only at f2)
    replace f3 : xa 3 = _ := f3
    (try dsimp only at f3)
    replace f4 : xa 4 = _ := f4
    (try dsimp only at f4)
    replace f5 : xa 5 = _ := f5
    (try dsimp only at f5)
    replace f6 : xa 6 = _ := f6
    (try dsimp only at f6)
    replace f7 : xa 7 = _ := f7
    (try dsimp only at f7)
    replace f8 : xa 8 = _ := f8
    (try dsimp only at f8)
    replace f9 : xa 9 = _ := f9
    (try dsimp only at f9)
    replace f10 : xa 10 = _ := f10
    (try dsimp only at f10)
    replace f11 : xa 11 = _ := f11
    (try dsimp only at f11)
    replace f12 : xa 12 = _ := f12
    (try dsimp only at f12)
    replace f13 : xa 13 = _ := f13
    (try dsimp only at f13)
    replace f14 : xa 14 = _ := f14
    (try dsimp only at f14)
    replace f15 : xa 15 = _ := f15
    (try dsimp only at f15)
    replace f16 : xa 16 = _ := f16
    (try dsimp only at f16)
    replace f17 : xa 17 = _ := f17
    (try dsimp only at f17)
    replace f18 : xa 18 = _ := f18
    (try dsimp only at f18)
    change wpList _ _ _ _ (Act.put (Act.put (Act.put (Act.put (Act.put (Act.put (Act.put (Act.put (Act.put (Act.put (Act.put (Act.put (Act.put (Act.put (Act.put (Act.put (Act.put (Act.put (Act.put _ (some 24) (xa 0)) (some 25) (xa 1)) (some 26) (xa 2)) (some 27) (xa 3)) (some 28) (xa 4)) (some 29) (xa 5)) (some 30) (xa 6)) (some 31) (xa 7)) (some 32) (xa 8)) (some 33) (xa 9)) (some 34) (xa 10)) (some 35) (xa 11)) (some 36) (xa 12)) (some 37) (xa 13)) (some 38) (xa 14)) (some 39) (xa 15)) (some 40) (xa 16)) (some 41) (xa 17)) (some 42) (xa 18)) _
    simp only [putsL, Nat.reduceAdd, List.drop_succ_cons, List.drop_zero, List.drop_nil, Act.put, sIA, sCS, sCZ]
    try simp only [f0, f1, f2, f3, f4, f5, f6, f7, f8, f9, f10, f11, f12, f13, f14, f15, f16, f17, f18]
    clear f0 f1 f2 f3 f4 f5 f6 f7 f8 f9 f10 f11 f12 f13 f14 f15 f16 f17 f18; clear holda hapa
    have hDf := hD1.out.more ((Ext.refl W1).drew.trans hera)
    have hKf : Keeps gs _ _ := (hE1.out.trans ((Ext.refl W1).drew.trans hera)).keeps
    replace hDf := Lib.hid hDf
    go_wp2
    go_ret
    exact ⟨ret_int hres.out.symm, hDf.out.le (by omega), hKf⟩
  · by_cases hym : (y : Int) = x.most
    · have heq : ((y : Int) == x.most) = true := by rw [hym]; exact beq_self_eq_true _
      have hb1 : barB P row [a, b, c, d] p = true := by rw [hbar.out, decide_eq_true hym, Bool.or_true]
      have hres := hwv.out
      rw [hb1, if_pos rfl] at hres
      replace hres := Lib.hid hres; replace hb1 := Lib.hid hb1; replace hym := Lib.hid hym
      refine wp_region_facts [] [([], false, false), ([0], false, false), ([0, 1], false, false), ([0, 1, 2], false, false), ([0, 1, 2, 3], false, false), ([0, 1, 2, 3, 4], false, false), ([0, 1, 2], false, false), ([0, 1, 2, 6], false, false), ([0, 1, 2, 6, 7], false, false), ([0, 1, 2, 6, 7, 8], false, false), ([0, 1, 2, 6, 7, 8, 9], false, false), ([0, 1, 2, 6, 7, 8, 9, 10], false, false), ([0, 1, 2, 6, 7, 8, 9, 10, 11], false, false), ([0, 1, 2], false, false), ([0, 1, 2, 6, 7, 8, 9, 10, 11, 12, 13], false, false), ([0, 1, 2, 6, 7, 8, 9, 10, 11, 12, 13, 14], false, false), ([0, 1, 2, 6, 7, 8, 9, 10, 11, 12, 13, 14, 15], false, false), ([0, 1, 2, 3, 4, 5, 6, 7, 8, 9, 10, 11, 12, 13, 14, 15, 16], false, false), ([0, 1, 2, 3, 4, 5, 6, 7, 8, 9, 10, 11, 12, 13, 14, 15, 16, 17], false, false)] (Ext) Ext (fun _ => True) (by kernel_rfl) (by kernel_rfl) Ext.refl (fun _ _ _ => Ext.trans) (fun _ _ h => h) (fun _ _ h => h.size) (fun _ _ h _ => h) trivial ?_
      dsimp only [List.length_cons, List.length_nil, List.drop_succ_cons, List.drop_zero, List.drop_nil]
      refine fac_quiet 0 rfl rfl rfl (fun _ _ h _ => h) rfl rfl ?_
      apply Exists.intro
      refine ⟨fun sv w' hw' hfa => ?_, ?_⟩
      · refine ⟨rfl, ?_⟩
        simp only [putsL]
        change quietTo _ _ _ _ (Sem.run _ (execOp (Act.eval _) _) _)
        try simp only [Act.put, sIA, sCS, sCZ]
        simp [go_sem, quietTo, Ext.refl]
        all_goals first
          | rfl
      refine fac_quiet 1 rfl rfl rfl (fun _ _ h _ => h) rfl rfl ?_
      apply Exists.intro
      refine ⟨fun sv w' hw' hfa => ?_, ?_⟩
      · obtain ⟨f0, -⟩ := hfa
        replace f0 : sv 0 = _ := f0; (try dsimp only at f0)
        have hk9 := (Ext.refl W1).drew.trans hw'; obtain ⟨y1, -⟩ := (hB1.ext hk9).walk; obtain ⟨y2, -⟩ := (hD1.out.blk.ext hk9).walk; obtain ⟨y3, -⟩ := (hCw1.blk.ext hk9).walk; have y4 := (hk9.walk.1 _ _ hpb1).trans c4
        refine ⟨rfl, ?_⟩
        simp only [putsL]
        change quietTo _ _ _ _ (Sem.run _ (execOp (Act.eval (Act.put _ (some 24) (sv 0))) _) _)
        try simp only [Act.put, sIA, sCS, sCZ]
        simp [go_sem, quietTo, Ext.refl, ↓IntWalk.iteOmega, f0, hv0]
        all_goals try simp (disch := omega) only [IntWalk.i64_in]
        all_goals first
          | rfl
      refine fac_quiet 2 rfl rfl rfl (fun _ _ h _ => h) rfl rfl ?_
      apply Exists.intro
      refine ⟨fun sv w' hw' hfa => ?_, ?_⟩
      · obtain ⟨_, f1, -⟩ := hfa
        replace f1 : sv 1 = _ := f1; (try dsimp only at f1)
        refine ⟨rfl, ?_⟩
        simp only [putsL]
        change quietTo _ _ _ _ (Sem.run _ (execOp (Act.eval (Act.put (Act.put _ (some 25) (sv 1)) (some 24) (sv 0))) _) _)
        try simp only [Act.put, sIA, sCS, sCZ]
        simp [go_sem, quietTo, Ext.refl, f1]
        all_goals first
          | rfl
      refine fac_quiet 3 rfl rfl rfl (fun _ _ h _ => h) rfl rfl ?_
      apply Exists.intro
      refine ⟨fun sv w' hw' hfa => ?_, ?_⟩
      · obtain ⟨_, _, f2, -⟩ := hfa
        replace f2 : sv 2 = _ := f2; (try dsimp only at f2)
        refine ⟨by simp [Region.wanted, yielded, putsL, Act.put, f2], ?_⟩
        simp only [putsL]
        change quietTo _ _ _ _ (Sem.run _ (execOp (Act.eval (Act.put (Act.put (Act.put _ (some 26) (sv 2)) (some 25) (sv 1)) (some 24) (sv 0))) _) _)
        try simp only [Act.put, sIA, sCS, sCZ]
        simp [go_sem, quietTo, Ext.refl, f2]
        all_goals first
          | rfl
      refine fac_quiet 4 rfl rfl rfl (fun _ _ h _ => h) rfl rfl ?_
      apply Exists.intro
      refine ⟨fun sv w' hw' hfa => ?_, ?_⟩
      · obtain ⟨_, _, f2, f3, -⟩ := hfa
        replace f2 : sv 2 = _ := f2; (try dsimp only at f2); replace f3 : sv 3 = _ := f3; (try dsimp only at f3)
        have hk9 := (Ext.refl W1).drew.trans hw'; obtain ⟨y1, -⟩ := (hB1.ext hk9).walk; obtain ⟨y2, -⟩ := (hD1.out.blk.ext hk9).walk; obtain ⟨y3, -⟩ := (hCw1.blk.ext hk9).walk; have y4 := (hk9.walk.1 _ _ hpb1).trans c4
        refine ⟨by simp [Region.wanted, yielded, putsL, Act.put, f2, f3], ?_⟩
        simp only [putsL]
        change quietTo _ _ _ _ (Sem.run _ (execOp (Act.eval (Act.put (Act.put (Act.put (Act.put _ (some 27) (sv 3)) (some 26) (sv 2)) (some 25) (sv 1)) (some 24) (sv 0))) _) _)
        try simp only [Act.put, sIA, sCS, sCZ]
        simp [go_sem, quietTo, Ext.refl, ↓IntWalk.iteOmega, f2, f3, hp4]
        all_goals try simp (disch := omega) only [IntWalk.i64_in]
        all_goals first
          | rfl
      refine fac_quiet 5 rfl rfl rfl (fun _ _ h _ => h) rfl rfl ?_
      apply Exists.intro
      refine ⟨fun sv w' hw' hfa => ?_, ?_⟩
      · obtain ⟨_, _, f2, _, f4, -⟩ := hfa
        replace f2 : sv 2 = _ := f2; (try dsimp only at f2); replace f4 : sv 4 = _ := f4; (try dsimp only at f4)
        have hk9 := (Ext.refl W1).drew.trans hw'; obtain ⟨y1, -⟩ := (hB1.ext hk9).walk; obtain ⟨y2, -⟩ := (hD1.out.blk.ext hk9).walk; obtain ⟨y3, -⟩ := (hCw1.blk.ext hk9).walk; have y4 := (hk9.walk.1 _ _ hpb1).trans c4
        refine ⟨by simp [Region.wanted, yielded, putsL, Act.put, f2, f4], ?_⟩
        simp only [putsL]
        change quietTo _ _ _ _ (Sem.run _ (execOp (Act.eval (Act.put (Act.put (Act.put (Act.put (Act.put _ (some 28) (sv 4)) (some 27) (sv 3)) (some 26) (sv 2)) (some 25) (sv 1)) (some 24) (sv 0))) _) _)
        try simp only [Act.put, sIA, sCS, sCZ]
        simp [go_sem, quietTo, Ext.refl, ↓IntWalk.iteOmega, f2, f4, y1, hcell]
        all_goals try simp (disch := omega) only [IntWalk.i64_in]
        all_goals first
          | rfl
      refine fac_quiet 6 rfl rfl rfl (fun _ _ h _ => h) rfl rfl ?_
      apply Exists.intro
      refine ⟨fun sv w' hw' hfa => ?_, ?_⟩
      · obtain ⟨_, _, f2, -⟩ := hfa
        replace f2 : sv 2 = _ := f2; (try dsimp only at f2)
        refine ⟨by simp [Region.wanted, yielded, putsL, Act.put, f2], ?_⟩
        simp only [putsL]
        change quietTo _ _ _ _ (Sem.run _ (execOp (Act.eval (Act.put (Act.put (Act.put _ (some 26) (sv 2)) (some 25) (sv 1)) (some 24) (sv 0))) _) _)
        try simp only [Act.put, sIA, sCS, sCZ]
        simp [go_sem, quietTo, Ext.refl, f2]
        all_goals first
          | rfl
      refine fac_quiet 7 rfl rfl rfl (fun _ _ h _ => h) rfl rfl ?_
      apply Exists.intro
      refine ⟨fun sv w' hw' hfa => ?_, ?_⟩
      · obtain ⟨_, _, f2, f6, -⟩ := hfa
        replace f2 : sv 2 = _ := f2; (try dsimp only at f2); replace f6 : sv 6 = _ := f6; (try dsimp only at f6)
        refine ⟨by simp [Region.wanted, yielded, putsL, Act.put, f2, f6], ?_⟩
        simp only [putsL]
        change quietTo _ _ _ _ (Sem.run _ (execOp (Act.eval (Act.put (Act.put (Act.put (Act.put _ (some 30) (sv 6)) (some 26) (sv 2)) (some 25) (sv 1)) (some 24) (sv 0))) _) _)
        try simp only [Act.put, sIA, sCS, sCZ]
        simp [go_sem, quietTo, Ext.refl, f2, f6]
        all_goals first
          | rfl
      refine fac_quiet 8 rfl rfl rfl (fun _ _ h _ => h) rfl rfl ?_
      apply Exists.intro
      refine ⟨fun sv w' hw' hfa => ?_, ?_⟩
      · obtain ⟨_, _, f2, _, f7, -⟩ := hfa
        replace f2 : sv 2 = _ := f2; (try dsimp only at f2); replace f7 : sv 7 = _ := f7; (try dsimp only at f7)
        refine ⟨by simp [Region.wanted, yielded, putsL, Act.put, f2, f7], ?_⟩
        simp only [putsL]
        change quietTo _ _ _ _ (Sem.run _ (execOp (Act.eval (Act.put (Act.put (Act.put (Act.put (Act.put _ (some 31) (sv 7)) (some 30) (sv 6)) (some 26) (sv 2)) (some 25) (sv 1)) (some 24) (sv 0))) _) _)
        try simp only [Act.put, sIA, sCS, sCZ]
        simp [go_sem, quietTo, Ext.refl, f2, f7]
        all_goals first
          | rfl
      refine fac_quiet 9 rfl rfl rfl (fun _ _ h _ => h) rfl rfl ?_
      apply Exists.intro
      refine ⟨fun sv w' hw' hfa => ?_, ?_⟩
      · obtain ⟨_, _, f2, _, _, f8, -⟩ := hfa
        replace f2 : sv 2 = _ := f2; (try dsimp only at f2); replace f8 : sv 8 = _ := f8; (try dsimp only at f8)
        have hk9 := (Ext.refl W1).drew.trans hw'; obtain ⟨y1, -⟩ := (hB1.ext hk9).walk; obtain ⟨y2, -⟩ := (hD1.out.blk.ext hk9).walk; obtain ⟨y3, -⟩ := (hCw1.blk.ext hk9).walk; have y4 := (hk9.walk.1 _ _ hpb1).trans c4
        refine ⟨by simp [Region.wanted, yielded, putsL, Act.put, f2, f8], ?_⟩
        simp only [putsL]
        change quietTo _ _ _ _ (Sem.run _ (execOp (Act.eval (Act.put (Act.put (Act.put (Act.put (Act.put (Act.put _ (some 32) (sv 8)) (some 31) (sv 7)) (some 30) (sv 6)) (some 26) (sv 2)) (some 25) (sv 1)) (some 24) (sv 0))) _) _)
        try simp only [Act.put, sIA, sCS, sCZ]
        simp [go_sem, quietTo, Ext.refl, ↓IntWalk.iteOmega, f2, f8, y2]
        all_goals try simp (disch := omega) only [IntWalk.i64_in]
        all_goals first
          | rfl
      refine fac_quiet 10 rfl rfl rfl (fun _ _ h _ => h) rfl rfl ?_
      apply Exists.intro
      refine ⟨fun sv w' hw' hfa => ?_, ?_⟩
      · obtain ⟨_, _, f2, _, _, _, f9, -⟩ := hfa
        replace f2 : sv 2 = _ := f2; (try dsimp only at f2); replace f9 : sv 9 = _ := f9; (try dsimp only at f9)
        refine ⟨by simp [Region.wanted, yielded, putsL, Act.put, f2, f9], ?_⟩
        simp only [putsL]
        change quietTo _ _ _ _ (Sem.run _ (execOp (Act.eval (Act.put (Act.put (Act.put (Act.put (Act.put (Act.put (Act.put _ (some 33) (sv 9)) (some 32) (sv 8)) (some 31) (sv 7)) (some 30) (sv 6)) (some 26) (sv 2)) (some 25) (sv 1)) (some 24) (sv 0))) _) _)
        try simp only [Act.put, sIA, sCS, sCZ]
        simp [go_sem, quietTo, Ext.refl, f2, f9]
        all_goals first
          | rfl
      refine fac_quiet 11 rfl rfl rfl (fun _ _ h _ => h) rfl rfl ?_
      apply Exists.intro
      refine ⟨fun sv w' hw' hfa => ?_, ?_⟩
      · obtain ⟨_, _, f2, _, _, _, _, f10, -⟩ := hfa
        replace f2 : sv 2 = _ := f2; (try dsimp only at f2); replace f10 : sv 10 = _ := f10; (try dsimp only at f10)
        refine ⟨by simp [Region.wanted, yielded, putsL, Act.put, f2, f10], ?_⟩
        simp only [putsL]
        change quietTo _ _ _ _ (Sem.run _ (execOp (Act.eval (Act.put (Act.put (Act.put (Act.put (Act.put (Act.put (Act.put (Act.put _ (some 34) (sv 10)) (some 33) (sv 9)) (some 32) (sv 8)) (some 31) (sv 7)) (some 30) (sv 6)) (some 26) (sv 2)) (some 25) (sv 1)) (some 24) (sv 0))) _) _)
        try simp only [Act.put, sIA, sCS, sCZ]
        simp [go_sem, quietTo, Ext.refl, f2, f10]
        all_goals first
          | rfl
      refine fac_quiet 12 rfl rfl rfl (fun _ _ h _ => h) rfl rfl ?_
      apply Exists.intro
      refine ⟨fun sv w' hw' hfa => ?_, ?_⟩
      · obtain ⟨_, _, f2, _, _, _, _, _, f11, -⟩ := hfa
        replace f2 : sv 2 = _ := f2; (try dsimp only at f2); replace f11 : sv 11 = _ := f11; (try dsimp only at f11)
        have hk9 := (Ext.refl W1).drew.trans hw'; obtain ⟨y1, -⟩ := (hB1.ext hk9).walk; obtain ⟨y2, -⟩ := (hD1.out.blk.ext hk9).walk; obtain ⟨y3, -⟩ := (hCw1.blk.ext hk9).walk; have y4 := (hk9.walk.1 _ _ hpb1).trans c4
        refine ⟨by simp [Region.wanted, yielded, putsL, Act.put, f2, f11], ?_⟩
        simp only [putsL]
        change quietTo _ _ _ _ (Sem.run _ (execOp (Act.eval (Act.put (Act.put (Act.put (Act.put (Act.put (Act.put (Act.put (Act.put (Act.put _ (some 35) (sv 11)) (some 34) (sv 10)) (some 33) (sv 9)) (some 32) (sv 8)) (some 31) (sv 7)) (some 30) (sv 6)) (some 26) (sv 2)) (some 25) (sv 1)) (some 24) (sv 0))) _) _)
        try simp only [Act.put, sIA, sCS, sCZ]
        simp [go_sem, quietTo, Ext.refl, ↓IntWalk.iteOmega, f2, f11, y3]
        all_goals try simp (disch := omega) only [IntWalk.i64_in]
        all_goals first
          | rfl
      refine fac_quiet 13 rfl rfl rfl (fun _ _ h _ => h) rfl rfl ?_
      apply Exists.intro
      refine ⟨fun sv w' hw' hfa => ?_, ?_⟩
      · obtain ⟨_, _, f2, -⟩ := hfa
        replace f2 : sv 2 = _ := f2; (try dsimp only at f2)
        refine ⟨by simp [Region.wanted, yielded, putsL, Act.put, f2], ?_⟩
        simp only [putsL]
        change quietTo _ _ _ _ (Sem.run _ (execOp (Act.eval (Act.put (Act.put (Act.put _ (some 26) (sv 2)) (some 25) (sv 1)) (some 24) (sv 0))) _) _)
        try simp only [Act.put, sIA, sCS, sCZ]
        simp [go_sem, quietTo, Ext.refl, f2]
        all_goals first
          | rfl
      refine fac_quiet 14 rfl rfl rfl (fun _ _ h _ => h) rfl rfl ?_
      apply Exists.intro
      refine ⟨fun sv w' hw' hfa => ?_, ?_⟩
      · obtain ⟨_, _, f2, _, _, _, _, _, _, f12, f13, -⟩ := hfa
        replace f2 : sv 2 = _ := f2; (try dsimp only at f2); replace f12 : sv 12 = _ := f12; (try dsimp only at f12); replace f13 : sv 13 = _ := f13; (try dsimp only at f13)
        have hk9 := (Ext.refl W1).drew.trans hw'; obtain ⟨y1, -⟩ := (hB1.ext hk9).walk; obtain ⟨y2, -⟩ := (hD1.out.blk.ext hk9).walk; obtain ⟨y3, -⟩ := (hCw1.blk.ext hk9).walk; have y4 := (hk9.walk.1 _ _ hpb1).trans c4
        refine ⟨by simp [Region.wanted, yielded, putsL, Act.put, f2, f12, f13], ?_⟩
        simp only [putsL]
        change quietTo _ _ _ _ (Sem.run _ (execOp (Act.eval (Act.put (Act.put (Act.put (Act.put (Act.put (Act.put (Act.put (Act.put (Act.put (Act.put (Act.put _ (some 37) (sv 13)) (some 36) (sv 12)) (some 35) (sv 11)) (some 34) (sv 10)) (some 33) (sv 9)) (some 32) (sv 8)) (some 31) (sv 7)) (some 30) (sv 6)) (some 26) (sv 2)) (some 25) (sv 1)) (some 24) (sv 0))) _) _)
        try simp only [Act.put, sIA, sCS, sCZ]
        simp [go_sem, quietTo, Ext.refl, ↓IntWalk.iteOmega, f2, f12, f13, hpI]
        all_goals try simp (disch := omega) only [IntWalk.i64_in]
        all_goals first
          | rfl
      refine fac_quiet 15 rfl rfl rfl (fun _ _ h _ => h) rfl rfl ?_
      apply Exists.intro
      refine ⟨fun sv w' hw' hfa => ?_, ?_⟩
      · obtain ⟨_, _, f2, _, _, _, _, _, _, _, _, f14, -⟩ := hfa
        replace f2 : sv 2 = _ := f2; (try dsimp only at f2); replace f14 : sv 14 = _ := f14; (try dsimp only at f14)
        refine ⟨by simp [Region.wanted, yielded, putsL, Act.put, f2, f14], ?_⟩
        simp only [putsL]
        change quietTo _ _ _ _ (Sem.run _ (execOp (Act.eval (Act.put (Act.put (Act.put (Act.put (Act.put (Act.put (Act.put (Act.put (Act.put (Act.put (Act.put (Act.put _ (some 38) (sv 14)) (some 37) (sv 13)) (some 36) (sv 12)) (some 35) (sv 11)) (some 34) (sv 10)) (some 33) (sv 9)) (some 32) (sv 8)) (some 31) (sv 7)) (some 30) (sv 6)) (some 26) (sv 2)) (some 25) (sv 1)) (some 24) (sv 0))) _) _)
        try simp only [Act.put, sIA, sCS, sCZ]
        simp [go_sem, quietTo, Ext.refl, f2, f14]
        all_goals first
          | rfl
      refine fac_quiet 16 rfl rfl rfl (fun _ _ h _ => h) rfl rfl ?_
      apply Exists.intro
      refine ⟨fun sv w' hw' hfa => ?_, ?_⟩
      · obtain ⟨_, _, f2, _, _, _, _, _, _, _, _, _, f15, -⟩ := hfa
        replace f2 : sv 2 = _ := f2; (try dsimp only at f2); replace f15 : sv 15 = _ := f15; (try dsimp only at f15)
        have hk9 := (Ext.refl W1).drew.trans hw'; obtain ⟨y1, -⟩ := (hB1.ext hk9).walk; obtain ⟨y2, -⟩ := (hD1.out.blk.ext hk9).walk; obtain ⟨y3, -⟩ := (hCw1.blk.ext hk9).walk; have y4 := (hk9.walk.1 _ _ hpb1).trans c4
        refine ⟨by simp [Region.wanted, yielded, putsL, Act.put, f2, f15], ?_⟩
        simp only [putsL]
        change quietTo _ _ _ _ (Sem.run _ (execOp (Act.eval (Act.put (Act.put (Act.put (Act.put (Act.put (Act.put (Act.put (Act.put (Act.put (Act.put (Act.put (Act.put (Act.put _ (some 39) (sv 15)) (some 38) (sv 14)) (some 37) (sv 13)) (some 36) (sv 12)) (some 35) (sv 11)) (some 34) (sv 10)) (some 33) (sv 9)) (some 32) (sv 8)) (some 31) (sv 7)) (some 30) (sv 6)) (some 26) (sv 2)) (some 25) (sv 1)) (some 24) (sv 0))) _) _)
        try simp only [Act.put, sIA, sCS, sCZ]
        simp [go_sem, quietTo, Ext.refl, ↓IntWalk.iteOmega, f2, f15, y4]
        all_goals try simp (disch := omega) only [IntWalk.i64_in]
        all_goals first
          | rfl
      refine fac_quiet 17 rfl rfl rfl (fun _ _ h _ => h) rfl rfl ?_
      apply Exists.intro
      refine ⟨fun sv w' hw' hfa => ?_, ?_⟩
      · obtain ⟨_, _, f2, _, _, f5, _, _, _, _, _, _, _, _, _, _, f16, -⟩ := hfa
        replace f2 : sv 2 = _ := f2; (try dsimp only at f2); replace f5 : sv 5 = _ := f5; (try dsimp only at f5); replace f16 : sv 16 = _ := f16; (try dsimp only at f16)
        have hk9 := (Ext.refl W1).drew.trans hw'; obtain ⟨y1, -⟩ := (hB1.ext hk9).walk; obtain ⟨y2, -⟩ := (hD1.out.blk.ext hk9).walk; obtain ⟨y3, -⟩ := (hCw1.blk.ext hk9).walk; have y4 := (hk9.walk.1 _ _ hpb1).trans c4
        refine ⟨by simp [Region.wanted, yielded, putsL, Act.put, f2, f5, f16], ?_⟩
        simp only [putsL]
        change quietTo _ _ _ _ (Sem.run _ (execOp (Act.eval (Act.put (Act.put (Act.put (Act.put (Act.put (Act.put (Act.put (Act.put (Act.put (Act.put (Act.put (Act.put (Act.put (Act.put (Act.put (Act.put (Act.put _ (some 40) (sv 16)) (some 39) (sv 15)) (some 38) (sv 14)) (some 37) (sv 13)) (some 36) (sv 12)) (some 35) (sv 11)) (some 34) (sv 10)) (some 33) (sv 9)) (some 32) (sv 8)) (some 31) (sv 7)) (some 30) (sv 6)) (some 29) (sv 5)) (some 28) (sv 4)) (some 27) (sv 3)) (some 26) (sv 2)) (some 25) (sv 1)) (some 24) (sv 0))) _) _)
        try simp only [Act.put, sIA, sCS, sCZ]
        simp [go_sem, quietTo, Ext.refl, ↓IntWalk.iteOmega, f2, f5, f16, heq]
        all_goals try simp (disch := omega) only [IntWalk.i64_in]
        all_goals first
          | rfl
      refine fac_quiet 18 rfl rfl rfl (fun _ _ h _ => h) rfl rfl ?_
      apply Exists.intro
      refine ⟨fun sv w' hw' hfa => ?_, ?_⟩
      · obtain ⟨_, _, f2, _, _, _, _, _, _, _, _, _, _, _, _, _, _, f17, -⟩ := hfa
        replace f2 : sv 2 = _ := f2; (try dsimp only at f2); replace f17 : sv 17 = _ := f17; (try dsimp only at f17)
        refine ⟨rfl, ?_⟩
        simp only [putsL]
        change quietTo _ _ _ _ (Sem.run _ (execOp (Act.eval (Act.put (Act.put (Act.put (Act.put (Act.put (Act.put (Act.put (Act.put (Act.put (Act.put (Act.put (Act.put (Act.put (Act.put (Act.put (Act.put (Act.put (Act.put _ (some 41) (sv 17)) (some 40) (sv 16)) (some 39) (sv 15)) (some 38) (sv 14)) (some 37) (sv 13)) (some 36) (sv 12)) (some 35) (sv 11)) (some 34) (sv 10)) (some 33) (sv 9)) (some 32) (sv 8)) (some 31) (sv 7)) (some 30) (sv 6)) (some 29) (sv 5)) (some 28) (sv 4)) (some 27) (sv 3)) (some 26) (sv 2)) (some 25) (sv 1)) (some 24) (sv 0))) _) _)
        try simp only [Act.put, sIA, sCS, sCZ]
        simp [go_sem, quietTo, Ext.refl, ↓IntWalk.iteOmega, f2, f17]
        all_goals try simp (disch := omega) only [IntWalk.i64_in]
        all_goals first
          | rfl
      refine fac_nil fun xa wra hera hfra hcra holda hapa => ?_
      obtain ⟨f0, f1, f2, f3, f4, f5, f6, f7, f8, f9, f10, f11, f12, f13, f14, f15, f16, f17, f18, -⟩ := hfra
      replace f0 : xa 0 = _ := f0
      (try dsimp only at f0)
      replace f1 : xa 1 = _ := f1
      (try dsimp only at f1)
      replace f2 : xa 2 = _ := f2
      (try dsimp only at f2)
      replace f3 : xa 3 = _ := f3
      (try dsimp only at f3)
      replace f4 : xa 4 = _ := f4
      (try dsimp only at f4)
      replace f5 : xa 5 = _ := f5
      (try dsimp only at f5)
      replace f6 : xa 6 = _ := f6
      (try dsimp only at f6)
      replace f7 : xa 7 = _ := f7
      (try dsimp only at f7)
      replace f8 : xa 8 = _ := f8
      (try dsimp only at f8)
      replace f9 : xa 9 = _ := f9
      (try dsimp only at f9)
      replace f10 : xa 10 = _ := f10
      (try dsimp only at f10)
      replace f11 : xa 11 = _ := f11
      (try dsimp only at f11)
      replace f12 : xa 12 = _ := f12
      (try dsimp only at f12)
      replace f13 : xa 13 = _ := f13
      (try dsimp only at f13)
      replace f14 : xa 14 = _ := f14
      (try dsimp only at f14)
      replace f15 : xa 15 = _ := f15
      (try dsimp only at f15)
      replace f16 : xa 16 = _ := f16
      (try dsimp only at f16)
      replace f17 : xa 17 = _ := f17
      (try dsimp only at f17)
      replace f18 : xa 18 = _ := f18
      (try dsimp only at f18)
      change wpList _ _ _ _ (Act.put (Act.put (Act.put (Act.put (Act.put (Act.put (Act.put (Act.put (Act.put (Act.put (Act.put (Act.put (Act.put (Act.put (Act.put (Act.put (Act.put (Act.put (Act.put _ (some 24) (xa 0)) (some 25) (xa 1)) (some 26) (xa 2)) (some 27) (xa 3)) (some 28) (xa 4)) (some 29) (xa 5)) (some 30) (xa 6)) (some 31) (xa 7)) (some 32) (xa 8)) (some 33) (xa 9)) (some 34) (xa 10)) (some 35) (xa 11)) (some 36) (xa 12)) (some 37) (xa 13)) (some 38) (xa 14)) (some 39) (xa 15)) (some 40) (xa 16)) (some 41) (xa 17)) (some 42) (xa 18)) _
      simp only [putsL, Nat.reduceAdd, List.drop_succ_cons, List.drop_zero, List.drop_nil, Act.put, sIA, sCS, sCZ]
      try simp only [f0, f1, f2, f3, f4, f5, f6, f7, f8, f9, f10, f11, f12, f13, f14, f15, f16, f17, f18]
      clear f0 f1 f2 f3 f4 f5 f6 f7 f8 f9 f10 f11 f12 f13 f14 f15 f16 f17 f18; clear holda hapa
      have hDf := hD1.out.more ((Ext.refl W1).drew.trans hera)
      have hKf : Keeps gs _ _ := (hE1.out.trans ((Ext.refl W1).drew.trans hera)).keeps
      replace hDf := Lib.hid hDf
      go_wp2
      go_ret
      exact ⟨ret_int hres.out.symm, hDf.out.le (by omega), hKf⟩
    · have heq : ((y : Int) == x.most) = false := beq_false_of_ne hym
      have hb1 : barB P row [a, b, c, d] p = false := by rw [hbar.out, decide_eq_false hv0, decide_eq_false hym]; rfl
      have hres := hwv.out
      rw [hb1, if_neg (by decide)] at hres
      replace hres := Lib.hid hres; replace hb1 := Lib.hid hb1; replace hym := Lib.hid hym
      refine wp_region_facts [] [([], false, false), ([0], false, false), ([0, 1], false, false), ([0, 1, 2], false, false), ([0, 1, 2, 3], false, false), ([0, 1, 2, 3, 4], false, false), ([0, 1, 2], false, false), ([0, 1, 2, 6], false, false), ([0, 1, 2, 6, 7], false, false), ([0, 1, 2, 6, 7, 8], false, false), ([0, 1, 2, 6, 7, 8, 9], false, false), ([0, 1, 2, 6, 7, 8, 9, 10], false, false), ([0, 1, 2, 6, 7, 8, 9, 10, 11], false, false), ([0, 1, 2], false, false), ([0, 1, 2, 6, 7, 8, 9, 10, 11, 12, 13], false, false), ([0, 1, 2, 6, 7, 8, 9, 10, 11, 12, 13, 14], false, false), ([0, 1, 2, 6, 7, 8, 9, 10, 11, 12, 13, 14, 15], false, false), ([0, 1, 2, 3, 4, 5, 6, 7, 8, 9, 10, 11, 12, 13, 14, 15, 16], false, false), ([0, 1, 2, 3, 4, 5, 6, 7, 8, 9, 10, 11, 12, 13, 14, 15, 16, 17], false, false)] (Ext) Ext (fun _ => True) (by kernel_rfl) (by kernel_rfl) Ext.refl (fun _ _ _ => Ext.trans) (fun _ _ h => h) (fun _ _ h => h.size) (fun _ _ h _ => h) trivial ?_
      dsimp only [List.length_cons, List.length_nil, List.drop_succ_cons, List.drop_zero, List.drop_nil]
      refine fac_quiet 0 rfl rfl rfl (fun _ _ h _ => h) rfl rfl ?_
      apply Exists.intro
      refine ⟨fun sv w' hw' hfa => ?_, ?_⟩
      · refine ⟨rfl, ?_⟩
        simp only [putsL]
        change quietTo _ _ _ _ (Sem.run _ (execOp (Act.eval _) _) _)
        try simp only [Act.put, sIA, sCS, sCZ]
        simp [go_sem, quietTo, Ext.refl]
        all_goals first
          | rfl
      refine fac_quiet 1 rfl rfl rfl (fun _ _ h _ => h) rfl rfl ?_
      apply Exists.intro
      refine ⟨fun sv w' hw' hfa => ?_, ?_⟩
      · obtain ⟨f0, -⟩ := hfa
        replace f0 : sv 0 = _ := f0; (try dsimp only at f0)
        have hk9 := (Ext.refl W1).drew.trans hw'; obtain ⟨y1, -⟩ := (hB1.ext hk9).walk; obtain ⟨y2, -⟩ := (hD1.out.blk.ext hk9).walk; obtain ⟨y3, -⟩ := (hCw1.blk.ext hk9).walk; have y4 := (hk9.walk.1 _ _ hpb1).trans c4
        refine ⟨rfl, ?_⟩
        simp only [putsL]
        change quietTo _ _ _ _ (Sem.run _ (execOp (Act.eval (Act.put _ (some 24) (sv 0))) _) _)
        try simp only [Act.put, sIA, sCS, sCZ]
        simp [go_sem, quietTo, Ext.refl, ↓IntWalk.iteOmega, f0, hv0]
        all_goals try simp (disch := omega) only [IntWalk.i64_in]
        all_goals first
          | rfl
      refine fac_quiet 2 rfl rfl rfl (fun _ _ h _ => h) rfl rfl ?_
      apply Exists.intro
      refine ⟨fun sv w' hw' hfa => ?_, ?_⟩
      · obtain ⟨_, f1, -⟩ := hfa
        replace f1 : sv 1 = _ := f1; (try dsimp only at f1)
        refine ⟨rfl, ?_⟩
        simp only [putsL]
        change quietTo _ _ _ _ (Sem.run _ (execOp (Act.eval (Act.put (Act.put _ (some 25) (sv 1)) (some 24) (sv 0))) _) _)
        try simp only [Act.put, sIA, sCS, sCZ]
        simp [go_sem, quietTo, Ext.refl, f1]
        all_goals first
          | rfl
      refine fac_quiet 3 rfl rfl rfl (fun _ _ h _ => h) rfl rfl ?_
      apply Exists.intro
      refine ⟨fun sv w' hw' hfa => ?_, ?_⟩
      · obtain ⟨_, _, f2, -⟩ := hfa
        replace f2 : sv 2 = _ := f2; (try dsimp only at f2)
        refine ⟨by simp [Region.wanted, yielded, putsL, Act.put, f2], ?_⟩
        simp only [putsL]
        change quietTo _ _ _ _ (Sem.run _ (execOp (Act.eval (Act.put (Act.put (Act.put _ (some 26) (sv 2)) (some 25) (sv 1)) (some 24) (sv 0))) _) _)
        try simp only [Act.put, sIA, sCS, sCZ]
        simp [go_sem, quietTo, Ext.refl, f2]
        all_goals first
          | rfl
      refine fac_quiet 4 rfl rfl rfl (fun _ _ h _ => h) rfl rfl ?_
      apply Exists.intro
      refine ⟨fun sv w' hw' hfa => ?_, ?_⟩
      · obtain ⟨_, _, f2, f3, -⟩ := hfa
        replace f2 : sv 2 = _ := f2; (try dsimp only at f2); replace f3 : sv 3 = _ := f3; (try dsimp only at f3)
        have hk9 := (Ext.refl W1).drew.trans hw'; obtain ⟨y1, -⟩ := (hB1.ext hk9).walk; obtain ⟨y2, -⟩ := (hD1.out.blk.ext hk9).walk; obtain ⟨y3, -⟩ := (hCw1.blk.ext hk9).walk; have y4 := (hk9.walk.1 _ _ hpb1).trans c4
        refine ⟨by simp [Region.wanted, yielded, putsL, Act.put, f2, f3], ?_⟩
        simp only [putsL]
        change quietTo _ _ _ _ (Sem.run _ (execOp (Act.eval (Act.put (Act.put (Act.put (Act.put _ (some 27) (sv 3)) (some 26) (sv 2)) (some 25) (sv 1)) (some 24) (sv 0))) _) _)
        try simp only [Act.put, sIA, sCS, sCZ]
        simp [go_sem, quietTo, Ext.refl, ↓IntWalk.iteOmega, f2, f3, hp4]
        all_goals try simp (disch := omega) only [IntWalk.i64_in]
        all_goals first
          | rfl
      refine fac_quiet 5 rfl rfl rfl (fun _ _ h _ => h) rfl rfl ?_
      apply Exists.intro
      refine ⟨fun sv w' hw' hfa => ?_, ?_⟩
      · obtain ⟨_, _, f2, _, f4, -⟩ := hfa
        replace f2 : sv 2 = _ := f2; (try dsimp only at f2); replace f4 : sv 4 = _ := f4; (try dsimp only at f4)
        have hk9 := (Ext.refl W1).drew.trans hw'; obtain ⟨y1, -⟩ := (hB1.ext hk9).walk; obtain ⟨y2, -⟩ := (hD1.out.blk.ext hk9).walk; obtain ⟨y3, -⟩ := (hCw1.blk.ext hk9).walk; have y4 := (hk9.walk.1 _ _ hpb1).trans c4
        refine ⟨by simp [Region.wanted, yielded, putsL, Act.put, f2, f4], ?_⟩
        simp only [putsL]
        change quietTo _ _ _ _ (Sem.run _ (execOp (Act.eval (Act.put (Act.put (Act.put (Act.put (Act.put _ (some 28) (sv 4)) (some 27) (sv 3)) (some 26) (sv 2)) (some 25) (sv 1)) (some 24) (sv 0))) _) _)
        try simp only [Act.put, sIA, sCS, sCZ]
        simp [go_sem, quietTo, Ext.refl, ↓IntWalk.iteOmega, f2, f4, y1, hcell]
        all_goals try simp (disch := omega) only [IntWalk.i64_in]
        all_goals first
          | rfl
      refine fac_quiet 6 rfl rfl rfl (fun _ _ h _ => h) rfl rfl ?_
      apply Exists.intro
      refine ⟨fun sv w' hw' hfa => ?_, ?_⟩
      · obtain ⟨_, _, f2, -⟩ := hfa
        replace f2 : sv 2 = _ := f2; (try dsimp only at f2)
        refine ⟨by simp [Region.wanted, yielded, putsL, Act.put, f2], ?_⟩
        simp only [putsL]
        change quietTo _ _ _ _ (Sem.run _ (execOp (Act.eval (Act.put (Act.put (Act.put _ (some 26) (sv 2)) (some 25) (sv 1)) (some 24) (sv 0))) _) _)
        try simp only [Act.put, sIA, sCS, sCZ]
        simp [go_sem, quietTo, Ext.refl, f2]
        all_goals first
          | rfl
      refine fac_quiet 7 rfl rfl rfl (fun _ _ h _ => h) rfl rfl ?_
      apply Exists.intro
      refine ⟨fun sv w' hw' hfa => ?_, ?_⟩
      · obtain ⟨_, _, f2, f6, -⟩ := hfa
        replace f2 : sv 2 = _ := f2; (try dsimp only at f2); replace f6 : sv 6 = _ := f6; (try dsimp only at f6)
        refine ⟨by simp [Region.wanted, yielded, putsL, Act.put, f2, f6], ?_⟩
        simp only [putsL]
        change quietTo _ _ _ _ (Sem.run _ (execOp (Act.eval (Act.put (Act.put (Act.put (Act.put _ (some 30) (sv 6)) (some 26) (sv 2)) (some 25) (sv 1)) (some 24) (sv 0))) _) _)
        try simp only [Act.put, sIA, sCS, sCZ]
        simp [go_sem, quietTo, Ext.refl, f2, f6]
        all_goals first
          | rfl
      refine fac_quiet 8 rfl rfl rfl (fun _ _ h _ => h) rfl rfl ?_
      apply Exists.intro
      refine ⟨fun sv w' hw' hfa => ?_, ?_⟩
      · obtain ⟨_, _, f2, _, f7, -⟩ := hfa
        replace f2 : sv 2 = _ := f2; (try dsimp only at f2); replace f7 : sv 7 = _ := f7; (try dsimp only at f7)
        refine ⟨by simp [Region.wanted, yielded, putsL, Act.put, f2, f7], ?_⟩
        simp only [putsL]
        change quietTo _ _ _ _ (Sem.run _ (execOp (Act.eval (Act.put (Act.put (Act.put (Act.put (Act.put _ (some 31) (sv 7)) (some 30) (sv 6)) (some 26) (sv 2)) (some 25) (sv 1)) (some 24) (sv 0))) _) _)
        try simp only [Act.put, sIA, sCS, sCZ]
        simp [go_sem, quietTo, Ext.refl, f2, f7]
        all_goals first
          | rfl
      refine fac_quiet 9 rfl rfl rfl (fun _ _ h _ => h) rfl rfl ?_
      apply Exists.intro
      refine ⟨fun sv w' hw' hfa => ?_, ?_⟩
      · obtain ⟨_, _, f2, _, _, f8, -⟩ := hfa
        replace f2 : sv 2 = _ := f2; (try dsimp only at f2); replace f8 : sv 8 = _ := f8; (try dsimp only at f8)
        have hk9 := (Ext.refl W1).drew.trans hw'; obtain ⟨y1, -⟩ := (hB1.ext hk9).walk; obtain ⟨y2, -⟩ := (hD1.out.blk.ext hk9).walk; obtain ⟨y3, -⟩ := (hCw1.blk.ext hk9).walk; have y4 := (hk9.walk.1 _ _ hpb1).trans c4
        refine ⟨by simp [Region.wanted, yielded, putsL, Act.put, f2, f8], ?_⟩
        simp only [putsL]
        change quietTo _ _ _ _ (Sem.run _ (execOp (Act.eval (Act.put (Act.put (Act.put (Act.put (Act.put (Act.put _ (some 32) (sv 8)) (some 31) (sv 7)) (some 30) (sv 6)) (some 26) (sv 2)) (some 25) (sv 1)) (some 24) (sv 0))) _) _)
        try simp only [Act.put, sIA, sCS, sCZ]
        simp [go_sem, quietTo, Ext.refl, ↓IntWalk.iteOmega, f2, f8, y2]
        all_goals try simp (disch := omega) only [IntWalk.i64_in]
        all_goals first
          | rfl
      refine fac_quiet 10 rfl rfl rfl (fun _ _ h _ => h) rfl rfl ?_
      apply Exists.intro
      refine ⟨fun sv w' hw' hfa => ?_, ?_⟩
      · obtain ⟨_, _, f2, _, _, _, f9, -⟩ := hfa
        replace f2 : sv 2 = _ := f2; (try dsimp only at f2); replace f9 : sv 9 = _ := f9; (try dsimp only at f9)
        refine ⟨by simp [Region.wanted, yielded, putsL, Act.put, f2, f9], ?_⟩
        simp only [putsL]
        change quietTo _ _ _ _ (Sem.run _ (execOp (Act.eval (Act.put (Act.put (Act.put (Act.put (Act.put (Act.put (Act.put _ (some 33) (sv 9)) (some 32) (sv 8)) (some 31) (sv 7)) (some 30) (sv 6)) (some 26) (sv 2)) (some 25) (sv 1)) (some 24) (sv 0))) _) _)
        try simp only [Act.put, sIA, sCS, sCZ]
        simp [go_sem, quietTo, Ext.refl, f2, f9]
        all_goals first
          | rfl
      refine fac_quiet 11 rfl rfl rfl (fun _ _ h _ => h) rfl rfl ?_
      apply Exists.intro
      refine ⟨fun sv w' hw' hfa => ?_, ?_⟩
      · obtain ⟨_, _, f2, _, _, _, _, f10, -⟩ := hfa
        replace f2 : sv 2 = _ := f2; (try dsimp only at f2); replace f10 : sv 10 = _ := f10; (try dsimp only at f10)
        refine ⟨by simp [Region.wanted, yielded, putsL, Act.put, f2, f10], ?_⟩
        simp only [putsL]
        change quietTo _ _ _ _ (Sem.run _ (execOp (Act.eval (Act.put (Act.put (Act.put (Act.put (Act.put (Act.put (Act.put (Act.put _ (some 34) (sv 10)) (some 33) (sv 9)) (some 32) (sv 8)) (some 31) (sv 7)) (some 30) (sv 6)) (some 26) (sv 2)) (some 25) (sv 1)) (some 24) (sv 0))) _) _)
        try simp only [Act.put, sIA, sCS, sCZ]
        simp [go_sem, quietTo, Ext.refl, f2, f10]
        all_goals first
          | rfl
      refine fac_quiet 12 rfl rfl rfl (fun _ _ h _ => h) rfl rfl ?_
      apply Exists.intro
      refine ⟨fun sv w' hw' hfa => ?_, ?_⟩
      · obtain ⟨_, _, f2, _, _, _, _, _, f11, -⟩ := hfa
        replace f2 : sv 2 = _ := f2; (try dsimp only at f2); replace f11 : sv 11 = _ := f11; (try dsimp only at f11)
        have hk9 := (Ext.refl W1).drew.trans hw'; obtain ⟨y1, -⟩ := (hB1.ext hk9).walk; obtain ⟨y2, -⟩ := (hD1.out.blk.ext hk9).walk; obtain ⟨y3, -⟩ := (hCw1.blk.ext hk9).walk; have y4 := (hk9.walk.1 _ _ hpb1).trans c4
        refine ⟨by simp [Region.wanted, yielded, putsL, Act.put, f2, f11], ?_⟩
        simp only [putsL]
        change quietTo _ _ _ _ (Sem.run _ (execOp (Act.eval (Act.put (Act.put (Act.put (Act.put (Act.put (Act.put (Act.put (Act.put (Act.put _ (some 35) (sv 11)) (some 34) (sv 10)) (some 33) (sv 9)) (some 32) (sv 8)) (some 31) (sv 7)) (some 30) (sv 6)) (some 26) (sv 2)) (some 25) (sv 1)) (some 24) (sv 0))) _) _)
        try simp only [Act.put, sIA, sCS, sCZ]
        simp [go_sem, quietTo, Ext.refl, ↓IntWalk.iteOmega, f2, f11, y3]
        all_goals try simp (disch := omega) only [IntWalk.i64_in]
        all_goals first
          | rfl
      refine fac_quiet 13 rfl rfl rfl (fun _ _ h _ => h) rfl rfl ?_
      apply Exists.intro
      refine ⟨fun sv w' hw' hfa => ?_, ?_⟩
      · obtain ⟨_, _, f2, -⟩ := hfa
        replace f2 : sv 2 = _ := f2; (try dsimp only at f2)
        refine ⟨by simp [Region.wanted, yielded, putsL, Act.put, f2], ?_⟩
        simp only [putsL]
        change quietTo _ _ _ _ (Sem.run _ (execOp (Act.eval (Act.put (Act.put (Act.put _ (some 26) (sv 2)) (some 25) (sv 1)) (some 24) (sv 0))) _) _)
        try simp only [Act.put, sIA, sCS, sCZ]
        simp [go_sem, quietTo, Ext.refl, f2]
        all_goals first
          | rfl
      refine fac_quiet 14 rfl rfl rfl (fun _ _ h _ => h) rfl rfl ?_
      apply Exists.intro
      refine ⟨fun sv w' hw' hfa => ?_, ?_⟩
      · obtain ⟨_, _, f2, _, _, _, _, _, _, f12, f13, -⟩ := hfa
        replace f2 : sv 2 = _ := f2; (try dsimp only at f2); replace f12 : sv 12 = _ := f12; (try dsimp only at f12); replace f13 : sv 13 = _ := f13; (try dsimp only at f13)
        have hk9 := (Ext.refl W1).drew.trans hw'; obtain ⟨y1, -⟩ := (hB1.ext hk9).walk; obtain ⟨y2, -⟩ := (hD1.out.blk.ext hk9).walk; obtain ⟨y3, -⟩ := (hCw1.blk.ext hk9).walk; have y4 := (hk9.walk.1 _ _ hpb1).trans c4
        refine ⟨by simp [Region.wanted, yielded, putsL, Act.put, f2, f12, f13], ?_⟩
        simp only [putsL]
        change quietTo _ _ _ _ (Sem.run _ (execOp (Act.eval (Act.put (Act.put (Act.put (Act.put (Act.put (Act.put (Act.put (Act.put (Act.put (Act.put (Act.put _ (some 37) (sv 13)) (some 36) (sv 12)) (some 35) (sv 11)) (some 34) (sv 10)) (some 33) (sv 9)) (some 32) (sv 8)) (some 31) (sv 7)) (some 30) (sv 6)) (some 26) (sv 2)) (some 25) (sv 1)) (some 24) (sv 0))) _) _)
        try simp only [Act.put, sIA, sCS, sCZ]
        simp [go_sem, quietTo, Ext.refl, ↓IntWalk.iteOmega, f2, f12, f13, hpI]
        all_goals try simp (disch := omega) only [IntWalk.i64_in]
        all_goals first
          | rfl
      refine fac_quiet 15 rfl rfl rfl (fun _ _ h _ => h) rfl rfl ?_
      apply Exists.intro
      refine ⟨fun sv w' hw' hfa => ?_, ?_⟩
      · obtain ⟨_, _, f2, _, _, _, _, _, _, _, _, f14, -⟩ := hfa
        replace f2 : sv 2 = _ := f2; (try dsimp only at f2); replace f14 : sv 14 = _ := f14; (try dsimp only at f14)
        refine ⟨by simp [Region.wanted, yielded, putsL, Act.put, f2, f14], ?_⟩
        simp only [putsL]
        change quietTo _ _ _ _ (Sem.run _ (execOp (Act.eval (Act.put (Act.put (Act.put (Act.put (Act.put (Act.put (Act.put (Act.put (Act.put (Act.put (Act.put (Act.put _ (some 38) (sv 14)) (some 37) (sv 13)) (some 36) (sv 12)) (some 35) (sv 11)) (some 34) (sv 10)) (some 33) (sv 9)) (some 32) (sv 8)) (some 31) (sv 7)) (some 30) (sv 6)) (some 26) (sv 2)) (some 25) (sv 1)) (some 24) (sv 0))) _) _)
        try simp only [Act.put, sIA, sCS, sCZ]
        simp [go_sem, quietTo, Ext.refl, f2, f14]
        all_goals first
          | rfl
      refine fac_quiet 16 rfl rfl rfl (fun _ _ h _ => h) rfl rfl ?_
      apply Exists.intro
      refine ⟨fun sv w' hw' hfa => ?_, ?_⟩
      · obtain ⟨_, _, f2, _, _, _, _, _, _, _, _, _, f15, -⟩ := hfa
        replace f2 : sv 2 = _ := f2; (try dsimp only at f2); replace f15 : sv 15 = _ := f15; (try dsimp only at f15)
        have hk9 := (Ext.refl W1).drew.trans hw'; obtain ⟨y1, -⟩ := (hB1.ext hk9).walk; obtain ⟨y2, -⟩ := (hD1.out.blk.ext hk9).walk; obtain ⟨y3, -⟩ := (hCw1.blk.ext hk9).walk; have y4 := (hk9.walk.1 _ _ hpb1).trans c4
        refine ⟨by simp [Region.wanted, yielded, putsL, Act.put, f2, f15], ?_⟩
        simp only [putsL]
        change quietTo _ _ _ _ (Sem.run _ (execOp (Act.eval (Act.put (Act.put (Act.put (Act.put (Act.put (Act.put (Act.put (Act.put (Act.put (Act.put (Act.put (Act.put (Act.put _ (some 39) (sv 15)) (some 38) (sv 14)) (some 37) (sv 13)) (some 36) (sv 12)) (some 35) (sv 11)) (some 34) (sv 10)) (some 33) (sv 9)) (some 32) (sv 8)) (some 31) (sv 7)) (some 30) (sv 6)) (some 26) (sv 2)) (some 25) (sv 1)) (some 24) (sv 0))) _) _)
        try simp only [Act.put, sIA, sCS, sCZ]
        simp [go_sem, quietTo, Ext.refl, ↓IntWalk.iteOmega, f2, f15, y4]
        all_goals try simp (disch := omega) only [IntWalk.i64_in]
        all_goals first
          | rfl
      refine fac_quiet 17 rfl rfl rfl (fun _ _ h _ => h) rfl rfl ?_
      apply Exists.intro
      refine ⟨fun sv w' hw' hfa => ?_, ?_⟩
      · obtain ⟨_, _, f2, _, _, f5, _, _, _, _, _, _, _, _, _, _, f16, -⟩ := hfa
        replace f2 : sv 2 = _ := f2; (try dsimp only at f2); replace f5 : sv 5 = _ := f5; (try dsimp only at f5); replace f16 : sv 16 = _ := f16; (try dsimp only at f16)
        have hk9 := (Ext.refl W1).drew.trans hw'; obtain ⟨y1, -⟩ := (hB1.ext hk9).walk; obtain ⟨y2, -⟩ := (hD1.out.blk.ext hk9).walk; obtain ⟨y3, -⟩ := (hCw1.blk.ext hk9).walk; have y4 := (hk9.walk.1 _ _ hpb1).trans c4
        refine ⟨by simp [Region.wanted, yielded, putsL, Act.put, f2, f5, f16], ?_⟩
        simp only [putsL]
        change quietTo _ _ _ _ (Sem.run _ (execOp (Act.eval (Act.put (Act.put (Act.put (Act.put (Act.put (Act.put (Act.put (Act.put (Act.put (Act.put (Act.put (Act.put (Act.put (Act.put (Act.put (Act.put (Act.put _ (some 40) (sv 16)) (some 39) (sv 15)) (some 38) (sv 14)) (some 37) (sv 13)) (some 36) (sv 12)) (some 35) (sv 11)) (some 34) (sv 10)) (some 33) (sv 9)) (some 32) (sv 8)) (some 31) (sv 7)) (some 30) (sv 6)) (some 29) (sv 5)) (some 28) (sv 4)) (some 27) (sv 3)) (some 26) (sv 2)) (some 25) (sv 1)) (some 24) (sv 0))) _) _)
        try simp only [Act.put, sIA, sCS, sCZ]
        simp [go_sem, quietTo, Ext.refl, ↓IntWalk.iteOmega, f2, f5, f16, heq]
        all_goals try simp (disch := omega) only [IntWalk.i64_in]
        all_goals first
          | rfl
      refine fac_quiet 18 rfl rfl rfl (fun _ _ h _ => h) rfl rfl ?_
      apply Exists.intro
      refine ⟨fun sv w' hw' hfa => ?_, ?_⟩
      · obtain ⟨_, _, f2, _, _, _, _, _, _, _, _, _, _, _, _, _, _, f17, -⟩ := hfa
        replace f2 : sv 2 = _ := f2; (try dsimp only at f2); replace f17 : sv 17 = _ := f17; (try dsimp only at f17)
        refine ⟨rfl, ?_⟩
        simp only [putsL]
        change quietTo _ _ _ _ (Sem.run _ (execOp (Act.eval (Act.put (Act.put (Act.put (Act.put (Act.put (Act.put (Act.put (Act.put (Act.put (Act.put (Act.put (Act.put (Act.put (Act.put (Act.put (Act.put (Act.put (Act.put _ (some 41) (sv 17)) (some 40) (sv 16)) (some 39) (sv 15)) (some 38) (sv 14)) (some 37) (sv 13)) (some 36) (sv 12)) (some 35) (sv 11)) (some 34) (sv 10)) (some 33) (sv 9)) (some 32) (sv 8)) (some 31) (sv 7)) (some 30) (sv 6)) (some 29) (sv 5)) (some 28) (sv 4)) (some 27) (sv 3)) (some 26) (sv 2)) (some 25) (sv 1)) (some 24) (sv 0))) _) _)
        try simp only [Act.put, sIA, sCS, sCZ]
        simp [go_sem, quietTo, Ext.refl, ↓IntWalk.iteOmega, f2, f17]
        all_goals try simp (disch := omega) only [IntWalk.i64_in]
        all_goals first
          | rfl
      refine fac_nil fun xa wra hera hfra hcra holda hapa => ?_
      obtain ⟨f0, f1, f2, f3, f4, f5, f6, f7, f8, f9, f10, f11, f12, f13, f14, f15, f16, f17, f18, -⟩ := hfra
      replace f0 : xa 0 = _ := f0
      (try dsimp only at f0)
      replace f1 : xa 1 = _ := f1
      (try dsimp only at f1)
      replace f2 : xa 2 = _ := f2
      (try dsimp only at f2)
      replace f3 : xa 3 = _ := f3
      (try dsimp only at f3)
      replace f4 : xa 4 = _ := f4
      (try dsimp only at f4)
      replace f5 : xa 5 = _ := f5
      (try dsimp only at f5)
      replace f6 : xa 6 = _ := f6
      (try dsimp only at f6)
      replace f7 : xa 7 = _ := f7
      (try dsimp only at f7)
      replace f8 : xa 8 = _ := f8
      (try dsimp only at f8)
      replace f9 : xa 9 = _ := f9
      (try dsimp only at f9)
      replace f10 : xa 10 = _ := f10
      (try dsimp only at f10)
      replace f11 : xa 11 = _ := f11
      (try dsimp only at f11)
      replace f12 : xa 12 = _ := f12
      (try dsimp only at f12)
      replace f13 : xa 13 = _ := f13
      (try dsimp only at f13)
      replace f14 : xa 14 = _ := f14
      (try dsimp only at f14)
      replace f15 : xa 15 = _ := f15
      (try dsimp only at f15)
      replace f16 : xa 16 = _ := f16
      (try dsimp only at f16)
      replace f17 : xa 17 = _ := f17
      (try dsimp only at f17)
      replace f18 : xa 18 = _ := f18
      (try dsimp only at f18)
      change wpList _ _ _ _ (Act.put (Act.put (Act.put (Act.put (Act.put (Act.put (Act.put (Act.put (Act.put (Act.put (Act.put (Act.put (Act.put (Act.put (Act.put (Act.put (Act.put (Act.put (Act.put _ (some 24) (xa 0)) (some 25) (xa 1)) (some 26) (xa 2)) (some 27) (xa 3)) (some 28) (xa 4)) (some 29) (xa 5)) (some 30) (xa 6)) (some 31) (xa 7)) (some 32) (xa 8)) (some 33) (xa 9)) (some 34) (xa 10)) (some 35) (xa 11)) (some 36) (xa 12)) (some 37) (xa 13)) (some 38) (xa 14)) (some 39) (xa 15)) (some 40) (xa 16)) (some 41) (xa 17)) (some 42) (xa 18)) _
      simp only [putsL, Nat.reduceAdd, List.drop_succ_cons, List.drop_zero, List.drop_nil, Act.put, sIA, sCS, sCZ]
      try simp only [f0, f1, f2, f3, f4, f5, f6, f7, f8, f9, f10, f11, f12, f13, f14, f15, f16, f17, f18]
      clear f0 f1 f2 f3 f4 f5 f6 f7 f8 f9 f10 f11 f12 f13 f14 f15 f16 f17 f18; clear holda hapa
      have hE3 := (Ext.refl W1).drew.trans hera
      have hD3 := hD1.out.more hE3
      have hB3 := hB1.ext hE3
      have hf3 := hB3.set_ p (.int .i64 ((y : Int) + 1))
      have hEw := (hE1.out.trans hE3).setCell (p := ⟨gB, p, none⟩) (by rw [hgB.out]; exact Nat.le_refl _) (.int .i64 ((y : Int) + 1))
      have hD5 := hD0.out.more hEw
      have hK5 : Keeps gs _ _ := hEw.keeps
      have hB5 := hf3.cast hset.out
      obtain ⟨y1, y2⟩ := hB3.walk
      have hBl3 := hB3.lt
      replace hD5 := Lib.hid hD5; replace hB5 := Lib.hid hB5; clear hD1 hCw1 hD3 hE3 hEw hf3
      go_upto_region 5 with fail
      clear y1 y2 hBl3 hB3 hera
      generalize wra.setCell ⟨gB, p, none⟩ (.int .i64 ((y : Int) + 1)) = W5 at *
      obtain ⟨y1, -⟩ := hB5.out.walk
      have hBl5 := hB5.out.lt
      have hih : Calls Tryz.prog 29 #[.pointer (some ⟨db, 0, none⟩), .int .i64 ((i : Int) + 1), .agg #[.int .i64 a', .int .i64 b', .int .i64 c', .int .i64 d']] W5 (FromRes w0 W5 cb db bp bc gs P C (n + tF k) (fromF P (C.drop (i + 1)) [a', b', c', d'])) := ih.out [a', b', c', d'] n W5 hN'.out hn hD5.out
      have hfl := fromF_le (P := P) (C.drop (i + 1)) [a', b', c', d'] fun r hr x hx => (hCb.out r (List.mem_of_mem_drop hr) x hx).2
      have hfg := fromF_ge (P := P) (C.drop (i + 1)) [a', b', c', d']
      have hdl : (C.drop (i + 1)).length ≤ 24 := by rw [List.length_drop]; omega
      generalize fromF P (C.drop (i + 1)) [a', b', c', d'] = s at *
      replace hih := Lib.hid hih; clear hD5
      go_upto_if 54 with (go_at_call 29; (with_reducible refine Calls.mono hih.out ?_); rintro e w8 ⟨rfl, hD8, hK8⟩; replace hK8 := hK5.trans hK8; replace hD8 := Lib.hid hD8)
      by_cases hs : s = -1
      · subst hs
        have hr2 := hres.out
        rw [if_pos rfl] at hr2
        replace hr2 := Lib.hid hr2; clear hres
        go_wp2
        go_ret
        exact ⟨ret_int hr2.out.symm, hD8.out, hK8⟩
      · have hr2 := hres.out
        rw [if_neg hs] at hr2
        have hsb : (s == -1) = false := beq_false_of_ne hs
        replace hr2 := Lib.hid hr2; replace hs := Lib.hid hs; clear hres
        go_wp2
        go_ret
        exact ⟨ret_int hr2.out.symm, hD8.out, hK8⟩
end Go.Proofs.YtdehmioobkneiaaGreatDoor
