/- A melody whose steps are those of a scale does not drift from it: the property answers true. Conditions: the argument is a list of ints that lies in memory; the table of the powers of ten stands. -/
import Derived.Test.YtapjekpjekdlkaaGreatDoorRTsA
import Derived.Test.YtapjekpjekdlkaaGreatDoorRTsC
import Derived.Test.YtapjekpjekdlkaaGreatDoorRMeH
import Derived.Test.YtapjekpjekdlkaaGreatDoorRJ45
import Derived.Test.YtapjekpjekdlkaaGreatDoorRJ47
import Derived.Outline
import Derived.Deep.CutBlock
set_option linter.unusedSimpArgs false
set_option linter.unusedVariables false
namespace Go.Proofs.YtapjekpjekdlkaaGreatDoor
open Go Go.RowKit

theorem slc_chT {w : World} {p : Option Addr} {n c : Nat} {H : List Nat} (h : Slc 1 chC w p n c H) : Slc 1 intC w p n c (noteZ H) := by
  obtain ⟨⟨h1, h2, h3⟩, h4⟩ := h
  refine ⟨⟨by unfold noteZ; rw [List.length_map]; exact h1, h2, fun hn => ?_⟩, h4⟩
  obtain ⟨b, off, e, hb, hE⟩ := h3 hn
  refine ⟨b, off, e, hb, fun i x hx j v hv => ?_⟩
  unfold noteZ at hx
  rw [List.getElem?_map] at hx
  obtain ⟨k, hk, rfl⟩ := Option.map_eq_some_iff.1 hx
  exact hE i k hk j v hv
theorem StG.offInt {w : World} {base b n c m : Nat} {v : Value} {R : List StpR} {X : List StepV} {xs : List Value} (h : StG w base v R X) (ho : w.ownsRow base 3 1 (.slice (some ⟨b, 0, none⟩) n c) m xs) : (Value.slice (some ⟨b, 0, none⟩) n c).ownBlock = none ∨ (Value.slice (some ⟨b, 0, none⟩) n c).ownBlock ≠ v.ownBlock := by
  obtain ⟨cb, hB⟩ := own_blk ho
  exact .inr fun e => own_no h.own hB (by decide) e.symm
theorem fault_two (q : I4) : (faultI q = 0 ∧ rightB q = true ∧ okI q = q) ∨ faultI q = 1 := by
  unfold faultI okI
  cases rightB q
  · exact .inr rfl
  · exact .inl ⟨rfl, rfl, rfl⟩

set_option maxRecDepth 100000 in
set_option maxHeartbeats 25600000 in
theorem lawTM_any (B : Nat) (w : World) (p : Option Addr) (n c : Nat) (h : Lst w w.heap.size p n) (ht : Tab B w) :
    Calls Tryz.prog 3 #[.slice p n c] w fun e w' => e = .returned (.bool true) ∧ Ext w w' := by
  have hS0 : Str (w.alloc (.cells #[.slice p n c, .int .i64 0] 25)) w.heap.size 0 := ⟨p, n, c, 0, Nat.le_refl _, Blk.new' rfl, h.low fun j hj => Below.heap_alloc w _ j hj⟩
  clear h
  have hback : ∀ u, ExtS w.heap.size (w.alloc (.cells #[.slice p n c, .int .i64 0] 25)) u → Ext w u := fun u hu => ExtS.back ((Ext.refl w).alloc _) (by simp) hu
  have hX0 := ExtS.refl w.heap.size (w.alloc (.cells #[.slice p n c, .int .i64 0] 25))
  have hsz0 : (w.alloc (.cells #[.slice p n c, .int .i64 0] 25)).heap.size = w.heap.size + 1 := by simp
  go_enter Tryz.func3, Tryz.ntmps3
  go_upto_region 2 with fail
  generalize (w.alloc (.cells #[.slice p n c, .int .i64 0] 25)) = W0 at hback hX0 hsz0 hS0 ⊢
  go_upto_region 3 with (first
    | (go_at_call 4; go_loud ((with_reducible refine Calls.mono (rightScale_any w.heap.size 0 _ (by omega) hS0) ?_); rintro e w1 ⟨xs, hok, rfl, hS1, hE1⟩; have hi := sc_info hok.len; have ho := sc_one xs; have hs := sc_same (show zeroL.length = 12 from rfl) hok.len; have hX1 := hX0.trans hE1; replace hok := Lib.hid hok; clear hX0 hE1))
    | (go_at_call 5; go_loud ((with_reducible refine Calls.mono (range_any w.heap.size (0 + 180) 3 8 _ (by omega) (by omega) (by omega) (by omega) (by omega) hS1) ?_); rintro e w2 ⟨v, rfl, hv0, hv1, hS2, hE2⟩; obtain ⟨q, rfl⟩ : ∃ q : Nat, v = q := ⟨v.toNat, by omega⟩; have hX2 := hX1.trans hE2; clear hX1 hE2 hS1))
    | (refine wpList_store_row rfl 29 _ _ rfl w2.heap.size (sc xs) rfl rfl 29 _ (heap_alloc_new w2 _) hi hs ho ?_))
  have hs2 := hX2.2.2.2.1
  have hg2 : w.heap.size < w2.heap.size := hS2.lt
  obtain ⟨W, hW⟩ : ∃ W, W = (w2.alloc (.cells (sc zeroL) 29)).setRow w2.heap.size (sc xs) := ⟨_, rfl⟩
  have hG : Blk W w2.heap.size 29 (sc xs) := hW ▸ setRow_blk (heap_alloc_new w2 _)
  have hS : Str W w.heap.size 181 := hW ▸ (hS2.ext (Ext.alloc (Ext.refl _) _)).setRow (by omega) _
  have hX : ExtS w.heap.size W0 W := hW ▸ (hX2.alloc _).setRow (by omega)
  change Code.wp _ _ _ _ ((w2.alloc (.cells (sc zeroL) 29)).setRow w2.heap.size (sc xs))
  rw [← hW]
  clear hW hS2 hX2 hs
  have hgl := hG.lt
  generalize w2.heap.size = gS at *
  have hq8 : q ≤ 8 := by omega
  obtain ⟨b0, hb0⟩ : ∃ b0 : Nat, b0 = q * 12 := ⟨_, rfl⟩
  have hbz : (q : Int) * 12 = (b0 : Int) := by omega
  have hb96 : b0 ≤ 96 := by omega
  rw [hbz]
  clear hbz
  replace hb0 := Lib.hid hb0
  have hEn : Ext W (W.alloc (.cells #[.int .i64 (b0 : Int)] 3)) := (Ext.refl _).alloc _
  have hN0 : (W.alloc (.cells #[.int .i64 (b0 : Int)] 3)).ownsRow W.heap.size 3 1 (.slice (some ⟨W.heap.size, 0, none⟩) 1 1) 1 (([b0] : List Nat).flatMap chC) :=
    ⟨rfl, .inr ⟨W.heap.size, 1, _, rfl, Nat.le_refl _, (Blk.new' rfl : Blk _ _ 3 #[.int .i64 (b0 : Int)]), Nat.le_refl _, by decide, rfl, rfl⟩⟩
  have hgz : w.heap.size < W.heap.size := hS.lt
  go_upto_region 5 with fail
  have hS1 := hS.ext hEn
  have hG1 := hG.ext hEn
  have hX1 : ExtS w.heap.size W0 (W.alloc (.cells #[.int .i64 (b0 : Int)] 3)) := hX.alloc _
  clear hS hG hX
  generalize W.alloc (.cells #[.int .i64 (b0 : Int)] 3) = W1 at *
  generalize hzd : W.heap.size = z at *
  have hzW1 : z ≤ W1.heap.size := by rw [← hzd]; exact hEn.size
  clear hEn hzd
  have hE11 := ExtS.refl w.heap.size W1
  replace hN0 := Lib.hid hN0
  go_upto_region 6 with (go_at_call 5; go_loud ((with_reducible refine Calls.mono (range_any w.heap.size 181 0 5 _ (by omega) (by omega) (by omega) (by omega) (by omega) hS1) ?_); rintro e w3 ⟨v, rfl, hr0, hr5, hS2, hE3⟩; obtain ⟨r, rfl⟩ : ∃ r : Nat, v = r := ⟨v.toNat, by omega⟩))
  have hG2 := hG1.extS (show gS ≠ w.heap.size by omega) hE3
  have hX2 := hX1.trans hE3
  have hN2 := Lib.hid (own_extS hE3 hgz hN0.out)
  have hzw3 : z ≤ w3.heap.size := Nat.le_trans hzW1 hE3.2.2.2.1
  have hM0 := Lib.hid (ScM.start xs q)
  clear hS1 hG1 hX1 hN0 hE3 hE11 hzW1
  generalize w3 = W3 at *
  go_loopw [6, 7, 31] (fun v6 v7 v31 wr => ∃ (j : Nat) (N : List Nat) (X : List StepV) (R : List StpR), v31 = .int .i64 (j : Int) ∧ j ≤ r ∧ N.length = j + 1 ∧ wr.ownsRow z 3 1 v6 N.length (N.flatMap chC) ∧ StG wr z v7 R X ∧ ScM xs q N X ∧ Blk wr gS 29 (sc xs) ∧ Str wr w.heap.size (182 + j) ∧ ExtS w.heap.size W0 wr ∧ z ≤ wr.heap.size) (fun _ _ v31 _ => r - (intOf v31).toNat)
  case atStart => exact ⟨0, [b0], [], [], rfl, Nat.zero_le _, rfl, hN2.out, StG.nil _ _, by rw [hb0.out]; exact hM0.out, hG2, hS2, hX2, hzw3⟩
  case round =>
    clear hG2 hS2 hX2 hN2 hM0 hzw3
    obtain ⟨j, N, X, R, rfl, hj, hNl, hown, hSt, hM, hGr, hSr, hXr, hzr⟩ := hrel
    by_cases hlt : j < r
    · have hltI : (j : Int) < r := by omega
      obtain ⟨p7, c7, rfl, -⟩ := hSt.stpM (by have := hM.few; omega) (fun x hx => by have := (hM.ch x hx).2.1; omega)
      rw [hNl] at hown
      obtain ⟨g6, cap, e6, hg6, -⟩ := hown.form (by omega)
      subst e6
      obtain ⟨l, hl⟩ := getD_some hNl (show j < j + 1 by omega)
      have hlast : N[N.length - 1]? = some l := by rw [hNl]; exact hl
      have hlr := hM.range l (List.mem_of_getElem? hl)
      have hl127 : l ≤ 127 := by omega
      have hgS := hGr.lt
      replace hlr := Lib.hid hlr
      replace hM := Lib.hid hM
      replace hSt := Lib.hid hSt
      replace hown := Lib.hid hown
      replace hlast := Lib.hid hlast
      replace hl := Lib.hid hl
      go_upto_region 8 with (go_at_call 6; go_loud ((with_reducible refine Calls.mono (next_any w.heap.size (182 + j) 12 _ (by omega) (by omega) (by omega) hSr) ?_); rintro e w4 ⟨v, rfl, hv12, hS4, hE4⟩))
      have hown4 := own_extS hE4 hgz hown.out
      have hSt4 := Lib.hid (hSt.out.extS hgz hE4)
      have hG4 := hGr.extS (show gS ≠ w.heap.size by omega) hE4
      have hX4 := hXr.trans hE4
      have hz4 := Nat.le_trans hzr hE4.2.2.2.1
      have c1 : w4.cell? ⟨g6, j, none⟩ = some (.int .i64 (l : Int)) := by
        have := own_cell chC_len hown4 hl.out 0 (v := .int .i64 (l : Int)) rfl (by omega)
        simpa using this
      have l6 := (hown4.lt g6 rfl).2
      have hjI : (j : Int) < (j : Int) + 1 := by omega
      obtain ⟨nn, hnn⟩ : ∃ nn : Nat, nn = b0 + v := ⟨_, rfl⟩
      have hnnI : (b0 : Int) + (v : Int) = (nn : Int) := by omega
      rw [hnnI]
      have hnr : q * 12 ≤ nn ∧ nn ≤ q * 12 + 11 := by have := hb0.out; omega
      have hn127 : nn ≤ 127 := by omega
      replace hnr := Lib.hid hnr
      replace hnn := Lib.hid hnn
      obtain ⟨K, hK⟩ : ∃ K, okI (bt xs l nn) = K := ⟨_, rfl⟩
      obtain ⟨f9, hf9⟩ : ∃ f, faultI (bt xs l nn) = f := ⟨_, rfl⟩
      have hbw : ∀ u, Calls Tryz.prog 7 #[.agg (sc xs), .int .i64 (l : Int), .int .i64 (nn : Int)] u fun e w' => e = .returned (.tuple #[.agg #[.int .i64 K.a, .int .i64 K.b, .int .i64 K.c, .int .i64 K.d], .int .i64 f9]) ∧ Ext u w' := fun u => by
        have h9 := betw_any xs l nn _ _ u hok.out hl127 hn127 (sc_at hok.out l) (sc_at hok.out nn)
        change Calls _ _ _ _ (fun e w' => e = .returned (.tuple #[.agg #[.int .i64 (okI (bt xs l nn)).a, .int .i64 (okI (bt xs l nn)).b, .int .i64 (okI (bt xs l nn)).c, .int .i64 (okI (bt xs l nn)).d], .int .i64 (faultI (bt xs l nn))]) ∧ Ext u w') at h9
        rw [hK, hf9] at h9
        exact h9
      have htwo := fault_two (bt xs l nn)
      rw [hK, hf9] at htwo
      replace hbw := Lib.hid hbw
      replace hown4 := Lib.hid hown4
      clear hnnI hSt hown hGr hSr hXr hE4 hK hf9
      clear hzr
      rcases htwo with ⟨rfl, hir, rfl⟩ | rfl
      · obtain ⟨iv, hiv⟩ : ∃ iv, bt xs l nn = iv := ⟨_, rfl⟩
        rw [hiv] at hbw hir
        refine wp_region_facts [11] [([], false, false), ([], false, false), ([], false, false), ([2], false, false), ([2, 3], false, false), ([1, 2, 3, 4], false, false), ([1, 2, 3, 4, 5], false, false), ([], false, false), ([0, 1, 2, 3, 4, 5, 6, 7], false, false), ([0, 1, 2, 3, 4, 5, 6, 7, 8], false, false), ([0, 1, 2, 3, 4, 5, 6, 7, 8, 9], false, false), ([0, 1, 2, 3, 4, 5, 6, 7, 8, 9], false, false), ([], false, true)] (Ext) Ext (fun _ => True) (by kernel_rfl) (by kernel_rfl) Ext.refl (fun _ _ _ => Ext.trans) (fun _ _ h => h) (fun _ _ h => h.size) (fun _ _ h _ => h) trivial ?_
        dsimp only [List.length_cons, List.length_nil, List.drop_succ_cons, List.drop_zero, List.drop_nil]
        refine fac_quiet 0 rfl rfl rfl (fun _ _ h _ => h) rfl rfl ?_
        apply Exists.intro
        refine ⟨fun sv w' hw' hfa => ?_, ?_⟩
        · have hk9 := (Ext.refl w4).drew.trans hw'; have z1 := (hk9.walk.1 _ _ l6).trans c1
          refine ⟨rfl, ?_⟩
          simp only [putsL]
          change quietTo _ _ _ _ (Sem.run _ (execOp (Act.eval _) _) _)
          rw [exec_load_row 29 (.tmp 4) rfl gS rfl 29 (sc xs) (0, 0) _ (hG4.ext ((Ext.refl w4).drew.trans hw')) Tryz.underlying29 rfl hi]
          simp [quietTo, Ext.refl]
          all_goals rfl
        refine fac_quiet 1 rfl rfl rfl (fun _ _ h _ => h) rfl rfl ?_
        apply Exists.intro
        refine ⟨fun sv w' hw' hfa => ?_, ?_⟩
        · refine ⟨rfl, ?_⟩
          simp only [putsL]
          change quietTo _ _ _ _ (Sem.run _ (execOp (Act.eval _) _) _)
          try simp only [Act.put, List.setIfInBounds_toArray, List.set_cons_succ, List.set_cons_zero]
          simp [go_sem, quietTo, Ext.refl]
          all_goals first
            | rfl
        refine fac_quiet 2 rfl rfl rfl (fun _ _ h _ => h) rfl rfl ?_
        apply Exists.intro
        refine ⟨fun sv w' hw' hfa => ?_, ?_⟩
        · refine ⟨rfl, ?_⟩
          simp only [putsL]
          change quietTo _ _ _ _ (Sem.run _ (execOp (Act.eval _) _) _)
          try simp only [Act.put, List.setIfInBounds_toArray, List.set_cons_succ, List.set_cons_zero]
          simp [go_sem, quietTo, Ext.refl]
          all_goals first
            | rfl
        refine fac_quiet 3 rfl rfl rfl (fun _ _ h _ => h) rfl rfl ?_
        apply Exists.intro
        refine ⟨fun sv w' hw' hfa => ?_, ?_⟩
        · obtain ⟨f2, -⟩ := hfa
          replace f2 : sv 2 = _ := f2
          try dsimp only at f2
          refine ⟨rfl, ?_⟩
          simp only [putsL]
          change quietTo _ _ _ _ (Sem.run _ (execOp (Act.eval (Act.put _ (some 40) (sv 2))) _) _)
          try simp only [Act.put, List.setIfInBounds_toArray, List.set_cons_succ, List.set_cons_zero]
          simp [go_sem, quietTo, Ext.refl, ↓IntWalk.iteOmega, f2]
          all_goals try simp (disch := omega) only [IntWalk.i64_in]
          all_goals first
            | rfl
        refine fac_quiet 4 rfl rfl rfl (fun _ _ h _ => h) rfl rfl ?_
        apply Exists.intro
        refine ⟨fun sv w' hw' hfa => ?_, ?_⟩
        · obtain ⟨_, f3, -⟩ := hfa
          replace f3 : sv 3 = _ := f3
          try dsimp only at f3
          refine ⟨rfl, ?_⟩
          simp only [putsL]
          change quietTo _ _ _ _ (Sem.run _ (execOp (Act.eval (Act.put (Act.put _ (some 41) (sv 3)) (some 40) (sv 2))) _) _)
          try simp only [Act.put, List.setIfInBounds_toArray, List.set_cons_succ, List.set_cons_zero]
          simp [go_sem, quietTo, Ext.refl, ↓IntWalk.iteOmega, f3]
          all_goals try simp (disch := omega) only [IntWalk.i64_in]
          all_goals first
            | rfl
        refine fac_quiet 5 rfl rfl rfl (fun _ _ h _ => h) rfl rfl ?_
        apply Exists.intro
        refine ⟨fun sv w' hw' hfa => ?_, ?_⟩
        · obtain ⟨f1, _, _, f4, -⟩ := hfa
          replace f1 : sv 1 = _ := f1
          try dsimp only at f1
          replace f4 : sv 4 = _ := f4
          try dsimp only at f4
          have hk9 := (Ext.refl w4).drew.trans hw'; have z1 := (hk9.walk.1 _ _ l6).trans c1
          refine ⟨rfl, ?_⟩
          simp only [putsL]
          change quietTo _ _ _ _ (Sem.run _ (execOp (Act.eval (Act.put (Act.put (Act.put (Act.put _ (some 42) (sv 4)) (some 41) (sv 3)) (some 40) (sv 2)) (some 39) (sv 1))) _) _)
          try simp only [Act.put, List.setIfInBounds_toArray, List.set_cons_succ, List.set_cons_zero]
          simp [go_sem, quietTo, Ext.refl, ↓IntWalk.iteOmega, f1, f4, hjI]
          all_goals try simp (disch := omega) only [IntWalk.i64_in]
          all_goals first
            | rfl
        refine fac_quiet 6 rfl rfl rfl (fun _ _ h _ => h) rfl rfl ?_
        apply Exists.intro
        refine ⟨fun sv w' hw' hfa => ?_, ?_⟩
        · obtain ⟨_, _, _, _, f5, -⟩ := hfa
          replace f5 : sv 5 = _ := f5
          try dsimp only at f5
          have hk9 := (Ext.refl w4).drew.trans hw'; have z1 := (hk9.walk.1 _ _ l6).trans c1
          refine ⟨rfl, ?_⟩
          simp only [putsL]
          change quietTo _ _ _ _ (Sem.run _ (execOp (Act.eval (Act.put (Act.put (Act.put (Act.put (Act.put _ (some 43) (sv 5)) (some 42) (sv 4)) (some 41) (sv 3)) (some 40) (sv 2)) (some 39) (sv 1))) _) _)
          try simp only [Act.put, List.setIfInBounds_toArray, List.set_cons_succ, List.set_cons_zero]
          simp [go_sem, quietTo, Ext.refl, ↓IntWalk.iteOmega, f5, z1]
          all_goals try simp (disch := omega) only [IntWalk.i64_in]
          all_goals first
            | rfl
        refine fac_quiet 7 rfl rfl rfl (fun _ _ h _ => h) rfl rfl ?_
        apply Exists.intro
        refine ⟨fun sv w' hw' hfa => ?_, ?_⟩
        · refine ⟨rfl, ?_⟩
          simp only [putsL]
          change quietTo _ _ _ _ (Sem.run _ (execOp (Act.eval _) _) _)
          try simp only [Act.put, List.setIfInBounds_toArray, List.set_cons_succ, List.set_cons_zero]
          simp [go_sem, quietTo, Ext.refl]
          all_goals first
            | rfl
        refine fac_quiet 8 rfl rfl rfl (fun _ _ h _ => h) rfl rfl ?_
        apply Exists.intro
        refine ⟨fun sv w' hw' hfa => ?_, ?_⟩
        · obtain ⟨f0, f1, f2, f3, f4, f5, f6, f7, -⟩ := hfa
          replace f0 : sv 0 = _ := f0
          try dsimp only at f0
          replace f1 : sv 1 = _ := f1
          try dsimp only at f1
          replace f2 : sv 2 = _ := f2
          try dsimp only at f2
          replace f3 : sv 3 = _ := f3
          try dsimp only at f3
          replace f4 : sv 4 = _ := f4
          try dsimp only at f4
          replace f5 : sv 5 = _ := f5
          try dsimp only at f5
          replace f6 : sv 6 = _ := f6
          try dsimp only at f6
          replace f7 : sv 7 = _ := f7
          try dsimp only at f7
          have hk9 := (Ext.refl w4).drew.trans hw'; have z1 := (hk9.walk.1 _ _ l6).trans c1
          refine ⟨rfl, ?_⟩
          simp only [putsL]
          change quietTo _ _ _ _ (Sem.run _ (execOp (Act.eval (Act.put (Act.put (Act.put (Act.put (Act.put (Act.put (Act.put (Act.put _ (some 45) (sv 7)) (some 44) (sv 6)) (some 43) (sv 5)) (some 42) (sv 4)) (some 41) (sv 3)) (some 40) (sv 2)) (some 39) (sv 1)) (some 38) (sv 0))) _) _)
          try simp only [Act.put, List.setIfInBounds_toArray, List.set_cons_succ, List.set_cons_zero]
          simp [go_sem, quietTo, Ext.refl, ↓IntWalk.iteOmega, f0, f6, f7]
          all_goals try simp (disch := omega) only [IntWalk.i64_in]
          all_goals first
            | rfl
            | (exact hbw.out _)
        refine fac_quiet 9 rfl rfl rfl (fun _ _ h _ => h) rfl rfl ?_
        apply Exists.intro
        refine ⟨fun sv w' hw' hfa => ?_, ?_⟩
        · obtain ⟨_, _, _, _, _, _, _, _, f8, -⟩ := hfa
          replace f8 : sv 8 = _ := f8
          try dsimp only at f8
          refine ⟨rfl, ?_⟩
          simp only [putsL]
          change quietTo _ _ _ _ (Sem.run _ (execOp (Act.eval (Act.put (Act.put (Act.put (Act.put (Act.put (Act.put (Act.put (Act.put (Act.put _ (some 46) (sv 8)) (some 45) (sv 7)) (some 44) (sv 6)) (some 43) (sv 5)) (some 42) (sv 4)) (some 41) (sv 3)) (some 40) (sv 2)) (some 39) (sv 1)) (some 38) (sv 0))) _) _)
          try simp only [Act.put, List.setIfInBounds_toArray, List.set_cons_succ, List.set_cons_zero]
          simp [go_sem, quietTo, Ext.refl, f8]
          all_goals first
            | rfl
        refine fac_quiet 10 rfl rfl rfl (fun _ _ h _ => h) rfl rfl ?_
        apply Exists.intro
        refine ⟨fun sv w' hw' hfa => ?_, ?_⟩
        · obtain ⟨_, _, _, _, _, _, _, _, _, f9, -⟩ := hfa
          replace f9 : sv 9 = _ := f9
          try dsimp only at f9
          refine ⟨rfl, ?_⟩
          simp only [putsL]
          change quietTo _ _ _ _ (Sem.run _ (execOp (Act.eval (Act.put (Act.put (Act.put (Act.put (Act.put (Act.put (Act.put (Act.put (Act.put (Act.put _ (some 37) (sv 9)) (some 46) (sv 8)) (some 45) (sv 7)) (some 44) (sv 6)) (some 43) (sv 5)) (some 42) (sv 4)) (some 41) (sv 3)) (some 40) (sv 2)) (some 39) (sv 1)) (some 38) (sv 0))) _) _)
          try simp only [Act.put, List.setIfInBounds_toArray, List.set_cons_succ, List.set_cons_zero]
          simp [go_sem, quietTo, Ext.refl, f9]
          all_goals first
            | rfl
        refine fac_late 11 rfl rfl Ext.refl (fun _ _ h _ => h) rfl rfl (fun _ _ _ _ h => h) ?_
        apply Exists.intro
        refine ⟨fun sv w' hw' hfa => ?_, ?_⟩
        · obtain ⟨_, _, _, _, _, _, _, _, _, f9, -⟩ := hfa
          replace f9 : sv 9 = _ := f9
          try dsimp only at f9
          refine ⟨rfl, fun w2 => ?_⟩
          simp only [putsL]
          change pureTo _ _ (Sem.run _ (execOp (Act.eval (Act.put (Act.put (Act.put (Act.put (Act.put (Act.put (Act.put (Act.put (Act.put (Act.put _ (some 37) (sv 9)) (some 46) (sv 8)) (some 45) (sv 7)) (some 44) (sv 6)) (some 43) (sv 5)) (some 42) (sv 4)) (some 41) (sv 3)) (some 40) (sv 2)) (some 39) (sv 1)) (some 38) (sv 0))) _) _)
          try simp only [Act.put, List.setIfInBounds_toArray, List.set_cons_succ, List.set_cons_zero]
          simp [go_sem, pureTo, f9]
          all_goals try simp (disch := omega) only [IntWalk.i64_in]
          all_goals first
            | rfl
        refine fac_box 12 rfl rfl rfl (fun _ _ h _ => h) (fun _ _ h => h.size) (fun _ _ _ _ _ he _ hb => hb.ext he) ?_
        apply Exists.intro
        apply Exists.intro
        refine ⟨fun sv w' hw' hfa => ?_, ?_⟩
        · refine ⟨rfl, ?_⟩
          simp only [putsL]
          change boxTo _ _ _ (Sem.run _ (execOp (Act.eval _) _) _)
          try simp only [Act.put, List.setIfInBounds_toArray, List.set_cons_succ, List.set_cons_zero]
          simp [go_sem, boxTo, Ext.refl]
          all_goals try simp (disch := omega) only [IntWalk.i64_in]
          all_goals first
            | rfl
            | exact ⟨rfl, rfl⟩
            | exact ⟨⟨rfl, rfl⟩, rfl⟩
        refine fac_nil fun xq wrq herq hfrq hcrq holdq hapq => ?_
        obtain ⟨f0, f1, f2, f3, f4, f5, f6, f7, f8, f9, f10, f11, f12, -⟩ := hfrq
        replace f0 : xq 0 = _ := f0
        try dsimp only at f0
        replace f1 : xq 1 = _ := f1
        try dsimp only at f1
        replace f2 : xq 2 = _ := f2
        try dsimp only at f2
        replace f3 : xq 3 = _ := f3
        try dsimp only at f3
        replace f4 : xq 4 = _ := f4
        try dsimp only at f4
        replace f5 : xq 5 = _ := f5
        try dsimp only at f5
        replace f6 : xq 6 = _ := f6
        try dsimp only at f6
        replace f7 : xq 7 = _ := f7
        try dsimp only at f7
        replace f8 : xq 8 = _ := f8
        try dsimp only at f8
        replace f9 : xq 9 = _ := f9
        try dsimp only at f9
        replace f10 : xq 10 = _ := f10
        try dsimp only at f10
        replace f11 : xq 11 = _ := f11
        try dsimp only at f11
        obtain ⟨g12, f12, l12, b12⟩ := f12
        replace f12 : xq 12 = _ := f12
        obtain ⟨p12, q12⟩ := b12.walk
        change wpList _ _ _ _ (Act.put (Act.put (Act.put (Act.put (Act.put (Act.put (Act.put (Act.put (Act.put (Act.put (Act.put (Act.put (Act.put _ (some 38) (xq 0)) (some 39) (xq 1)) (some 40) (xq 2)) (some 41) (xq 3)) (some 42) (xq 4)) (some 43) (xq 5)) (some 44) (xq 6)) (some 45) (xq 7)) (some 46) (xq 8)) (some 37) (xq 9)) (some 47) (xq 10)) (some 48) (xq 11)) (some 9) (xq 12)) _
        simp only [putsL, Nat.reduceAdd, List.drop_succ_cons, List.drop_zero, List.drop_nil, Act.put, List.setIfInBounds_toArray, List.set_cons_succ, List.set_cons_zero]
        try simp only [f0, f1, f2, f3, f4, f5, f6, f7, f8, f9, f10, f11, f12]
        clear f0 f1 f2 f3 f4 f5 f6 f7 f8 f9 f10 f11
        clear holdq hapq
        have hkq := (Ext.refl w4).drew.trans herq
        have hgw : w4.heap.size ≤ g12 := l12
        go_upto_region 9 with fail
        have hI5 : Blk ((((wrq.setCell ⟨g12, 0, none⟩ (.int .i64 iv.a)).setCell ⟨g12, 1, none⟩ (.int .i64 iv.b)).setCell ⟨g12, 2, none⟩ (.int .i64 iv.c)).setCell ⟨g12, 3, none⟩ (.int .i64 iv.d)) g12 27 #[.int .i64 iv.a, .int .i64 iv.b, .int .i64 iv.c, .int .i64 iv.d] := ((((b12.set_ 0 (.int .i64 iv.a)).set_ 1 (.int .i64 iv.b)).set_ 2 (.int .i64 iv.c)).set_ 3 (.int .i64 iv.d)).cast (by simp)
        have hE5 : Ext w4 ((((wrq.setCell ⟨g12, 0, none⟩ (.int .i64 iv.a)).setCell ⟨g12, 1, none⟩ (.int .i64 iv.b)).setCell ⟨g12, 2, none⟩ (.int .i64 iv.c)).setCell ⟨g12, 3, none⟩ (.int .i64 iv.d)) := (((hkq.setCell (p := ⟨g12, 0, none⟩) hgw _).setCell (p := ⟨g12, 1, none⟩) hgw _).setCell (p := ⟨g12, 2, none⟩) hgw _).setCell (p := ⟨g12, 3, none⟩) hgw _
        clear p12 q12 b12 herq hkq
        generalize ((((wrq.setCell ⟨g12, 0, none⟩ (.int .i64 iv.a)).setCell ⟨g12, 1, none⟩ (.int .i64 iv.b)).setCell ⟨g12, 2, none⟩ (.int .i64 iv.c)).setCell ⟨g12, 3, none⟩ (.int .i64 iv.d)) = w5 at *
        have hown5 := own_ext hE5 hown4.out
        have hSt5 := hSt4.out.ext hE5
        have hG5 := hG4.ext hE5
        have hS5 := hS4.ext hE5
        have hX5 := hX4.trans hE5.extS
        have hz5 := Nat.le_trans hz4 hE5.size
        have c5 : w5.cell? ⟨g6, j, none⟩ = some (.int .i64 (l : Int)) := by
          have := own_cell chC_len hown5 hl.out 0 (v := .int .i64 (l : Int)) rfl (by omega)
          simpa using this
        have l56 := (hown5.lt g6 rfl).2
        have lt12 := hI5.lt
        have hED : Ext w5 (w5.alloc (.cells #[.int .i64 ((nn : Int) - (l : Int))] 3)) := (Ext.refl _).alloc _
        have hD6 : Blk (w5.alloc (.cells #[.int .i64 ((nn : Int) - (l : Int))] 3)) w5.heap.size 3 #[.int .i64 ((nn : Int) - (l : Int))] := Blk.new' rfl
        replace hSt5 := Lib.hid hSt5
        replace hown5 := Lib.hid hown5
        clear hown4 hSt4 hG4 hS4 hX4 hz4 hE5 l6 c1
        go_upto_region 12 with fail
        have hown6 := Lib.hid (own_ext hED hown5.out)
        have hSt6 := hSt5.out.ext hED
        have hG6 := hG5.ext hED
        have hS6 := hS5.ext hED
        have hX6 := hX5.trans hED.extS
        have hz6 := Nat.le_trans hz5 hED.size
        have hI6 := hI5.ext hED
        clear hown5 hSt5 hG5 hS5 hX5 hz5 hI5 hED c5 l56 lt12
        generalize w5.alloc (.cells #[.int .i64 ((nn : Int) - (l : Int))] 3) = w6 at *
        generalize w5.heap.size = gD at *
        have hXl := hM.out.few
        rw [hNl] at hXl
        obtain ⟨p7', c7', e7, hXM⟩ := hSt6.stpM (by omega) (fun x hx => by have := (hM.out.ch x hx).2.1; omega)
        cases e7
        have hidx := geIdx_any hXM (by omega) ((nn : Int) - l) (gePred hD6) (enters_of Tryz.func10 (by kernel_rfl) rfl)
        have hidx2 : Calls Tryz.prog 9 #[.slice p7 X.length c7, .func (.func 10) #[] #[.pointer (some ⟨gD, 0, none⟩)]] w6 fun e w' => ∃ t : Int, e = .returned (.int .i64 t) ∧ Ext w6 w' ∧ (((∀ x ∈ X, x.size < (nn : Int) - l) ∧ t = -1) ∨ ∃ (k : Nat) (x : StepV), X[k]? = some x ∧ (nn : Int) - l ≤ x.size ∧ (∀ i y, i < k → X[i]? = some y → y.size < (nn : Int) - l) ∧ t = (k : Int)) := hidx.mono fun e w' hp => by
          obtain ⟨hE, ⟨a, rfl⟩ | ⟨k, x, a, b, c, rfl⟩⟩ := hp
          · exact ⟨-1, rfl, hE, .inl ⟨a, rfl⟩⟩
          · exact ⟨(k : Int), rfl, hE, .inr ⟨k, x, a, b, c, rfl⟩⟩
        replace hidx2 := Lib.hid hidx2
        replace hSt6 := Lib.hid hSt6
        clear hidx hXM
        go_upto_block 2 with (go_at_call 9; go_loud ((with_reducible refine Calls.mono hidx2.out ?_); rintro e w7 ⟨t, rfl, hb7, hcs⟩))
        have hown7 := Lib.hid (own_ext hb7 hown6.out)
        have hSt7 := Lib.hid (hSt6.out.ext hb7)
        have hG7 := hG6.ext hb7
        have hS7 := hS6.ext hb7
        have hX7 := hX6.trans hb7.extS
        have hz7 := Nat.le_trans hz6 hb7.size
        have hI7 := hI6.ext hb7
        have hD7 := hD6.ext hb7
        replace hcs := Lib.hid hcs
        clear hidx2 hown6 hSt6 hG6 hS6 hX6 hz6 hI6 hD6 hb7
        go_cut [7] (fun v7 wc => ∃ (X' : List StepV) (R' : List StpR), StG wc z v7 R' X' ∧ ScM xs q (N ++ [nn]) X' ∧ wc.ownsRow z 3 1 (.slice (some ⟨g6, 0, none⟩) (j + 1) cap) (j + 1) (N.flatMap chC) ∧ Blk wc gS 29 (sc xs) ∧ Str wc w.heap.size (182 + j + 1) ∧ ExtS w.heap.size W0 wc ∧ z ≤ wc.heap.size)
        case first =>
          have hcI : ∀ u g, Ext w7 u → Blk u g 27 #[.int .i64 iv.a, .int .i64 iv.b, .int .i64 iv.c, .int .i64 iv.d] → z ≤ g → u.ownsRow z 27 4 (.slice (some ⟨g, 0, none⟩) 1 1) ([iv] : List I4).length (([iv] : List I4).flatMap i4C) := fun u g hu hB hg => ⟨rfl, .inr ⟨g, 1, _, rfl, hg, hB, Nat.le_refl _, by decide, rfl, rfl⟩⟩
          obtain ⟨y1, -⟩ := hI7.walk
          have y2 := hI7.lt
          obtain ⟨y3, -⟩ := hD7.walk
          have y4 := hD7.lt
          rcases hcs.out with ⟨hall, rfl⟩ | ⟨k, x, hxk, hge, hlow, rfl⟩
          · have hE8 : Ext w7 ((w7.alloc (.cells #[.int .i64 iv.a, .int .i64 iv.b, .int .i64 iv.c, .int .i64 iv.d] 27)).alloc (.cells #[.int .i64 ((nn : Int) - (l : Int)), .slice (some ⟨w7.heap.size, 0, none⟩) 1 1] 41)) := ((Ext.refl _).alloc _).alloc _
            have hSt8 := hSt7.out.ext hE8
            have hz8 := Nat.le_trans hz7 hE8.size
            have hMn := hM.out.app hlast.out hnr.out (by rw [hiv]; exact hir) hall
            rw [hiv] at hMn
            replace hMn := Lib.hid hMn
            replace hall := Lib.hid hall
            go_wp2_with (at_builtin; go_loud (refine wp_appL _ (.tmp 70) (.tmp 75) 32 41 2 32 _ rfl rfl Tryz.underlying32 stpInfo rfl (by decide) (by decide) z p7 X.length c7 _ rfl hSt8.own (w7.heap.size + 1) (stpC ⟨(nn : Int) - (l : Int), some ⟨w7.heap.size, 0, none⟩, 1, 1⟩) rfl rfl (Blk.new' (by simp)) (stp_one _) (by omega) hz8 ?_; intro b9 c9 w9 hown9 hgrow9 _))
            go_meet
            exact ⟨X ++ [⟨(nn : Int) - l, [iv]⟩], R ++ [⟨(nn : Int) - l, some ⟨w7.heap.size, 0, none⟩, 1, 1⟩], hSt8.app (x := ⟨(nn : Int) - l, [iv]⟩) hgrow9 hown9 (hcI _ _ hE8 ((Blk.new' rfl).alloc _) hz7) (hSt7.out.fresh (Nat.le_refl _)), hMn.out,
              (own_ext hE8 hown7.out).kept hgrow9 (hSt8.offInt (own_ext hE8 hown7.out)), (hG7.ext hE8).app hSt8.own (by omega) hgrow9, (hS7.ext hE8).app hSt8.own (by omega) hgrow9, (hX7.trans hE8.extS).app hSt8.own (by omega) hgrow9, Nat.le_trans hz8 hgrow9.size⟩
          · have hkl := (List.getElem?_eq_some_iff.1 hxk).1
            have hkI : (k : Int) < X.length := by omega
            have hk0 : ¬ (k : Int) < 0 := by omega
            obtain ⟨b7, c7', e7, hb7z, -⟩ := hSt7.out.own.form (by omega)
            cases e7
            obtain ⟨gk, dk, hRk, hck⟩ := hSt7.out.ch k x hxk
            have s1 : w7.cell? ⟨b7, k * 2, none⟩ = some (.int .i64 x.size) := own_cell stpC_len hSt7.out.own hRk 0 rfl hkl
            have s2 : w7.cell? ⟨b7, k * 2 + 1, none⟩ = some (.slice (some ⟨gk, 0, none⟩) x.cs.length dk) := own_cell stpC_len hSt7.out.own hRk 1 rfl hkl
            have lb7 := (hSt7.out.own.lt b7 rfl).2
            replace hxk := Lib.hid hxk
            replace hlow := Lib.hid hlow
            replace hRk := Lib.hid hRk
            replace hck := Lib.hid hck
            clear y1 y2 y3 y4
            go_upto_region 15 with fail
            refine wp_region_facts [] [([], false, false), ([], false, false), ([0, 1], false, false), ([0, 1, 2], false, false), ([0, 1, 2, 3], false, false), ([], false, false), ([0, 1, 2, 3, 4, 5], false, false)] (Ext) Ext (fun _ => True) (by kernel_rfl) (by kernel_rfl) Ext.refl (fun _ _ _ => Ext.trans) (fun _ _ h => h) (fun _ _ h => h.size) (fun _ _ h _ => h) trivial ?_
            dsimp only [List.length_cons, List.length_nil, List.drop_succ_cons, List.drop_zero, List.drop_nil]
            refine fac_quiet 0 rfl rfl rfl (fun _ _ h _ => h) rfl rfl ?_
            apply Exists.intro
            refine ⟨fun sv w' hw' hfa => ?_, ?_⟩
            · refine ⟨rfl, ?_⟩
              simp only [putsL]
              change quietTo _ _ _ _ (Sem.run _ (execOp (Act.eval _) _) _)
              try simp only [Act.put, List.setIfInBounds_toArray, List.set_cons_succ, List.set_cons_zero]
              simp [go_sem, quietTo, Ext.refl]
              all_goals first
                | rfl
            refine fac_quiet 1 rfl rfl rfl (fun _ _ h _ => h) rfl rfl ?_
            apply Exists.intro
            refine ⟨fun sv w' hw' hfa => ?_, ?_⟩
            · refine ⟨rfl, ?_⟩
              simp only [putsL]
              change quietTo _ _ _ _ (Sem.run _ (execOp (Act.eval _) _) _)
              try simp only [Act.put, List.setIfInBounds_toArray, List.set_cons_succ, List.set_cons_zero]
              simp [go_sem, quietTo, Ext.refl]
              all_goals first
                | rfl
            refine fac_quiet 2 rfl rfl rfl (fun _ _ h _ => h) rfl rfl ?_
            apply Exists.intro
            refine ⟨fun sv w' hw' hfa => ?_, ?_⟩
            · obtain ⟨f0, f1, -⟩ := hfa
              replace f0 : sv 0 = _ := f0
              try dsimp only at f0
              replace f1 : sv 1 = _ := f1
              try dsimp only at f1
              have hk9 := (Ext.refl w7).drew.trans hw'; have z1 := (hk9.walk.1 _ _ lb7).trans s1; obtain ⟨z2, -⟩ := (hD7.ext hk9).walk
              refine ⟨rfl, ?_⟩
              simp only [putsL]
              change quietTo _ _ _ _ (Sem.run _ (execOp (Act.eval (Act.put (Act.put _ (some 79) (sv 1)) (some 78) (sv 0))) _) _)
              try simp only [Act.put, List.setIfInBounds_toArray, List.set_cons_succ, List.set_cons_zero]
              simp [go_sem, quietTo, Ext.refl, ↓IntWalk.iteOmega, f0, f1, hkI]
              all_goals try simp (disch := omega) only [IntWalk.i64_in]
              all_goals first
                | rfl
            refine fac_quiet 3 rfl rfl rfl (fun _ _ h _ => h) rfl rfl ?_
            apply Exists.intro
            refine ⟨fun sv w' hw' hfa => ?_, ?_⟩
            · obtain ⟨_, _, f2, -⟩ := hfa
              replace f2 : sv 2 = _ := f2
              try dsimp only at f2
              refine ⟨rfl, ?_⟩
              simp only [putsL]
              change quietTo _ _ _ _ (Sem.run _ (execOp (Act.eval (Act.put (Act.put (Act.put _ (some 80) (sv 2)) (some 79) (sv 1)) (some 78) (sv 0))) _) _)
              try simp only [Act.put, List.setIfInBounds_toArray, List.set_cons_succ, List.set_cons_zero]
              simp [go_sem, quietTo, Ext.refl, f2]
              all_goals first
                | rfl
            refine fac_quiet 4 rfl rfl rfl (fun _ _ h _ => h) rfl rfl ?_
            apply Exists.intro
            refine ⟨fun sv w' hw' hfa => ?_, ?_⟩
            · obtain ⟨_, _, _, f3, -⟩ := hfa
              replace f3 : sv 3 = _ := f3
              try dsimp only at f3
              have hk9 := (Ext.refl w7).drew.trans hw'; have z1 := (hk9.walk.1 _ _ lb7).trans s1; obtain ⟨z2, -⟩ := (hD7.ext hk9).walk
              refine ⟨rfl, ?_⟩
              simp only [putsL]
              change quietTo _ _ _ _ (Sem.run _ (execOp (Act.eval (Act.put (Act.put (Act.put (Act.put _ (some 81) (sv 3)) (some 80) (sv 2)) (some 79) (sv 1)) (some 78) (sv 0))) _) _)
              try simp only [Act.put, List.setIfInBounds_toArray, List.set_cons_succ, List.set_cons_zero]
              simp [go_sem, quietTo, Ext.refl, ↓IntWalk.iteOmega, f3, z1]
              all_goals try simp (disch := omega) only [IntWalk.i64_in]
              all_goals first
                | rfl
            refine fac_quiet 5 rfl rfl rfl (fun _ _ h _ => h) rfl rfl ?_
            apply Exists.intro
            refine ⟨fun sv w' hw' hfa => ?_, ?_⟩
            · have hk9 := (Ext.refl w7).drew.trans hw'; have z1 := (hk9.walk.1 _ _ lb7).trans s1; obtain ⟨z2, -⟩ := (hD7.ext hk9).walk
              refine ⟨rfl, ?_⟩
              simp only [putsL]
              change quietTo _ _ _ _ (Sem.run _ (execOp (Act.eval _) _) _)
              try simp only [Act.put, List.setIfInBounds_toArray, List.set_cons_succ, List.set_cons_zero]
              simp [go_sem, quietTo, Ext.refl, ↓IntWalk.iteOmega, z2]
              all_goals try simp (disch := omega) only [IntWalk.i64_in]
              all_goals first
                | rfl
            refine fac_quiet 6 rfl rfl rfl (fun _ _ h _ => h) rfl rfl ?_
            apply Exists.intro
            refine ⟨fun sv w' hw' hfa => ?_, ?_⟩
            · obtain ⟨_, _, _, _, f4, f5, -⟩ := hfa
              replace f4 : sv 4 = _ := f4
              try dsimp only at f4
              replace f5 : sv 5 = _ := f5
              try dsimp only at f5
              refine ⟨rfl, ?_⟩
              simp only [putsL]
              change quietTo _ _ _ _ (Sem.run _ (execOp (Act.eval (Act.put (Act.put (Act.put (Act.put (Act.put (Act.put _ (some 83) (sv 5)) (some 82) (sv 4)) (some 81) (sv 3)) (some 80) (sv 2)) (some 79) (sv 1)) (some 78) (sv 0))) _) _)
              try simp only [Act.put, List.setIfInBounds_toArray, List.set_cons_succ, List.set_cons_zero]
              simp [go_sem, quietTo, Ext.refl, ↓IntWalk.iteOmega, f4, f5]
              all_goals try simp (disch := omega) only [IntWalk.i64_in]
              all_goals first
                | rfl
            refine fac_nil fun xq wrq herq hfrq hcrq holdq hapq => ?_
            obtain ⟨f0, f1, f2, f3, f4, f5, f6, -⟩ := hfrq
            replace f0 : xq 0 = _ := f0
            try dsimp only at f0
            replace f1 : xq 1 = _ := f1
            try dsimp only at f1
            replace f2 : xq 2 = _ := f2
            try dsimp only at f2
            replace f3 : xq 3 = _ := f3
            try dsimp only at f3
            replace f4 : xq 4 = _ := f4
            try dsimp only at f4
            replace f5 : xq 5 = _ := f5
            try dsimp only at f5
            replace f6 : xq 6 = _ := f6
            try dsimp only at f6
            change wpList _ _ _ _ (Act.put (Act.put (Act.put (Act.put (Act.put (Act.put (Act.put _ (some 78) (xq 0)) (some 79) (xq 1)) (some 80) (xq 2)) (some 81) (xq 3)) (some 82) (xq 4)) (some 83) (xq 5)) (some 84) (xq 6)) _
            simp only [putsL, Nat.reduceAdd, List.drop_succ_cons, List.drop_zero, List.drop_nil, Act.put, List.setIfInBounds_toArray, List.set_cons_succ, List.set_cons_zero]
            try simp only [f0, f1, f2, f3, f4, f5, f6]
            clear f0 f1 f2 f3 f4 f5 f6
            clear holdq hapq
            have hkq := (Ext.refl w7).drew.trans herq
            have hSt8 := Lib.hid (hSt7.out.ext hkq)
            have hck8 := Lib.hid (own_ext hkq hck.out)
            have hown8 := Lib.hid (own_ext hkq hown7.out)
            have hG8 := hG7.ext hkq
            have hS8 := hS7.ext hkq
            have hX8 := hX7.trans hkq.extS
            have hz8 := Nat.le_trans hz7 hkq.size
            have hI8 := hI7.ext hkq
            have hD8 := hD7.ext hkq
            have hcI8 : ∀ u g, Ext wrq u → Blk u g 27 #[.int .i64 iv.a, .int .i64 iv.b, .int .i64 iv.c, .int .i64 iv.d] → z ≤ g → u.ownsRow z 27 4 (.slice (some ⟨g, 0, none⟩) 1 1) ([iv] : List I4).length (([iv] : List I4).flatMap i4C) := fun u g hu hB hg => hcI u g (hkq.trans hu) hB hg
            have s18 := (hkq.walk.1 _ _ lb7).trans s1
            have s28 := (hkq.walk.1 _ _ lb7).trans s2
            have lb78 := Nat.lt_of_lt_of_le lb7 hkq.size
            clear hSt7 hck hown7 hG7 hS7 hX7 hz7 hI7 hD7 hcI s1 s2 lb7 herq hkq hcs
            generalize wrq = w8 at *
            obtain ⟨y1, -⟩ := hI8.walk
            have y2 := hI8.lt
            obtain ⟨y3, -⟩ := hD8.walk
            have y4 := hD8.lt
            by_cases heq : x.size = (nn : Int) - (l : Int)
            · have hcon : ∀ u, Ext w8 u → Calls Tryz.prog 12 #[.slice (some ⟨gk, 0, none⟩) x.cs.length dk, .agg #[.int .i64 iv.a, .int .i64 iv.b, .int .i64 iv.c, .int .i64 iv.d]] u fun e w' => e = .returned (.bool (decide (iv ∈ x.cs))) ∧ Ext u w' := fun u hu => by
                have h4 := (hM.out.ch x (List.mem_of_getElem? hxk.out)).2.1
                obtain ⟨p9, c9, e9, hS9⟩ := slc_of_own i4C_len (own_ext hu hck8.out) (by decide) (by omega)
                cases e9
                exact contains4_any _ _ _ x.cs iv u hS9 (by omega)
              obtain ⟨bb, hbb⟩ : ∃ bb, decide (iv ∈ x.cs) = bb := ⟨_, rfl⟩
              simp only [hbb] at hcon
              replace hcon := Lib.hid hcon
              replace heq := Lib.hid heq
              have hszE : (x.size == (nn : Int) - (l : Int)) = true := by rw [heq.out]; simp
              have hszN : (x.size != (nn : Int) - (l : Int)) = false := by rw [heq.out]; simp
              go_upto_region 17 with fail
              clear y1 y2 y3 y4
              refine wp_region_facts [] [([], false, false), ([], false, false), ([0, 1], false, false), ([0, 1, 2], false, false), ([0, 1, 2, 3], false, false), ([], false, false), ([0, 1, 2, 3, 4, 5], false, false), ([0, 1, 2, 3, 4, 5, 6], false, false)] (Ext) Ext (fun _ => True) (by kernel_rfl) (by kernel_rfl) Ext.refl (fun _ _ _ => Ext.trans) (fun _ _ h => h) (fun _ _ h => h.size) (fun _ _ h _ => h) trivial ?_
              dsimp only [List.length_cons, List.length_nil, List.drop_succ_cons, List.drop_zero, List.drop_nil]
              refine fac_quiet 0 rfl rfl rfl (fun _ _ h _ => h) rfl rfl ?_
              apply Exists.intro
              refine ⟨fun sv w' hw' hfa => ?_, ?_⟩
              · refine ⟨rfl, ?_⟩
                simp only [putsL]
                change quietTo _ _ _ _ (Sem.run _ (execOp (Act.eval _) _) _)
                try simp only [Act.put, List.setIfInBounds_toArray, List.set_cons_succ, List.set_cons_zero]
                simp [go_sem, quietTo, Ext.refl]
                all_goals first
                  | rfl
              refine fac_quiet 1 rfl rfl rfl (fun _ _ h _ => h) rfl rfl ?_
              apply Exists.intro
              refine ⟨fun sv w' hw' hfa => ?_, ?_⟩
              · refine ⟨rfl, ?_⟩
                simp only [putsL]
                change quietTo _ _ _ _ (Sem.run _ (execOp (Act.eval _) _) _)
                try simp only [Act.put, List.setIfInBounds_toArray, List.set_cons_succ, List.set_cons_zero]
                simp [go_sem, quietTo, Ext.refl]
                all_goals first
                  | rfl
              refine fac_quiet 2 rfl rfl rfl (fun _ _ h _ => h) rfl rfl ?_
              apply Exists.intro
              refine ⟨fun sv w' hw' hfa => ?_, ?_⟩
              · obtain ⟨f0, f1, -⟩ := hfa
                replace f0 : sv 0 = _ := f0
                try dsimp only at f0
                replace f1 : sv 1 = _ := f1
                try dsimp only at f1
                have hk9 := (Ext.refl w8).drew.trans hw'; have z1 := (hk9.walk.1 _ _ lb78).trans s28; obtain ⟨z2, -⟩ := (hI8.ext hk9).walk
                refine ⟨rfl, ?_⟩
                simp only [putsL]
                change quietTo _ _ _ _ (Sem.run _ (execOp (Act.eval (Act.put (Act.put _ (some 95) (sv 1)) (some 94) (sv 0))) _) _)
                try simp only [Act.put, List.setIfInBounds_toArray, List.set_cons_succ, List.set_cons_zero]
                simp [go_sem, quietTo, Ext.refl, ↓IntWalk.iteOmega, f0, f1, hkI]
                all_goals try simp (disch := omega) only [IntWalk.i64_in]
                all_goals first
                  | rfl
              refine fac_quiet 3 rfl rfl rfl (fun _ _ h _ => h) rfl rfl ?_
              apply Exists.intro
              refine ⟨fun sv w' hw' hfa => ?_, ?_⟩
              · obtain ⟨_, _, f2, -⟩ := hfa
                replace f2 : sv 2 = _ := f2
                try dsimp only at f2
                refine ⟨rfl, ?_⟩
                simp only [putsL]
                change quietTo _ _ _ _ (Sem.run _ (execOp (Act.eval (Act.put (Act.put (Act.put _ (some 96) (sv 2)) (some 95) (sv 1)) (some 94) (sv 0))) _) _)
                try simp only [Act.put, List.setIfInBounds_toArray, List.set_cons_succ, List.set_cons_zero]
                simp [go_sem, quietTo, Ext.refl, f2]
                all_goals first
                  | rfl
              refine fac_quiet 4 rfl rfl rfl (fun _ _ h _ => h) rfl rfl ?_
              apply Exists.intro
              refine ⟨fun sv w' hw' hfa => ?_, ?_⟩
              · obtain ⟨_, _, _, f3, -⟩ := hfa
                replace f3 : sv 3 = _ := f3
                try dsimp only at f3
                have hk9 := (Ext.refl w8).drew.trans hw'; have z1 := (hk9.walk.1 _ _ lb78).trans s28; obtain ⟨z2, -⟩ := (hI8.ext hk9).walk
                refine ⟨rfl, ?_⟩
                simp only [putsL]
                change quietTo _ _ _ _ (Sem.run _ (execOp (Act.eval (Act.put (Act.put (Act.put (Act.put _ (some 97) (sv 3)) (some 96) (sv 2)) (some 95) (sv 1)) (some 94) (sv 0))) _) _)
                try simp only [Act.put, List.setIfInBounds_toArray, List.set_cons_succ, List.set_cons_zero]
                simp [go_sem, quietTo, Ext.refl, ↓IntWalk.iteOmega, f3, z1]
                all_goals try simp (disch := omega) only [IntWalk.i64_in]
                all_goals first
                  | rfl
              refine fac_quiet 5 rfl rfl rfl (fun _ _ h _ => h) rfl rfl ?_
              apply Exists.intro
              refine ⟨fun sv w' hw' hfa => ?_, ?_⟩
              · have hk9 := (Ext.refl w8).drew.trans hw'; have z1 := (hk9.walk.1 _ _ lb78).trans s28; obtain ⟨z2, -⟩ := (hI8.ext hk9).walk
                refine ⟨rfl, ?_⟩
                simp only [putsL]
                change quietTo _ _ _ _ (Sem.run _ (execOp (Act.eval _) _) _)
                try simp only [Act.put, List.setIfInBounds_toArray, List.set_cons_succ, List.set_cons_zero]
                simp [go_sem, quietTo, Ext.refl, ↓IntWalk.iteOmega, z2]
                all_goals try simp (disch := omega) only [IntWalk.i64_in]
                all_goals first
                  | rfl
              refine fac_quiet 6 rfl rfl rfl (fun _ _ h _ => h) rfl rfl ?_
              apply Exists.intro
              refine ⟨fun sv w' hw' hfa => ?_, ?_⟩
              · obtain ⟨f0, f1, f2, f3, f4, f5, -⟩ := hfa
                replace f0 : sv 0 = _ := f0
                try dsimp only at f0
                replace f1 : sv 1 = _ := f1
                try dsimp only at f1
                replace f2 : sv 2 = _ := f2
                try dsimp only at f2
                replace f3 : sv 3 = _ := f3
                try dsimp only at f3
                replace f4 : sv 4 = _ := f4
                try dsimp only at f4
                replace f5 : sv 5 = _ := f5
                try dsimp only at f5
                have hk9 := (Ext.refl w8).drew.trans hw'; have z1 := (hk9.walk.1 _ _ lb78).trans s28; obtain ⟨z2, -⟩ := (hI8.ext hk9).walk
                refine ⟨rfl, ?_⟩
                simp only [putsL]
                change quietTo _ _ _ _ (Sem.run _ (execOp (Act.eval (Act.put (Act.put (Act.put (Act.put (Act.put (Act.put _ (some 99) (sv 5)) (some 98) (sv 4)) (some 97) (sv 3)) (some 96) (sv 2)) (some 95) (sv 1)) (some 94) (sv 0))) _) _)
                try simp only [Act.put, List.setIfInBounds_toArray, List.set_cons_succ, List.set_cons_zero]
                simp [go_sem, quietTo, Ext.refl, ↓IntWalk.iteOmega, f4, f5]
                all_goals try simp (disch := omega) only [IntWalk.i64_in]
                all_goals first
                  | rfl
                  | (exact hcon.out _ hk9)
              refine fac_quiet 7 rfl rfl rfl (fun _ _ h _ => h) rfl rfl ?_
              apply Exists.intro
              refine ⟨fun sv w' hw' hfa => ?_, ?_⟩
              · obtain ⟨_, _, _, _, _, _, f6, -⟩ := hfa
                replace f6 : sv 6 = _ := f6
                try dsimp only at f6
                refine ⟨rfl, ?_⟩
                simp only [putsL]
                change quietTo _ _ _ _ (Sem.run _ (execOp (Act.eval (Act.put (Act.put (Act.put (Act.put (Act.put (Act.put (Act.put _ (some 100) (sv 6)) (some 99) (sv 5)) (some 98) (sv 4)) (some 97) (sv 3)) (some 96) (sv 2)) (some 95) (sv 1)) (some 94) (sv 0))) _) _)
                try simp only [Act.put, List.setIfInBounds_toArray, List.set_cons_succ, List.set_cons_zero]
                simp [go_sem, quietTo, Ext.refl, ↓IntWalk.iteOmega, f6]
                all_goals try simp (disch := omega) only [IntWalk.i64_in]
                all_goals first
                  | rfl
              refine fac_nil fun xe wre here hfre hcre holde hape => ?_
              obtain ⟨f0, f1, f2, f3, f4, f5, f6, f7, -⟩ := hfre
              replace f0 : xe 0 = _ := f0
              try dsimp only at f0
              replace f1 : xe 1 = _ := f1
              try dsimp only at f1
              replace f2 : xe 2 = _ := f2
              try dsimp only at f2
              replace f3 : xe 3 = _ := f3
              try dsimp only at f3
              replace f4 : xe 4 = _ := f4
              try dsimp only at f4
              replace f5 : xe 5 = _ := f5
              try dsimp only at f5
              replace f6 : xe 6 = _ := f6
              try dsimp only at f6
              replace f7 : xe 7 = _ := f7
              try dsimp only at f7
              change wpList _ _ _ _ (Act.put (Act.put (Act.put (Act.put (Act.put (Act.put (Act.put (Act.put _ (some 94) (xe 0)) (some 95) (xe 1)) (some 96) (xe 2)) (some 97) (xe 3)) (some 98) (xe 4)) (some 99) (xe 5)) (some 100) (xe 6)) (some 101) (xe 7)) _
              simp only [putsL, Nat.reduceAdd, List.drop_succ_cons, List.drop_zero, List.drop_nil, Act.put, List.setIfInBounds_toArray, List.set_cons_succ, List.set_cons_zero]
              try simp only [f0, f1, f2, f3, f4, f5, f6, f7]
              clear f0 f1 f2 f3 f4 f5 f6 f7
              clear holde hape
              have hke := (Ext.refl w8).drew.trans here
              cases bb
              · have hni : iv ∉ x.cs := of_decide_eq_false hbb
                by_cases h4 : x.cs.length = 4
                · have hEb := hback _ (hX8.trans hke.extS)
                  have h4I : ((x.cs.length : Int) == 4) = true := by rw [h4]; rfl
                  have h4J : (x.cs.length : Int) = 4 := by omega
                  have s29 := (hke.walk.1 _ _ lb78).trans s28
                  have lb79 := Nat.lt_of_lt_of_le lb78 hke.size
                  replace h4 := Lib.hid h4
                  go_wp2_with (go_at_call 8; (with_reducible refine Calls.mono (h06facts_any B _ (ht.ext hEb)) ?_); rintro e u9 ⟨rfl, hu9⟩)
                  go_ret
                  exact ⟨rfl, hEb.trans hu9⟩
                · have h4I : ((x.cs.length : Int) == 4) = false := beq_false_of_ne (by omega)
                  have hSt9 := Lib.hid (hSt8.out.ext hke)
                  have hck9 := own_ext hke hck8.out
                  have hown9 := Lib.hid (own_ext hke hown8.out)
                  have hG9 := hG8.ext hke
                  have hS9 := hS8.ext hke
                  have hX9 := hX8.trans hke.extS
                  have hz9 := Nat.le_trans hz8 hke.size
                  have hI9 := hI8.ext hke
                  have s29 := (hke.walk.1 _ _ lb78).trans s28
                  have lb79 := Nat.lt_of_lt_of_le lb78 hke.size
                  have hx4 := (hM.out.ch x (List.mem_of_getElem? hxk.out)).2.1
                  replace hck9 := Lib.hid hck9
                  clear hSt8 hck8 hown8 hG8 hS8 hX8 hz8 hI8 hD8 s18 s28 lb78 here hke hcon
                  generalize wre = w9 at *
                  go_upto_region 20 with fail
                  refine wp_region_facts [0, 1] [([], false, false), ([], false, false), ([], false, false), ([], false, false), ([2, 3], false, false), ([2, 3, 4], false, false), ([2, 3, 4, 5], false, false), ([], false, false), ([7], false, true)] (Ext) Ext (fun _ => True) (by kernel_rfl) (by kernel_rfl) Ext.refl (fun _ _ _ => Ext.trans) (fun _ _ h => h) (fun _ _ h => h.size) (fun _ _ h _ => h) trivial ?_
                  dsimp only [List.length_cons, List.length_nil, List.drop_succ_cons, List.drop_zero, List.drop_nil]
                  refine fac_late 0 rfl rfl Ext.refl (fun _ _ h _ => h) rfl rfl (fun _ _ _ _ h => h) ?_
                  apply Exists.intro
                  refine ⟨fun sv w' hw' hfa => ?_, ?_⟩
                  · refine ⟨rfl, fun w2 => ?_⟩
                    simp only [putsL]
                    change pureTo _ _ (Sem.run _ (execOp (Act.eval _) _) _)
                    try simp only [Act.put, List.setIfInBounds_toArray, List.set_cons_succ, List.set_cons_zero]
                    simp [go_sem, pureTo]
                    all_goals try simp (disch := omega) only [IntWalk.i64_in]
                    all_goals first
                      | rfl
                  refine fac_late 1 rfl rfl Ext.refl (fun _ _ h _ => h) rfl rfl (fun _ _ _ _ h => h) ?_
                  apply Exists.intro
                  refine ⟨fun sv w' hw' hfa => ?_, ?_⟩
                  · refine ⟨rfl, fun w2 => ?_⟩
                    simp only [putsL]
                    change pureTo _ _ (Sem.run _ (execOp (Act.eval _) _) _)
                    try simp only [Act.put, List.setIfInBounds_toArray, List.set_cons_succ, List.set_cons_zero]
                    simp [go_sem, pureTo]
                    all_goals try simp (disch := omega) only [IntWalk.i64_in]
                    all_goals first
                      | rfl
                  refine fac_quiet 2 rfl rfl rfl (fun _ _ h _ => h) rfl rfl ?_
                  apply Exists.intro
                  refine ⟨fun sv w' hw' hfa => ?_, ?_⟩
                  · refine ⟨rfl, ?_⟩
                    simp only [putsL]
                    change quietTo _ _ _ _ (Sem.run _ (execOp (Act.eval _) _) _)
                    try simp only [Act.put, List.setIfInBounds_toArray, List.set_cons_succ, List.set_cons_zero]
                    simp [go_sem, quietTo, Ext.refl]
                    all_goals first
                      | rfl
                  refine fac_quiet 3 rfl rfl rfl (fun _ _ h _ => h) rfl rfl ?_
                  apply Exists.intro
                  refine ⟨fun sv w' hw' hfa => ?_, ?_⟩
                  · refine ⟨rfl, ?_⟩
                    simp only [putsL]
                    change quietTo _ _ _ _ (Sem.run _ (execOp (Act.eval _) _) _)
                    try simp only [Act.put, List.setIfInBounds_toArray, List.set_cons_succ, List.set_cons_zero]
                    simp [go_sem, quietTo, Ext.refl]
                    all_goals first
                      | rfl
                  refine fac_quiet 4 rfl rfl rfl (fun _ _ h _ => h) rfl rfl ?_
                  apply Exists.intro
                  refine ⟨fun sv w' hw' hfa => ?_, ?_⟩
                  · obtain ⟨f2, f3, -⟩ := hfa
                    replace f2 : sv 2 = _ := f2
                    try dsimp only at f2
                    replace f3 : sv 3 = _ := f3
                    try dsimp only at f3
                    have hk9 := (Ext.refl w9).drew.trans hw'; have z1 := (hk9.walk.1 _ _ lb79).trans s29; obtain ⟨z2, -⟩ := (hI9.ext hk9).walk
                    refine ⟨rfl, ?_⟩
                    simp only [putsL]
                    change quietTo _ _ _ _ (Sem.run _ (execOp (Act.eval (Act.put (Act.put _ (some 113) (sv 3)) (some 112) (sv 2))) _) _)
                    try simp only [Act.put, List.setIfInBounds_toArray, List.set_cons_succ, List.set_cons_zero]
                    simp [go_sem, quietTo, Ext.refl, ↓IntWalk.iteOmega, f2, f3, hkI]
                    all_goals try simp (disch := omega) only [IntWalk.i64_in]
                    all_goals first
                      | rfl
                  refine fac_quiet 5 rfl rfl rfl (fun _ _ h _ => h) rfl rfl ?_
                  apply Exists.intro
                  refine ⟨fun sv w' hw' hfa => ?_, ?_⟩
                  · obtain ⟨_, _, f4, -⟩ := hfa
                    replace f4 : sv 4 = _ := f4
                    try dsimp only at f4
                    refine ⟨rfl, ?_⟩
                    simp only [putsL]
                    change quietTo _ _ _ _ (Sem.run _ (execOp (Act.eval (Act.put (Act.put (Act.put _ (some 114) (sv 4)) (some 113) (sv 3)) (some 112) (sv 2))) _) _)
                    try simp only [Act.put, List.setIfInBounds_toArray, List.set_cons_succ, List.set_cons_zero]
                    simp [go_sem, quietTo, Ext.refl, f4]
                    all_goals first
                      | rfl
                  refine fac_quiet 6 rfl rfl rfl (fun _ _ h _ => h) rfl rfl ?_
                  apply Exists.intro
                  refine ⟨fun sv w' hw' hfa => ?_, ?_⟩
                  · obtain ⟨_, _, _, f5, -⟩ := hfa
                    replace f5 : sv 5 = _ := f5
                    try dsimp only at f5
                    have hk9 := (Ext.refl w9).drew.trans hw'; have z1 := (hk9.walk.1 _ _ lb79).trans s29; obtain ⟨z2, -⟩ := (hI9.ext hk9).walk
                    refine ⟨rfl, ?_⟩
                    simp only [putsL]
                    change quietTo _ _ _ _ (Sem.run _ (execOp (Act.eval (Act.put (Act.put (Act.put (Act.put _ (some 115) (sv 5)) (some 114) (sv 4)) (some 113) (sv 3)) (some 112) (sv 2))) _) _)
                    try simp only [Act.put, List.setIfInBounds_toArray, List.set_cons_succ, List.set_cons_zero]
                    simp [go_sem, quietTo, Ext.refl, ↓IntWalk.iteOmega, f5, z1]
                    all_goals try simp (disch := omega) only [IntWalk.i64_in]
                    all_goals first
                      | rfl
                  refine fac_quiet 7 rfl rfl rfl (fun _ _ h _ => h) rfl rfl ?_
                  apply Exists.intro
                  refine ⟨fun sv w' hw' hfa => ?_, ?_⟩
                  · have hk9 := (Ext.refl w9).drew.trans hw'; have z1 := (hk9.walk.1 _ _ lb79).trans s29; obtain ⟨z2, -⟩ := (hI9.ext hk9).walk
                    refine ⟨rfl, ?_⟩
                    simp only [putsL]
                    change quietTo _ _ _ _ (Sem.run _ (execOp (Act.eval _) _) _)
                    try simp only [Act.put, List.setIfInBounds_toArray, List.set_cons_succ, List.set_cons_zero]
                    simp [go_sem, quietTo, Ext.refl, ↓IntWalk.iteOmega, z2]
                    all_goals try simp (disch := omega) only [IntWalk.i64_in]
                    all_goals first
                      | rfl
                  refine fac_row 8 rfl rfl rfl (fun _ _ h _ => h) (fun _ _ h => h.size) (fun _ _ _ _ _ he _ hb => hb.ext he) ?_
                  apply Exists.intro
                  apply Exists.intro
                  apply Exists.intro
                  apply Exists.intro
                  refine ⟨fun sv w' hw' hfa => ?_, ?_⟩
                  · obtain ⟨f7, -⟩ := hfa
                    replace f7 : sv 7 = _ := f7
                    try dsimp only at f7
                    refine ⟨rfl, ?_⟩
                    simp only [putsL]
                    change rowTo _ _ _ _ _ (Sem.run _ (execOp (Act.eval (Act.put _ (some 117) (sv 7))) _) _)
                    try simp only [Act.put, List.setIfInBounds_toArray, List.set_cons_succ, List.set_cons_zero]
                    simp [go_sem, rowTo, Ext.refl, f7]
                    all_goals try simp (disch := omega) only [IntWalk.i64_in]
                    all_goals first
                      | rfl
                      | exact ⟨rfl, rfl⟩
                      | exact ⟨⟨rfl, rfl⟩, rfl⟩
                  refine fac_nil fun xm wrm herm hfrm hcrm holdm hapm => ?_
                  obtain ⟨f0, f1, f2, f3, f4, f5, f6, f7, f8, -⟩ := hfrm
                  replace f0 : xm 0 = _ := f0
                  try dsimp only at f0
                  replace f1 : xm 1 = _ := f1
                  try dsimp only at f1
                  replace f2 : xm 2 = _ := f2
                  try dsimp only at f2
                  replace f3 : xm 3 = _ := f3
                  try dsimp only at f3
                  replace f4 : xm 4 = _ := f4
                  try dsimp only at f4
                  replace f5 : xm 5 = _ := f5
                  try dsimp only at f5
                  replace f6 : xm 6 = _ := f6
                  try dsimp only at f6
                  replace f7 : xm 7 = _ := f7
                  try dsimp only at f7
                  obtain ⟨g8, f8, l8, b8⟩ := f8
                  replace f8 : xm 8 = _ := f8
                  obtain ⟨p8, q8⟩ := b8.walk
                  change wpList _ _ _ _ (Act.put (Act.put (Act.put (Act.put (Act.put (Act.put (Act.put (Act.put (Act.put _ (some 110) (xm 0)) (some 111) (xm 1)) (some 112) (xm 2)) (some 113) (xm 3)) (some 114) (xm 4)) (some 115) (xm 5)) (some 116) (xm 6)) (some 117) (xm 7)) (some 118) (xm 8)) _
                  simp only [putsL, Nat.reduceAdd, List.drop_succ_cons, List.drop_zero, List.drop_nil, Act.put, List.setIfInBounds_toArray, List.set_cons_succ, List.set_cons_zero]
                  try simp only [f0, f1, f2, f3, f4, f5, f6, f7, f8]
                  clear f0 f1 f2 f3 f4 f5 f6 f7
                  clear holdm hapm
                  have hkm := (Ext.refl w9).drew.trans herm
                  have hStm := hSt9.out.ext hkm
                  have hckm := own_ext hkm hck9.out
                  have hownm := own_ext hkm hown9.out
                  have hGm := hG9.ext hkm
                  have hSm := hS9.ext hkm
                  have hXm := hX9.trans hkm.extS
                  have hzm := Nat.le_trans hz9 hkm.size
                  obtain ⟨ck, hBk⟩ := own_blk hckm
                  have hMn := hM.out.more hlast.out hnr.out (by rw [hiv]; exact hir) hxk.out heq.out (by rw [hiv]; exact hni) h4
                  rw [hiv] at hMn
                  have hx9 : x.cs.length ≤ 1000000000 := by omega
                  replace hMn := Lib.hid hMn
                  replace hStm := Lib.hid hStm
                  replace hownm := Lib.hid hownm
                  clear s29 hSt9 hck9 hown9 hG9 hS9 hX9 hz9
                  go_wp2_with (at_builtin; go_loud (refine wp_appL _ (.tmp 116) (.tmp 118) 39 27 4 32 _ rfl rfl Tryz.underlying39 ivInfo rfl (by decide) (by decide) z (some ⟨gk, 0, none⟩) x.cs.length dk _ rfl hckm g8 (i4C iv) rfl rfl b8 (i4C_one iv) hx9 hzm ?_; intro b9 c9 wn hownn hgrown hpln; have hvn := hStm.out.own.kept hgrown (.inr (own_no hStm.out.own hBk (by decide))); have t1 : wn.cell? ⟨b7, k * 2 + 1, none⟩ = some (.slice (some ⟨gk, 0, none⟩) x.cs.length dk) := own_cell stpC_len hvn hRk.out 1 rfl hkl; have t2 : ∀ o, wn.frozen? ⟨b7, o, none⟩ = false := fun o => hvn.frozenAt o; have t3 := (hvn.lt b7 rfl).2; replace hvn := Lib.hid hvn))
                  go_meet
                  obtain ⟨cv, hBv⟩ := own_blk hvn.out
                  have hb7S : w.heap.size < b7 := by omega
                  exact ⟨X.set k ⟨x.size, x.cs ++ [iv]⟩, R.set k ⟨x.size, some ⟨b9, 0, none⟩, x.cs.length + 1, c9⟩, hStm.out.more hxk.out hRk.out hgrown hckm hownn (hpln.imp id fun e => by cases e; rfl), hMn.out,
                    own_setI (hownm.out.kept hgrown (.inr (own_no hownm.out hBk (by decide)))) hBv (by decide) _ _, (hGm.app hckm (by omega) hgrown).far (p := ⟨b7, k * 2 + 1, none⟩) (by simp only; omega) _, (hSm.app hckm (by omega) hgrown).set (p := ⟨b7, k * 2 + 1, none⟩) hb7S _, (hXm.app hckm (by omega) hgrown).setCell (p := ⟨b7, k * 2 + 1, none⟩) (.inr (by simp only; omega)) _, by simpa using Nat.le_trans hzm hgrown.size⟩
              · have hin : iv ∈ x.cs := of_decide_eq_true hbb
                have hMn := hM.out.same hlast.out hnr.out (List.mem_of_getElem? hxk.out) heq.out (by rw [hiv]; exact hin)
                replace hMn := Lib.hid hMn
                go_wp2
                go_meet
                exact ⟨X, R, hSt8.out.ext hke, hMn.out, own_ext hke hown8.out, hG8.ext hke, hS8.ext hke, hX8.trans hke.extS, Nat.le_trans hz8 hke.size⟩
            · have hE9 : Ext w8 ((w8.alloc (.cells #[.int .i64 iv.a, .int .i64 iv.b, .int .i64 iv.c, .int .i64 iv.d] 27)).alloc (.cells #[.int .i64 ((nn : Int) - (l : Int)), .slice (some ⟨w8.heap.size, 0, none⟩) 1 1] 41)) := ((Ext.refl _).alloc _).alloc _
              have hSt9 := hSt8.out.ext hE9
              have hz9 := Nat.le_trans hz8 hE9.size
              have hMn := hM.out.ins hlast.out hnr.out (by rw [hiv]; exact hir) hxk.out hlow.out hge heq
              rw [hiv] at hMn
              have hins := insert_any (i := k) (vb := w8.heap.size + 1) (u0 := .int .i64 ((nn : Int) - (l : Int))) (u1 := .slice (some ⟨w8.heap.size, 0, none⟩) 1 1) hSt9.own (by omega) hz9 hkl (by omega) (Blk.new' (by simp)) hSt9.one rfl rfl
              replace hMn := Lib.hid hMn
              replace hins := Lib.hid hins
              replace hSt9 := Lib.hid hSt9
              clear s18 s28
              go_wp2_with (go_at_call 11; go_loud ((with_reducible refine Calls.mono hins.out ?_); rintro e w9 ⟨g9, G9, rfl, hown9, hgrow9, -⟩))
              go_meet
              exact ⟨X.take k ++ ⟨(nn : Int) - l, [iv]⟩ :: X.drop k, R.take k ++ ⟨(nn : Int) - l, some ⟨w8.heap.size, 0, none⟩, 1, 1⟩ :: R.drop k, hSt9.out.ins (x := ⟨(nn : Int) - l, [iv]⟩) hgrow9 (by omega) hown9 (hcI8 _ _ hE9 ((Blk.new' rfl).alloc _) hz8) (hSt8.out.fresh (Nat.le_refl _)), hMn.out,
                (own_ext hE9 hown8.out).kept hgrow9 (hSt9.out.offInt (own_ext hE9 hown8.out)), (hG8.ext hE9).app hSt9.out.own (by omega) hgrow9, (hS8.ext hE9).app hSt9.out.own (by omega) hgrow9, (hX8.trans hE9.extS).app hSt9.out.own (by omega) hgrow9, Nat.le_trans hz9 hgrow9.size⟩
        case rest =>
          obtain ⟨X', R', hSt, hM', hown, hG, hS, hX, hzc⟩ := hcut
          clear hown7 hSt7 hG7 hS7 hX7 hz7 hI7 hD7 hcs
          replace hSt := Lib.hid hSt
          replace hM' := Lib.hid hM'
          have hEa : Ext wc (wc.alloc (.cells #[.int .i64 (nn : Int)] 3)) := (Ext.refl _).alloc _
          have hown8 := own_ext hEa hown
          have hz8 := Nat.le_trans hzc hEa.size
          have hj9 : j + 1 ≤ 1000000000 := by omega
          go_wp2_with (at_builtin; go_loud (refine wp_appL _ (.tmp 122) (.tmp 124) 22 3 1 8 (.int .i64 0) rfl rfl Tryz.underlying22 intInf4 rfl (by decide) (by decide) z (some ⟨g6, 0, none⟩) (j + 1) cap _ rfl hown8 wc.heap.size (chC nn) rfl rfl (Blk.new' rfl) (by simp [chC, Value.oneCell']) hj9 hz8 ?_; intro b9 c9 w9 hown9 hgrow9 _))
          obtain ⟨ci, hBi⟩ := own_blk hown8
          have hSt9 := (hSt.out.ext hEa).other hBi (by decide) (by decide) hgrow9
          have hown10 : w9.ownsRow z 3 1 (.slice (some ⟨b9, 0, none⟩) (j + 1 + 1) c9) (N ++ [nn]).length ((N ++ [nn]).flatMap chC) := by
            rw [List.length_append, hNl, List.flatMap_append]
            simpa using hown9
          go_roundw
          case rel => exact ⟨j + 1, N ++ [nn], X', R', by go_num, by omega, by rw [List.length_append, hNl]; rfl, hown10, hSt9, hM'.out, (hG.ext hEa).app hown8 (by omega) hgrow9, ((hS.ext hEa).app hown8 (by omega) hgrow9).more (by omega), (hX.trans hEa.extS).app hown8 (by omega) hgrow9, Nat.le_trans hz8 hgrow9.size⟩
          case measure => simp [intOf]; omega
      · skip
        refine wp_region_facts [11] [([], false, false), ([], false, false), ([], false, false), ([2], false, false), ([2, 3], false, false), ([1, 2, 3, 4], false, false), ([1, 2, 3, 4, 5], false, false), ([], false, false), ([0, 1, 2, 3, 4, 5, 6, 7], false, false), ([0, 1, 2, 3, 4, 5, 6, 7, 8], false, false), ([0, 1, 2, 3, 4, 5, 6, 7, 8, 9], false, false), ([0, 1, 2, 3, 4, 5, 6, 7, 8, 9], false, false), ([], false, true)] (Ext) Ext (fun _ => True) (by kernel_rfl) (by kernel_rfl) Ext.refl (fun _ _ _ => Ext.trans) (fun _ _ h => h) (fun _ _ h => h.size) (fun _ _ h _ => h) trivial ?_
        dsimp only [List.length_cons, List.length_nil, List.drop_succ_cons, List.drop_zero, List.drop_nil]
        refine fac_quiet 0 rfl rfl rfl (fun _ _ h _ => h) rfl rfl ?_
        apply Exists.intro
        refine ⟨fun sv w' hw' hfa => ?_, ?_⟩
        · have hk9 := (Ext.refl w4).drew.trans hw'; have z1 := (hk9.walk.1 _ _ l6).trans c1
          refine ⟨rfl, ?_⟩
          simp only [putsL]
          change quietTo _ _ _ _ (Sem.run _ (execOp (Act.eval _) _) _)
          rw [exec_load_row 29 (.tmp 4) rfl gS rfl 29 (sc xs) (0, 0) _ (hG4.ext ((Ext.refl w4).drew.trans hw')) Tryz.underlying29 rfl hi]
          simp [quietTo, Ext.refl]
          all_goals rfl
        refine fac_quiet 1 rfl rfl rfl (fun _ _ h _ => h) rfl rfl ?_
        apply Exists.intro
        refine ⟨fun sv w' hw' hfa => ?_, ?_⟩
        · refine ⟨rfl, ?_⟩
          simp only [putsL]
          change quietTo _ _ _ _ (Sem.run _ (execOp (Act.eval _) _) _)
          try simp only [Act.put, List.setIfInBounds_toArray, List.set_cons_succ, List.set_cons_zero]
          simp [go_sem, quietTo, Ext.refl]
          all_goals first
            | rfl
        refine fac_quiet 2 rfl rfl rfl (fun _ _ h _ => h) rfl rfl ?_
        apply Exists.intro
        refine ⟨fun sv w' hw' hfa => ?_, ?_⟩
        · refine ⟨rfl, ?_⟩
          simp only [putsL]
          change quietTo _ _ _ _ (Sem.run _ (execOp (Act.eval _) _) _)
          try simp only [Act.put, List.setIfInBounds_toArray, List.set_cons_succ, List.set_cons_zero]
          simp [go_sem, quietTo, Ext.refl]
          all_goals first
            | rfl
        refine fac_quiet 3 rfl rfl rfl (fun _ _ h _ => h) rfl rfl ?_
        apply Exists.intro
        refine ⟨fun sv w' hw' hfa => ?_, ?_⟩
        · obtain ⟨f2, -⟩ := hfa
          replace f2 : sv 2 = _ := f2
          try dsimp only at f2
          refine ⟨rfl, ?_⟩
          simp only [putsL]
          change quietTo _ _ _ _ (Sem.run _ (execOp (Act.eval (Act.put _ (some 40) (sv 2))) _) _)
          try simp only [Act.put, List.setIfInBounds_toArray, List.set_cons_succ, List.set_cons_zero]
          simp [go_sem, quietTo, Ext.refl, ↓IntWalk.iteOmega, f2]
          all_goals try simp (disch := omega) only [IntWalk.i64_in]
          all_goals first
            | rfl
        refine fac_quiet 4 rfl rfl rfl (fun _ _ h _ => h) rfl rfl ?_
        apply Exists.intro
        refine ⟨fun sv w' hw' hfa => ?_, ?_⟩
        · obtain ⟨_, f3, -⟩ := hfa
          replace f3 : sv 3 = _ := f3
          try dsimp only at f3
          refine ⟨rfl, ?_⟩
          simp only [putsL]
          change quietTo _ _ _ _ (Sem.run _ (execOp (Act.eval (Act.put (Act.put _ (some 41) (sv 3)) (some 40) (sv 2))) _) _)
          try simp only [Act.put, List.setIfInBounds_toArray, List.set_cons_succ, List.set_cons_zero]
          simp [go_sem, quietTo, Ext.refl, ↓IntWalk.iteOmega, f3]
          all_goals try simp (disch := omega) only [IntWalk.i64_in]
          all_goals first
            | rfl
        refine fac_quiet 5 rfl rfl rfl (fun _ _ h _ => h) rfl rfl ?_
        apply Exists.intro
        refine ⟨fun sv w' hw' hfa => ?_, ?_⟩
        · obtain ⟨f1, _, _, f4, -⟩ := hfa
          replace f1 : sv 1 = _ := f1
          try dsimp only at f1
          replace f4 : sv 4 = _ := f4
          try dsimp only at f4
          have hk9 := (Ext.refl w4).drew.trans hw'; have z1 := (hk9.walk.1 _ _ l6).trans c1
          refine ⟨rfl, ?_⟩
          simp only [putsL]
          change quietTo _ _ _ _ (Sem.run _ (execOp (Act.eval (Act.put (Act.put (Act.put (Act.put _ (some 42) (sv 4)) (some 41) (sv 3)) (some 40) (sv 2)) (some 39) (sv 1))) _) _)
          try simp only [Act.put, List.setIfInBounds_toArray, List.set_cons_succ, List.set_cons_zero]
          simp [go_sem, quietTo, Ext.refl, ↓IntWalk.iteOmega, f1, f4, hjI]
          all_goals try simp (disch := omega) only [IntWalk.i64_in]
          all_goals first
            | rfl
        refine fac_quiet 6 rfl rfl rfl (fun _ _ h _ => h) rfl rfl ?_
        apply Exists.intro
        refine ⟨fun sv w' hw' hfa => ?_, ?_⟩
        · obtain ⟨_, _, _, _, f5, -⟩ := hfa
          replace f5 : sv 5 = _ := f5
          try dsimp only at f5
          have hk9 := (Ext.refl w4).drew.trans hw'; have z1 := (hk9.walk.1 _ _ l6).trans c1
          refine ⟨rfl, ?_⟩
          simp only [putsL]
          change quietTo _ _ _ _ (Sem.run _ (execOp (Act.eval (Act.put (Act.put (Act.put (Act.put (Act.put _ (some 43) (sv 5)) (some 42) (sv 4)) (some 41) (sv 3)) (some 40) (sv 2)) (some 39) (sv 1))) _) _)
          try simp only [Act.put, List.setIfInBounds_toArray, List.set_cons_succ, List.set_cons_zero]
          simp [go_sem, quietTo, Ext.refl, ↓IntWalk.iteOmega, f5, z1]
          all_goals try simp (disch := omega) only [IntWalk.i64_in]
          all_goals first
            | rfl
        refine fac_quiet 7 rfl rfl rfl (fun _ _ h _ => h) rfl rfl ?_
        apply Exists.intro
        refine ⟨fun sv w' hw' hfa => ?_, ?_⟩
        · refine ⟨rfl, ?_⟩
          simp only [putsL]
          change quietTo _ _ _ _ (Sem.run _ (execOp (Act.eval _) _) _)
          try simp only [Act.put, List.setIfInBounds_toArray, List.set_cons_succ, List.set_cons_zero]
          simp [go_sem, quietTo, Ext.refl]
          all_goals first
            | rfl
        refine fac_quiet 8 rfl rfl rfl (fun _ _ h _ => h) rfl rfl ?_
        apply Exists.intro
        refine ⟨fun sv w' hw' hfa => ?_, ?_⟩
        · obtain ⟨f0, f1, f2, f3, f4, f5, f6, f7, -⟩ := hfa
          replace f0 : sv 0 = _ := f0
          try dsimp only at f0
          replace f1 : sv 1 = _ := f1
          try dsimp only at f1
          replace f2 : sv 2 = _ := f2
          try dsimp only at f2
          replace f3 : sv 3 = _ := f3
          try dsimp only at f3
          replace f4 : sv 4 = _ := f4
          try dsimp only at f4
          replace f5 : sv 5 = _ := f5
          try dsimp only at f5
          replace f6 : sv 6 = _ := f6
          try dsimp only at f6
          replace f7 : sv 7 = _ := f7
          try dsimp only at f7
          have hk9 := (Ext.refl w4).drew.trans hw'; have z1 := (hk9.walk.1 _ _ l6).trans c1
          refine ⟨rfl, ?_⟩
          simp only [putsL]
          change quietTo _ _ _ _ (Sem.run _ (execOp (Act.eval (Act.put (Act.put (Act.put (Act.put (Act.put (Act.put (Act.put (Act.put _ (some 45) (sv 7)) (some 44) (sv 6)) (some 43) (sv 5)) (some 42) (sv 4)) (some 41) (sv 3)) (some 40) (sv 2)) (some 39) (sv 1)) (some 38) (sv 0))) _) _)
          try simp only [Act.put, List.setIfInBounds_toArray, List.set_cons_succ, List.set_cons_zero]
          simp [go_sem, quietTo, Ext.refl, ↓IntWalk.iteOmega, f0, f6, f7]
          all_goals try simp (disch := omega) only [IntWalk.i64_in]
          all_goals first
            | rfl
            | (exact hbw.out _)
        refine fac_quiet 9 rfl rfl rfl (fun _ _ h _ => h) rfl rfl ?_
        apply Exists.intro
        refine ⟨fun sv w' hw' hfa => ?_, ?_⟩
        · obtain ⟨_, _, _, _, _, _, _, _, f8, -⟩ := hfa
          replace f8 : sv 8 = _ := f8
          try dsimp only at f8
          refine ⟨rfl, ?_⟩
          simp only [putsL]
          change quietTo _ _ _ _ (Sem.run _ (execOp (Act.eval (Act.put (Act.put (Act.put (Act.put (Act.put (Act.put (Act.put (Act.put (Act.put _ (some 46) (sv 8)) (some 45) (sv 7)) (some 44) (sv 6)) (some 43) (sv 5)) (some 42) (sv 4)) (some 41) (sv 3)) (some 40) (sv 2)) (some 39) (sv 1)) (some 38) (sv 0))) _) _)
          try simp only [Act.put, List.setIfInBounds_toArray, List.set_cons_succ, List.set_cons_zero]
          simp [go_sem, quietTo, Ext.refl, f8]
          all_goals first
            | rfl
        refine fac_quiet 10 rfl rfl rfl (fun _ _ h _ => h) rfl rfl ?_
        apply Exists.intro
        refine ⟨fun sv w' hw' hfa => ?_, ?_⟩
        · obtain ⟨_, _, _, _, _, _, _, _, _, f9, -⟩ := hfa
          replace f9 : sv 9 = _ := f9
          try dsimp only at f9
          refine ⟨rfl, ?_⟩
          simp only [putsL]
          change quietTo _ _ _ _ (Sem.run _ (execOp (Act.eval (Act.put (Act.put (Act.put (Act.put (Act.put (Act.put (Act.put (Act.put (Act.put (Act.put _ (some 37) (sv 9)) (some 46) (sv 8)) (some 45) (sv 7)) (some 44) (sv 6)) (some 43) (sv 5)) (some 42) (sv 4)) (some 41) (sv 3)) (some 40) (sv 2)) (some 39) (sv 1)) (some 38) (sv 0))) _) _)
          try simp only [Act.put, List.setIfInBounds_toArray, List.set_cons_succ, List.set_cons_zero]
          simp [go_sem, quietTo, Ext.refl, f9]
          all_goals first
            | rfl
        refine fac_late 11 rfl rfl Ext.refl (fun _ _ h _ => h) rfl rfl (fun _ _ _ _ h => h) ?_
        apply Exists.intro
        refine ⟨fun sv w' hw' hfa => ?_, ?_⟩
        · obtain ⟨_, _, _, _, _, _, _, _, _, f9, -⟩ := hfa
          replace f9 : sv 9 = _ := f9
          try dsimp only at f9
          refine ⟨rfl, fun w2 => ?_⟩
          simp only [putsL]
          change pureTo _ _ (Sem.run _ (execOp (Act.eval (Act.put (Act.put (Act.put (Act.put (Act.put (Act.put (Act.put (Act.put (Act.put (Act.put _ (some 37) (sv 9)) (some 46) (sv 8)) (some 45) (sv 7)) (some 44) (sv 6)) (some 43) (sv 5)) (some 42) (sv 4)) (some 41) (sv 3)) (some 40) (sv 2)) (some 39) (sv 1)) (some 38) (sv 0))) _) _)
          try simp only [Act.put, List.setIfInBounds_toArray, List.set_cons_succ, List.set_cons_zero]
          simp [go_sem, pureTo, f9]
          all_goals try simp (disch := omega) only [IntWalk.i64_in]
          all_goals first
            | rfl
        refine fac_box 12 rfl rfl rfl (fun _ _ h _ => h) (fun _ _ h => h.size) (fun _ _ _ _ _ he _ hb => hb.ext he) ?_
        apply Exists.intro
        apply Exists.intro
        refine ⟨fun sv w' hw' hfa => ?_, ?_⟩
        · refine ⟨rfl, ?_⟩
          simp only [putsL]
          change boxTo _ _ _ (Sem.run _ (execOp (Act.eval _) _) _)
          try simp only [Act.put, List.setIfInBounds_toArray, List.set_cons_succ, List.set_cons_zero]
          simp [go_sem, boxTo, Ext.refl]
          all_goals try simp (disch := omega) only [IntWalk.i64_in]
          all_goals first
            | rfl
            | exact ⟨rfl, rfl⟩
            | exact ⟨⟨rfl, rfl⟩, rfl⟩
        refine fac_nil fun xq wrq herq hfrq hcrq holdq hapq => ?_
        obtain ⟨f0, f1, f2, f3, f4, f5, f6, f7, f8, f9, f10, f11, f12, -⟩ := hfrq
        replace f0 : xq 0 = _ := f0
        try dsimp only at f0
        replace f1 : xq 1 = _ := f1
        try dsimp only at f1
        replace f2 : xq 2 = _ := f2
        try dsimp only at f2
        replace f3 : xq 3 = _ := f3
        try dsimp only at f3
        replace f4 : xq 4 = _ := f4
        try dsimp only at f4
        replace f5 : xq 5 = _ := f5
        try dsimp only at f5
        replace f6 : xq 6 = _ := f6
        try dsimp only at f6
        replace f7 : xq 7 = _ := f7
        try dsimp only at f7
        replace f8 : xq 8 = _ := f8
        try dsimp only at f8
        replace f9 : xq 9 = _ := f9
        try dsimp only at f9
        replace f10 : xq 10 = _ := f10
        try dsimp only at f10
        replace f11 : xq 11 = _ := f11
        try dsimp only at f11
        obtain ⟨g12, f12, l12, b12⟩ := f12
        replace f12 : xq 12 = _ := f12
        obtain ⟨p12, q12⟩ := b12.walk
        change wpList _ _ _ _ (Act.put (Act.put (Act.put (Act.put (Act.put (Act.put (Act.put (Act.put (Act.put (Act.put (Act.put (Act.put (Act.put _ (some 38) (xq 0)) (some 39) (xq 1)) (some 40) (xq 2)) (some 41) (xq 3)) (some 42) (xq 4)) (some 43) (xq 5)) (some 44) (xq 6)) (some 45) (xq 7)) (some 46) (xq 8)) (some 37) (xq 9)) (some 47) (xq 10)) (some 48) (xq 11)) (some 9) (xq 12)) _
        simp only [putsL, Nat.reduceAdd, List.drop_succ_cons, List.drop_zero, List.drop_nil, Act.put, List.setIfInBounds_toArray, List.set_cons_succ, List.set_cons_zero]
        try simp only [f0, f1, f2, f3, f4, f5, f6, f7, f8, f9, f10, f11, f12]
        clear f0 f1 f2 f3 f4 f5 f6 f7 f8 f9 f10 f11
        clear holdq hapq
        have hkq := (Ext.refl w4).drew.trans herq
        have hgw : w4.heap.size ≤ g12 := l12
        have lt12 := b12.lt
        have hE4 := (((hkq.setCell (p := ⟨g12, 0, none⟩) hgw (.int .i64 K.a)).setCell (p := ⟨g12, 1, none⟩) hgw (.int .i64 K.b)).setCell (p := ⟨g12, 2, none⟩) hgw (.int .i64 K.c)).setCell (p := ⟨g12, 3, none⟩) hgw (.int .i64 K.d)
        have hEb := hback _ hX4
        go_wp2_with (go_at_call 8; (with_reducible refine Calls.mono (h06facts_any B _ (ht.ext (hEb.trans hE4))) ?_); rintro e u9 ⟨rfl, hu9⟩)
        go_ret
        exact ⟨rfl, hEb.trans (hE4.trans hu9)⟩
    · obtain rfl : j = r := by omega
      rw [hNl] at hown
      obtain ⟨g6, cap, e6, hg6, -⟩ := hown.form (by omega)
      subst e6
      obtain ⟨l, hl⟩ := getD_some hNl (show j < j + 1 by omega)
      have c1 : wr.cell? ⟨g6, j, none⟩ = some (.int .i64 (l : Int)) := by
        have := own_cell chC_len hown hl 0 (v := .int .i64 (l : Int)) rfl (by omega)
        simpa using this
      have l6 := (hown.lt g6 rfl).2
      have hlast : N[N.length - 1]? = some l := by rw [hNl]; exact hl
      have hlr := hM.range l (List.mem_of_getElem? hl)
      have hEb := hback _ hXr
      obtain ⟨many, hfew⟩ := hM.held hok.out hq8 hlast
      have hbr := bt_right hok.out hq8 hlr.1 hlr.2
      have hmel := hM.mel hq8 (by omega)
      have hfree := hM.free (by omega)
      obtain ⟨p7, c7, rfl, hXM⟩ := hSt.stpM (by have := hM.few; omega) (fun x hx => by have := (hM.ch x hx).2.1; omega)
      obtain ⟨p6', c6', e6, hNS⟩ := slc_of_own chC_len hown (by decide) (by omega)
      cases e6
      replace hNS : Slc 1 intC wr (some ⟨g6, 0, none⟩) (j + 1) cap (noteZ N) := slc_chT hNS
      rw [← hb0.out] at hfew hbr
      obtain ⟨E, hEd⟩ : ∃ E, bt xs b0 l = E := ⟨_, rfl⟩
      have hbw : ∀ u, Calls Tryz.prog 7 #[.agg (sc xs), .int .i64 (b0 : Int), .int .i64 (l : Int)] u fun e w' => e = .returned (.tuple #[.agg #[.int .i64 E.a, .int .i64 E.b, .int .i64 E.c, .int .i64 E.d], .int .i64 0]) ∧ Ext u w' := fun u => by
        have h9 := betw_any xs b0 l _ _ u hok.out (by omega) (by have := hb0.out; omega) (sc_at hok.out b0) (sc_at hok.out l)
        change Calls _ _ _ _ (fun e w' => e = .returned (.tuple #[.agg #[.int .i64 (okI (bt xs b0 l)).a, .int .i64 (okI (bt xs b0 l)).b, .int .i64 (okI (bt xs b0 l)).c, .int .i64 (okI (bt xs b0 l)).d], .int .i64 (faultI (bt xs b0 l))]) ∧ Ext u w') at h9
        rw [show okI (bt xs b0 l) = bt xs b0 l by unfold okI; rw [hbr]; rfl, show faultI (bt xs b0 l) = 0 by unfold faultI; rw [hbr]; rfl, hEd] at h9
        exact h9
      rw [hEd] at hfew hbr
      have hho : ∀ u, Ext wr u → Calls Tryz.prog 13 #[.slice p7 X.length c7, .slice (some ⟨g6, 0, none⟩) (j + 1) cap, .agg #[.int .i64 E.a, .int .i64 E.b, .int .i64 E.c, .int .i64 E.d]] u fun e w' => (∃ (a : Value) (m : Int), e = .returned (.tuple #[a, .int .i64 m, .bool true, .int .i64 0])) ∧ Ext u w' := fun u hu => (hold_any (hXM.ext hu) (hNS.ext hu) (by unfold noteZ; rw [List.length_map, hNl]; omega) E).mono fun e w' hp => by
        obtain ⟨hE, ⟨hd, -⟩ | ⟨-, hd, -⟩ | ⟨-, -, hd, -⟩ | ⟨-, -, hd, -⟩ | ⟨-, -, mm, v, hf, rfl, ho⟩⟩ := hp
        · exact absurd hmel hd
        · rw [hbr] at hd; cases hd
        · exact absurd hd hfree
        · rw [hfew] at hd; cases hd
        · exact ⟨⟨_, _, rfl⟩, hE⟩
      have hjI : (j : Int) < (j : Int) + 1 := by omega
      replace hbw := Lib.hid hbw
      replace hho := Lib.hid hho
      replace hfew := Lib.hid hfew
      replace hmel := Lib.hid hmel
      replace hfree := Lib.hid hfree
      replace hM := Lib.hid hM
      replace hl := Lib.hid hl
      replace hlast := Lib.hid hlast
      clear hSt hown hXM hNS hXr hSr hEd
      go_upto_region 23 with fail
      refine wp_region_facts [11] [([], false, false), ([], false, false), ([], false, false), ([], false, false), ([3], false, false), ([3, 4], false, false), ([2, 3, 4, 5], false, false), ([2, 3, 4, 5, 6], false, false), ([0, 1, 2, 3, 4, 5, 6, 7], false, false), ([0, 1, 2, 3, 4, 5, 6, 7, 8], false, false), ([0, 1, 2, 3, 4, 5, 6, 7, 8, 9], false, false), ([0, 1, 2, 3, 4, 5, 6, 7, 8, 9], false, false), ([], false, true)] (Ext) Ext (fun _ => True) (by kernel_rfl) (by kernel_rfl) Ext.refl (fun _ _ _ => Ext.trans) (fun _ _ h => h) (fun _ _ h => h.size) (fun _ _ h _ => h) trivial ?_
      dsimp only [List.length_cons, List.length_nil, List.drop_succ_cons, List.drop_zero, List.drop_nil]
      refine fac_quiet 0 rfl rfl rfl (fun _ _ h _ => h) rfl rfl ?_
      apply Exists.intro
      refine ⟨fun sv w' hw' hfa => ?_, ?_⟩
      · have hk9 := (Ext.refl wr).drew.trans hw'; have z1 := (hk9.walk.1 _ _ l6).trans c1
        refine ⟨rfl, ?_⟩
        simp only [putsL]
        change quietTo _ _ _ _ (Sem.run _ (execOp (Act.eval _) _) _)
        rw [exec_load_row 29 (.tmp 4) rfl gS rfl 29 (sc xs) (0, 0) _ (hGr.ext ((Ext.refl wr).drew.trans hw')) Tryz.underlying29 rfl hi]
        simp [quietTo, Ext.refl]
        all_goals rfl
      refine fac_quiet 1 rfl rfl rfl (fun _ _ h _ => h) rfl rfl ?_
      apply Exists.intro
      refine ⟨fun sv w' hw' hfa => ?_, ?_⟩
      · refine ⟨rfl, ?_⟩
        simp only [putsL]
        change quietTo _ _ _ _ (Sem.run _ (execOp (Act.eval _) _) _)
        try simp only [Act.put, List.setIfInBounds_toArray, List.set_cons_succ, List.set_cons_zero]
        simp [go_sem, quietTo, Ext.refl]
        all_goals first
          | rfl
      refine fac_quiet 2 rfl rfl rfl (fun _ _ h _ => h) rfl rfl ?_
      apply Exists.intro
      refine ⟨fun sv w' hw' hfa => ?_, ?_⟩
      · refine ⟨rfl, ?_⟩
        simp only [putsL]
        change quietTo _ _ _ _ (Sem.run _ (execOp (Act.eval _) _) _)
        try simp only [Act.put, List.setIfInBounds_toArray, List.set_cons_succ, List.set_cons_zero]
        simp [go_sem, quietTo, Ext.refl]
        all_goals first
          | rfl
      refine fac_quiet 3 rfl rfl rfl (fun _ _ h _ => h) rfl rfl ?_
      apply Exists.intro
      refine ⟨fun sv w' hw' hfa => ?_, ?_⟩
      · refine ⟨rfl, ?_⟩
        simp only [putsL]
        change quietTo _ _ _ _ (Sem.run _ (execOp (Act.eval _) _) _)
        try simp only [Act.put, List.setIfInBounds_toArray, List.set_cons_succ, List.set_cons_zero]
        simp [go_sem, quietTo, Ext.refl]
        all_goals first
          | rfl
      refine fac_quiet 4 rfl rfl rfl (fun _ _ h _ => h) rfl rfl ?_
      apply Exists.intro
      refine ⟨fun sv w' hw' hfa => ?_, ?_⟩
      · obtain ⟨f3, -⟩ := hfa
        replace f3 : sv 3 = _ := f3
        try dsimp only at f3
        refine ⟨rfl, ?_⟩
        simp only [putsL]
        change quietTo _ _ _ _ (Sem.run _ (execOp (Act.eval (Act.put _ (some 131) (sv 3))) _) _)
        try simp only [Act.put, List.setIfInBounds_toArray, List.set_cons_succ, List.set_cons_zero]
        simp [go_sem, quietTo, Ext.refl, ↓IntWalk.iteOmega, f3]
        all_goals try simp (disch := omega) only [IntWalk.i64_in]
        all_goals first
          | rfl
      refine fac_quiet 5 rfl rfl rfl (fun _ _ h _ => h) rfl rfl ?_
      apply Exists.intro
      refine ⟨fun sv w' hw' hfa => ?_, ?_⟩
      · obtain ⟨_, f4, -⟩ := hfa
        replace f4 : sv 4 = _ := f4
        try dsimp only at f4
        refine ⟨rfl, ?_⟩
        simp only [putsL]
        change quietTo _ _ _ _ (Sem.run _ (execOp (Act.eval (Act.put (Act.put _ (some 132) (sv 4)) (some 131) (sv 3))) _) _)
        try simp only [Act.put, List.setIfInBounds_toArray, List.set_cons_succ, List.set_cons_zero]
        simp [go_sem, quietTo, Ext.refl, ↓IntWalk.iteOmega, f4]
        all_goals try simp (disch := omega) only [IntWalk.i64_in]
        all_goals first
          | rfl
      refine fac_quiet 6 rfl rfl rfl (fun _ _ h _ => h) rfl rfl ?_
      apply Exists.intro
      refine ⟨fun sv w' hw' hfa => ?_, ?_⟩
      · obtain ⟨f2, _, _, f5, -⟩ := hfa
        replace f2 : sv 2 = _ := f2
        try dsimp only at f2
        replace f5 : sv 5 = _ := f5
        try dsimp only at f5
        have hk9 := (Ext.refl wr).drew.trans hw'; have z1 := (hk9.walk.1 _ _ l6).trans c1
        refine ⟨rfl, ?_⟩
        simp only [putsL]
        change quietTo _ _ _ _ (Sem.run _ (execOp (Act.eval (Act.put (Act.put (Act.put (Act.put _ (some 133) (sv 5)) (some 132) (sv 4)) (some 131) (sv 3)) (some 130) (sv 2))) _) _)
        try simp only [Act.put, List.setIfInBounds_toArray, List.set_cons_succ, List.set_cons_zero]
        simp [go_sem, quietTo, Ext.refl, ↓IntWalk.iteOmega, f2, f5, hjI]
        all_goals try simp (disch := omega) only [IntWalk.i64_in]
        all_goals first
          | rfl
      refine fac_quiet 7 rfl rfl rfl (fun _ _ h _ => h) rfl rfl ?_
      apply Exists.intro
      refine ⟨fun sv w' hw' hfa => ?_, ?_⟩
      · obtain ⟨_, _, _, _, f6, -⟩ := hfa
        replace f6 : sv 6 = _ := f6
        try dsimp only at f6
        have hk9 := (Ext.refl wr).drew.trans hw'; have z1 := (hk9.walk.1 _ _ l6).trans c1
        refine ⟨rfl, ?_⟩
        simp only [putsL]
        change quietTo _ _ _ _ (Sem.run _ (execOp (Act.eval (Act.put (Act.put (Act.put (Act.put (Act.put _ (some 134) (sv 6)) (some 133) (sv 5)) (some 132) (sv 4)) (some 131) (sv 3)) (some 130) (sv 2))) _) _)
        try simp only [Act.put, List.setIfInBounds_toArray, List.set_cons_succ, List.set_cons_zero]
        simp [go_sem, quietTo, Ext.refl, ↓IntWalk.iteOmega, f6, z1]
        all_goals try simp (disch := omega) only [IntWalk.i64_in]
        all_goals first
          | rfl
      refine fac_quiet 8 rfl rfl rfl (fun _ _ h _ => h) rfl rfl ?_
      apply Exists.intro
      refine ⟨fun sv w' hw' hfa => ?_, ?_⟩
      · obtain ⟨f0, f1, f2, f3, f4, f5, f6, f7, -⟩ := hfa
        replace f0 : sv 0 = _ := f0
        try dsimp only at f0
        replace f1 : sv 1 = _ := f1
        try dsimp only at f1
        replace f2 : sv 2 = _ := f2
        try dsimp only at f2
        replace f3 : sv 3 = _ := f3
        try dsimp only at f3
        replace f4 : sv 4 = _ := f4
        try dsimp only at f4
        replace f5 : sv 5 = _ := f5
        try dsimp only at f5
        replace f6 : sv 6 = _ := f6
        try dsimp only at f6
        replace f7 : sv 7 = _ := f7
        try dsimp only at f7
        have hk9 := (Ext.refl wr).drew.trans hw'; have z1 := (hk9.walk.1 _ _ l6).trans c1
        refine ⟨rfl, ?_⟩
        simp only [putsL]
        change quietTo _ _ _ _ (Sem.run _ (execOp (Act.eval (Act.put (Act.put (Act.put (Act.put (Act.put (Act.put (Act.put (Act.put _ (some 135) (sv 7)) (some 134) (sv 6)) (some 133) (sv 5)) (some 132) (sv 4)) (some 131) (sv 3)) (some 130) (sv 2)) (some 129) (sv 1)) (some 128) (sv 0))) _) _)
        try simp only [Act.put, List.setIfInBounds_toArray, List.set_cons_succ, List.set_cons_zero]
        simp [go_sem, quietTo, Ext.refl, ↓IntWalk.iteOmega, f0, f1, f7]
        all_goals try simp (disch := omega) only [IntWalk.i64_in]
        all_goals first
          | rfl
          | (exact hbw.out _)
      refine fac_quiet 9 rfl rfl rfl (fun _ _ h _ => h) rfl rfl ?_
      apply Exists.intro
      refine ⟨fun sv w' hw' hfa => ?_, ?_⟩
      · obtain ⟨_, _, _, _, _, _, _, _, f8, -⟩ := hfa
        replace f8 : sv 8 = _ := f8
        try dsimp only at f8
        refine ⟨rfl, ?_⟩
        simp only [putsL]
        change quietTo _ _ _ _ (Sem.run _ (execOp (Act.eval (Act.put (Act.put (Act.put (Act.put (Act.put (Act.put (Act.put (Act.put (Act.put _ (some 136) (sv 8)) (some 135) (sv 7)) (some 134) (sv 6)) (some 133) (sv 5)) (some 132) (sv 4)) (some 131) (sv 3)) (some 130) (sv 2)) (some 129) (sv 1)) (some 128) (sv 0))) _) _)
        try simp only [Act.put, List.setIfInBounds_toArray, List.set_cons_succ, List.set_cons_zero]
        simp [go_sem, quietTo, Ext.refl, f8]
        all_goals first
          | rfl
      refine fac_quiet 10 rfl rfl rfl (fun _ _ h _ => h) rfl rfl ?_
      apply Exists.intro
      refine ⟨fun sv w' hw' hfa => ?_, ?_⟩
      · obtain ⟨_, _, _, _, _, _, _, _, _, f9, -⟩ := hfa
        replace f9 : sv 9 = _ := f9
        try dsimp only at f9
        refine ⟨rfl, ?_⟩
        simp only [putsL]
        change quietTo _ _ _ _ (Sem.run _ (execOp (Act.eval (Act.put (Act.put (Act.put (Act.put (Act.put (Act.put (Act.put (Act.put (Act.put (Act.put _ (some 127) (sv 9)) (some 136) (sv 8)) (some 135) (sv 7)) (some 134) (sv 6)) (some 133) (sv 5)) (some 132) (sv 4)) (some 131) (sv 3)) (some 130) (sv 2)) (some 129) (sv 1)) (some 128) (sv 0))) _) _)
        try simp only [Act.put, List.setIfInBounds_toArray, List.set_cons_succ, List.set_cons_zero]
        simp [go_sem, quietTo, Ext.refl, f9]
        all_goals first
          | rfl
      refine fac_late 11 rfl rfl Ext.refl (fun _ _ h _ => h) rfl rfl (fun _ _ _ _ h => h) ?_
      apply Exists.intro
      refine ⟨fun sv w' hw' hfa => ?_, ?_⟩
      · obtain ⟨_, _, _, _, _, _, _, _, _, f9, -⟩ := hfa
        replace f9 : sv 9 = _ := f9
        try dsimp only at f9
        refine ⟨rfl, fun w2 => ?_⟩
        simp only [putsL]
        change pureTo _ _ (Sem.run _ (execOp (Act.eval (Act.put (Act.put (Act.put (Act.put (Act.put (Act.put (Act.put (Act.put (Act.put (Act.put _ (some 127) (sv 9)) (some 136) (sv 8)) (some 135) (sv 7)) (some 134) (sv 6)) (some 133) (sv 5)) (some 132) (sv 4)) (some 131) (sv 3)) (some 130) (sv 2)) (some 129) (sv 1)) (some 128) (sv 0))) _) _)
        try simp only [Act.put, List.setIfInBounds_toArray, List.set_cons_succ, List.set_cons_zero]
        simp [go_sem, pureTo, f9]
        all_goals try simp (disch := omega) only [IntWalk.i64_in]
        all_goals first
          | rfl
      refine fac_box 12 rfl rfl rfl (fun _ _ h _ => h) (fun _ _ h => h.size) (fun _ _ _ _ _ he _ hb => hb.ext he) ?_
      apply Exists.intro
      apply Exists.intro
      refine ⟨fun sv w' hw' hfa => ?_, ?_⟩
      · refine ⟨rfl, ?_⟩
        simp only [putsL]
        change boxTo _ _ _ (Sem.run _ (execOp (Act.eval _) _) _)
        try simp only [Act.put, List.setIfInBounds_toArray, List.set_cons_succ, List.set_cons_zero]
        simp [go_sem, boxTo, Ext.refl]
        all_goals try simp (disch := omega) only [IntWalk.i64_in]
        all_goals first
          | rfl
          | exact ⟨rfl, rfl⟩
          | exact ⟨⟨rfl, rfl⟩, rfl⟩
      refine fac_nil fun xq wrq herq hfrq hcrq holdq hapq => ?_
      obtain ⟨f0, f1, f2, f3, f4, f5, f6, f7, f8, f9, f10, f11, f12, -⟩ := hfrq
      replace f0 : xq 0 = _ := f0
      try dsimp only at f0
      replace f1 : xq 1 = _ := f1
      try dsimp only at f1
      replace f2 : xq 2 = _ := f2
      try dsimp only at f2
      replace f3 : xq 3 = _ := f3
      try dsimp only at f3
      replace f4 : xq 4 = _ := f4
      try dsimp only at f4
      replace f5 : xq 5 = _ := f5
      try dsimp only at f5
      replace f6 : xq 6 = _ := f6
      try dsimp only at f6
      replace f7 : xq 7 = _ := f7
      try dsimp only at f7
      replace f8 : xq 8 = _ := f8
      try dsimp only at f8
      replace f9 : xq 9 = _ := f9
      try dsimp only at f9
      replace f10 : xq 10 = _ := f10
      try dsimp only at f10
      replace f11 : xq 11 = _ := f11
      try dsimp only at f11
      obtain ⟨g12, f12, l12, b12⟩ := f12
      replace f12 : xq 12 = _ := f12
      obtain ⟨p12, q12⟩ := b12.walk
      change wpList _ _ _ _ (Act.put (Act.put (Act.put (Act.put (Act.put (Act.put (Act.put (Act.put (Act.put (Act.put (Act.put (Act.put (Act.put _ (some 128) (xq 0)) (some 129) (xq 1)) (some 130) (xq 2)) (some 131) (xq 3)) (some 132) (xq 4)) (some 133) (xq 5)) (some 134) (xq 6)) (some 135) (xq 7)) (some 136) (xq 8)) (some 127) (xq 9)) (some 137) (xq 10)) (some 138) (xq 11)) (some 13) (xq 12)) _
      simp only [putsL, Nat.reduceAdd, List.drop_succ_cons, List.drop_zero, List.drop_nil, Act.put, List.setIfInBounds_toArray, List.set_cons_succ, List.set_cons_zero]
      try simp only [f0, f1, f2, f3, f4, f5, f6, f7, f8, f9, f10, f11, f12]
      clear f0 f1 f2 f3 f4 f5 f6 f7 f8 f9 f10 f11
      clear holdq hapq
      have hkq := (Ext.refl wr).drew.trans herq
      have hgw : wr.heap.size ≤ g12 := l12
      have hE4 := (((hkq.setCell (p := ⟨g12, 0, none⟩) hgw (.int .i64 E.a)).setCell (p := ⟨g12, 1, none⟩) hgw (.int .i64 E.b)).setCell (p := ⟨g12, 2, none⟩) hgw (.int .i64 E.c)).setCell (p := ⟨g12, 3, none⟩) hgw (.int .i64 E.d)
      have lt12 := b12.lt
      go_wp2_with (first
        | (go_at_call 13; go_loud ((with_reducible refine Calls.mono (hho.out _ hE4) ?_); rintro e w5 ⟨⟨a5, m5, rfl⟩, hb5⟩))
        | (go_at_call 8; (with_reducible refine Calls.mono (h06facts_any B _ (ht.ext (hEb.trans (hE4.trans hb5)))) ?_); rintro e u9 ⟨rfl, hu9⟩))
      go_ret
      exact ⟨rfl, hEb.trans ((hE4.trans hb5).trans hu9)⟩
end Go.Proofs.YtapjekpjekdlkaaGreatDoor
