/- A note that is shifted by an octave, and parts that are shifted: the property answers true. Conditions: the argument is a list of ints that lies in memory; the table of the powers of ten stands. -/
import Derived.Test.YtkfdolnnkbhlhaaDoorPartsE
import Derived.Test.YtkfdolnnkbhlhaaDoorReadyT
import Derived.Outline
namespace Go.Proofs.YtkfdolnnkbhlhaaDoor
open Go Go.RowKit

def nameT (n : Nat) : ByteArray := letterB (n % 12) ++ ⟨(Lib.itoa ((n / 12 : Nat) - 1)).toArray⟩
theorem nameT_pair : ∀ n : Fin 101, 12 ≤ n.val → (nameT n.val).size = (letterB (n.val % 12)).size + 1 ∧ (nameT (n.val + 12)).size = (letterB (n.val % 12)).size + 1 ∧ 1 ≤ (letterB (n.val % 12)).size ∧
    (nameT n.val).extract 0 (letterB (n.val % 12)).size = letterB (n.val % 12) ∧ (nameT (n.val + 12)).extract 0 (letterB (n.val % 12)).size = letterB (n.val % 12) ∧
    ∃ c : Fin 100, (nameT n.val).data.toList.getD (letterB (n.val % 12)).size 0 = c.val.toUInt8 ∧ (nameT (n.val + 12)).data.toList.getD (letterB (n.val % 12)).size 0 = (c.val + 1).toUInt8 := by
  decide +kernel

set_option maxRecDepth 100000 in
set_option maxHeartbeats 3200000 in
theorem law_any (B : Nat) (w : World) (p : Option Addr) (n c : Nat) (h : Lst w w.heap.size p n) (ht : Tab B w) :
    Calls Tryd.prog 4 #[.slice p n c] w fun e w' => e = .returned (.bool true) ∧ Ext w w' := by
  have hS0 : Str (w.alloc (.cells #[.slice p n c, .int .i64 0] 25)) w.heap.size 0 := ⟨p, n, c, 0, Nat.le_refl _, Blk.new' rfl, h.low fun j hj => Below.heap_alloc w _ j hj⟩
  have hB := ht.1
  clear h
  go_enter Tryd.func4, Tryd.ntmps4
  go_upto_region 3 with (first
    | (go_at_call 9; (with_reducible refine Calls.mono (range_any w.heap.size 0 12 100 _ (by omega) (by omega) (by omega) (by omega) (by omega) hS0) ?_); rintro e w1 ⟨v, rfl, hv0, hv1, hS1, hE1⟩; obtain ⟨m, rfl⟩ : ∃ m : Nat, v = m := ⟨v.toNat, by omega⟩; clear hS0)
    | (go_at_call 12; (with_reducible refine Calls.mono (rightParts_any w.heap.size 1 _ (by omega) hS1) ?_); rintro e w2 ⟨p2, n2, c2, xs, rfl, hn2, hSl, hp2, hz2, hf2, hS2, hE2⟩)
    | (go_at_call 9; (with_reducible refine Calls.mono (range_any w.heap.size (1 + 180) 30 60 _ (by omega) (by omega) (by omega) (by omega) (by omega) hS2) ?_); rintro e w3 ⟨low, rfl, hl0, hl1, hS3, hE3⟩))
  have hEE := ((hE1.trans hE2).trans hE3)
  have hl12 := hE1.2.2.2.1
  simp only [World.size_alloc] at hl12
  have hSl3 := hSl.extS hE3 (fun a ha => by have := hp2 a ha; omega)
  have hE : Ext w w3 := ExtS.back ((Ext.refl w).alloc _) (by simp) hEE
  have hmL : m ≤ 100 := by omega
  have hN1 := fun W (hW : Ext w W) => name_any m B W (by omega) (ht.ext hW)
  have hN2 := fun W (hW : Ext w W) => name_any (m + 12) B W (by omega) (ht.ext hW)
  obtain ⟨hA, hA', hq, hx1, hx2, c', hc1, hc2⟩ := nameT_pair ⟨m, by omega⟩ (by simp only; omega)
  change ∀ W, Ext w W → Calls Tryd.prog 13 #[.int .i64 ((m : Nat) : Int)] W (fun e w' => e = .returned (.tuple #[.string (nameT m), .int .i64 0]) ∧ Ext W w') at hN1
  change ∀ W, Ext w W → Calls Tryd.prog 13 #[.int .i64 ((m + 12 : Nat) : Int)] W (fun e w' => e = .returned (.tuple #[.string (nameT (m + 12)), .int .i64 0]) ∧ Ext W w') at hN2
  rw [show ((m + 12 : Nat) : Int) = (m : Int) + 12 by omega] at hN2
  simp only at hA hA' hq hx1 hx2 hc1 hc2
  have hqb := letter_size (Nat.mod_lt m (by decide : 0 < 12))
  generalize nameT m = A at hN1 hA hx1 hc1
  generalize nameT (m + 12) = A' at hN2 hA' hx2 hc2
  generalize letterB (m % 12) = L at hA hA' hq hx1 hx2 hc1 hc2 hqb
  generalize hqq : L.size = q at hA hA' hq hx1 hx2 hc1 hc2 hqb
  clear hqq
  have hi1 : ∀ h : q < A.size, (A[q]'h).toNat = c'.val := fun h => by
    have e1 : A.data.toList.getD q 0 = A[q] := by rw [List.getD_eq_getElem?_getD, List.getElem?_eq_getElem (by simpa using h)]; rfl
    rw [← e1, hc1]
    have := c'.isLt
    simp
    omega
  have hi2 : ∀ h : q < A'.size, (A'[q]'h).toNat = c'.val + 1 := fun h => by
    have e1 : A'.data.toList.getD q 0 = A'[q] := by rw [List.getD_eq_getElem?_getD, List.getElem?_eq_getElem (by simpa using h)]; rfl
    rw [← e1, hc2]
    have := c'.isLt
    simp
    omega
  clear hc1 hc2
  obtain ⟨cc, hcc⟩ := c'
  simp only at hi1 hi2
  have hu8 : IntKind.u8.wrap ((cc : Int) + 1) = (cc : Int) + 1 := by
    simp [IntKind.wrap, IntKind.bits]
    omega
  have hsz1 := hA
  have hsz2 := hA'
  replace hA := Lib.hid hA
  replace hA' := Lib.hid hA'
  replace hx1 := Lib.hid hx1
  replace hx2 := Lib.hid hx2
  replace hi1 := Lib.hid hi1
  replace hi2 := Lib.hid hi2
  replace hu8 := Lib.hid hu8
  replace hN1 := Lib.hid hN1
  replace hN2 := Lib.hid hN2
  replace hz2 := Lib.hid hz2
  replace hf2 := Lib.hid hf2
  clear hE1 hE2 hE3 hEE hS1 hS2 hS3 hSl hp2 hsz1 hsz2
  go_upto_region 5 with (first
    | (go_at_call 13; (with_reducible refine Calls.mono (hN1.out _ (by exact hE)) ?_); rintro e w4 ⟨rfl, hb4⟩; clear hN1)
    | (go_at_call 13; (with_reducible refine Calls.mono (hN2.out _ (by exact hE.trans hb4)) ?_); rintro e w5 ⟨rfl, hb5⟩; clear hN2))
  have hq2 : decide ((q : Int) + 1 < 2) = false := decide_eq_false (by omega)
  have hwq : IntKind.i64.wrap (q : Int) = q := IntWalk.i64_in _ (by omega)
  refine wp_region_planS [(0, true), (1, true), (2, true), (3, true), (4, true), (5, true), (6, true), (7, true), (8, true), (9, true), (10, true), (11, true), (12, true), (13, true), (14, true), (15, true), (16, true), (17, true), (18, true), (19, true), (20, true), (21, true), (22, true), (23, true), (24, true), (25, true), (26, true), (27, true), (28, true), (29, true), (30, true), (31, true), (32, true), (33, true), (34, true), (35, true), (36, true), (37, true), (38, true), (39, true), (40, true), (41, true), (42, true)] 43 (fun w' => Ext w5 w') Ext (by kernel_rfl) (by kernel_rfl) Ext.refl (fun _ _ _ => Ext.trans) (fun _ _ h he => h.trans he) (by (repeat (with_reducible first | assumption | exact Blk.new' (by simp) | refine Blk.drew ?_ | refine Blk.alloc ?_ _ | exact Ext.refl _ | refine Ext.drew ?_ | refine Ext.alloc ?_ _))) ?_
  repeat
    first
      | (refine plan_quiet rfl rfl (fun _ _ _ _ h => h) ?_
         apply Exists.intro
         refine ⟨fun w' hw' => ?_, ?_⟩
         · obtain hHq0 := hw'
           skip
           simp [go_sem, quietTo, World.cell?, Ext.refl, ↓IntWalk.iteOmega, hA.out, hA'.out, hx1.out, hx2.out, hi1.out, hi2.out, hu8.out, hq2, hwq]
           first
             | rfl
         simp only [Act.put, List.setIfInBounds_toArray, List.set_cons_succ, List.set_cons_zero])
      | (refine plan_skip rfl rfl (fun _ _ _ _ h => h) ?_
         simp only [Act.put, List.setIfInBounds_toArray, List.set_cons_succ, List.set_cons_zero])
  refine plan_nil fun wrq herq hwrq => ?_
  clear herq
  have hHq0 := hwrq

  simp only [List.drop_succ_cons, List.drop_zero, List.drop_nil]
  have hEq : Ext w wrq := ((hE.trans hb4).trans hb5).trans hHq0
  have hSq : Slc 5 partC wrq p2 n2 c2 xs := ((hSl3.ext hb4).ext hb5).ext hHq0
  have hfin := hf2.out
  have hrt := (partsF_right hz2.out).2
  have hok : okUp xs 12 = true := by
    unfold okUp
    rw [List.all_eq_true]
    intro x hx
    have h1 := (hrt x hx).2
    have h2 := hfin x hx
    unfold rightP at h1
    simp only [Bool.and_eq_true] at h1
    have h3 := right_b h1.1.1
    unfold rightR outB
    simp
    have := h2.2
    omega
  have hsh := Shifted_any p2 n2 c2 xs 12 wrq hSq (by omega) (fun x hx => (hfin x hx).1) (by omega) hz2.out hok
  replace hfin := Lib.hid hfin
  replace hrt := Lib.hid hrt
  clear hA hA' hx1 hx2 hi1 hi2 hu8 hq hqb hq2 hwq hcc hE hSl3 hb4 hb5 hHq0 hz2 hf2 hok hmL
  go_upto_region 13 with (go_at_call 14; (with_reducible refine Calls.mono hsh ?_); rintro e w6 ⟨p', c', rfl, hS6, hb6⟩)
  have hE6 := hEq.trans hb6
  have hl1w : w.heap.size ≤ w6.heap.size := hE6.size
  have hV : Blk ((w6.alloc (.cells #[.int .i64 low, .int .i64 (low + 20)] 48)).alloc (.cells #[.int .i64 (low + 12), .int .i64 (low + 32)] 48)) w6.heap.size 48 #[.int .i64 low, .int .i64 (low + 20)] := (Blk.new' rfl).alloc _
  have hW : Blk ((w6.alloc (.cells #[.int .i64 low, .int .i64 (low + 20)] 48)).alloc (.cells #[.int .i64 (low + 12), .int .i64 (low + 32)] 48)) (w6.heap.size + 1) 48 #[.int .i64 (low + 12), .int .i64 (low + 32)] := Blk.new' (by simp)
  have hX : Ext w6 ((w6.alloc (.cells #[.int .i64 low, .int .i64 (low + 20)] 48)).alloc (.cells #[.int .i64 (low + 12), .int .i64 (low + 32)] 48)) := ((Ext.refl _).alloc _).alloc _
  have hP := (hSq.ext hb6).ext hX
  have hQ := hS6.ext hX
  have hE7 := hE6.trans hX
  clear hsh hwrq hSq hS6 hb6 hEq hX hE6
  generalize (w6.alloc (.cells #[.int .i64 low, .int .i64 (low + 20)] 48)).alloc (.cells #[.int .i64 (low + 12), .int .i64 (low + 32)] 48) = W at hV hW hP hQ hE7 ⊢
  by_cases h0 : n2 = 0
  · subst h0
    rw [show ((0 : Nat) : Int) = 0 from rfl]
    clear hV hW hP hQ
    refine wp_loop_rounds 1 ?_
    rw [rounds_succ]
    go_wp2_with (go_at_call 16; (with_reducible refine Calls.mono (h06facts_any B _ (by exact ht.ext hE7)) ?_); rintro e w7 ⟨rfl, hb7⟩)
    go_ret
    exact ⟨rfl, hE7.trans hb7⟩
  · obtain ⟨bp, op, rfl, hbp, hEp⟩ := hP.1.2.2 h0
    obtain ⟨bq, oq, rfl, hbq, hEQ⟩ := hQ.1.2.2 h0
    have hxl : xs.length = n2 := hP.1.1
    replace hxl := Lib.hid hxl
    replace h0 := Lib.hid h0
    clear hP hQ
    go_loopw [109] (fun i wr => ∃ k : Nat, k ≤ n2 ∧ i = .int .i64 k ∧ Ext W wr) (fun i _ => n2 - (intOf i).toNat)
    case atStart => exact ⟨0, Nat.zero_le _, rfl, Ext.refl _⟩
    case round =>
      obtain ⟨k, hk, rfl, he⟩ := hrel
      by_cases hlt : k < n2
      · obtain ⟨x, hx⟩ := getD_some hxl.out hlt
        have hy : (xs.map (PartV.up · 12))[k]? = some (x.up 12) := by rw [List.getElem?_map, hx]; rfl
        obtain ⟨-, c1, c2', -, -⟩ := hEp.part hx
        obtain ⟨-, d1, d2, -, -⟩ := hEQ.part hy
        have hxm := List.mem_of_getElem? hx
        have hr1 : rightR x.lo x.hi = true := by
          have := (hrt.out x hxm).2
          unfold rightP at this
          simp only [Bool.and_eq_true] at this
          exact this.1.1
        have hb := right_b hr1
        have hhi := (hfin.out x hxm).2
        have hr2 : rightR (x.lo + 12) (x.hi + 12) = true := by unfold rightR outB; simp; omega
        have hr3 : rightR low (low + 20) = true := by unfold rightR outB; simp; omega
        have hr4 : rightR (low + 12) (low + 32) = true := by unfold rightR outB; simp; omega
        have hc1 := fun W => Comfort_any low (low + 20) x.lo x.hi W
        have hc2 := fun W => Comfort_any (low + 12) (low + 32) (x.lo + 12) (x.hi + 12) W
        have hce : comfN (low + 12) (low + 32) (x.lo + 12) (x.hi + 12) = comfN low (low + 20) x.lo x.hi := by unfold comfN; omega
        rw [hr1, hr3] at hc1
        rw [hr2, hr4, hce] at hc2
        simp only [Bool.and_self, if_true] at hc1 hc2
        generalize max (comfN low (low + 20) x.lo x.hi) 0 = cN at hc1 hc2
        generalize decide (0 ≤ comfN low (low + 20) x.lo x.hi) = cB at hc1 hc2
        have e1 : (x.up 12).lo = x.lo + 12 := rfl
        have e2 : (x.up 12).hi = x.hi + 12 := rfl
        rw [e1] at d1
        rw [e2] at d2
        clear e1 e2 hr1 hr2 hr3 hr4 hce hb hhi hxm
        replace hx := Lib.hid hx
        replace hy := Lib.hid hy
        have v0 := hV.cell 0
        have v1 := hV.cell 1
        have u0 := hW.cell 0
        have u1 := hW.cell 1
        have lV := hV.lt
        have lW := hW.lt
        replace hc1 := Lib.hid hc1
        replace hc2 := Lib.hid hc2
        go_upto_region 15 with fail
        refine wp_region_facts [] [([], false, false), ([], false, false), ([], false, false), ([1, 2], false, false), ([1, 2, 3], false, false), ([1, 2, 3, 4], false, false), ([0, 1, 2, 3, 4, 5], false, false), ([0, 1, 2, 3, 4, 5, 6], false, false), ([0, 1, 2, 3, 4, 5, 6, 7], false, false), ([0, 1, 2, 3, 4, 5, 6, 7], false, false), ([0, 1, 2, 3, 4, 5, 6, 7], false, false), ([0, 1, 2, 3, 4, 5, 6, 7, 8], false, false), ([0, 1, 2, 3, 4, 5, 6, 7, 9], false, false), ([0, 1, 2, 3, 4, 5, 6, 7, 10], false, false)] (Ext) Ext (fun _ => True) (by kernel_rfl) (by kernel_rfl) Ext.refl (fun _ _ _ => Ext.trans) (fun _ _ h => h) (fun _ _ h => h.size) (fun _ _ h _ => h) trivial ?_
        dsimp only [List.length_cons, List.length_nil, List.drop_succ_cons, List.drop_zero, List.drop_nil]
        refine fac_quiet 0 rfl rfl rfl (fun _ _ h _ => h) rfl rfl ?_
        apply Exists.intro
        refine ⟨fun sv w' hw' hfa => ?_, ?_⟩
        · obtain ⟨hc, hf, hz⟩ := (he.drew.trans hw').walk; have y0 := (hc _ 0 lV).trans v0; have y1 := (hc _ 1 lV).trans v1; have y2 := (hc _ (op + k * 5 + 1) hbp).trans c1; have y3 := (hc _ (op + k * 5 + 2) hbp).trans c2'
          refine ⟨rfl, ?_⟩
          simp only [putsL]
          change quietTo _ _ _ _ (Sem.run _ (execOp (Act.eval _) _) _)
          try simp only [Act.put, List.setIfInBounds_toArray, List.set_cons_succ, List.set_cons_zero]
          simp [go_sem, quietTo, Ext.refl, ↓IntWalk.iteOmega, y0, y1, y2, y3]
          all_goals try simp (disch := omega) only [IntWalk.i64_in]
          all_goals first
            | rfl
        refine fac_quiet 1 rfl rfl rfl (fun _ _ h _ => h) rfl rfl ?_
        apply Exists.intro
        refine ⟨fun sv w' hw' hfa => ?_, ?_⟩
        · obtain ⟨hc, hf, hz⟩ := (he.drew.trans hw').walk; have y0 := (hc _ 0 lV).trans v0; have y1 := (hc _ 1 lV).trans v1; have y2 := (hc _ (op + k * 5 + 1) hbp).trans c1; have y3 := (hc _ (op + k * 5 + 2) hbp).trans c2'
          refine ⟨rfl, ?_⟩
          simp only [putsL]
          change quietTo _ _ _ _ (Sem.run _ (execOp (Act.eval _) _) _)
          try simp only [Act.put, List.setIfInBounds_toArray, List.set_cons_succ, List.set_cons_zero]
          simp [go_sem, quietTo, Ext.refl]
          all_goals try simp (disch := omega) only [IntWalk.i64_in]
          all_goals first
            | rfl
        refine fac_quiet 2 rfl rfl rfl (fun _ _ h _ => h) rfl rfl ?_
        apply Exists.intro
        refine ⟨fun sv w' hw' hfa => ?_, ?_⟩
        · obtain ⟨hc, hf, hz⟩ := (he.drew.trans hw').walk; have y0 := (hc _ 0 lV).trans v0; have y1 := (hc _ 1 lV).trans v1; have y2 := (hc _ (op + k * 5 + 1) hbp).trans c1; have y3 := (hc _ (op + k * 5 + 2) hbp).trans c2'
          refine ⟨rfl, ?_⟩
          simp only [putsL]
          change quietTo _ _ _ _ (Sem.run _ (execOp (Act.eval _) _) _)
          try simp only [Act.put, List.setIfInBounds_toArray, List.set_cons_succ, List.set_cons_zero]
          simp [go_sem, quietTo, Ext.refl]
          all_goals try simp (disch := omega) only [IntWalk.i64_in]
          all_goals first
            | rfl
        refine fac_quiet 3 rfl rfl rfl (fun _ _ h _ => h) rfl rfl ?_
        apply Exists.intro
        refine ⟨fun sv w' hw' hfa => ?_, ?_⟩
        · obtain ⟨f1, f2, -⟩ := hfa
          replace f1 : sv 1 = _ := f1
          try dsimp only at f1
          replace f2 : sv 2 = _ := f2
          try dsimp only at f2
          obtain ⟨hc, hf, hz⟩ := (he.drew.trans hw').walk; have y0 := (hc _ 0 lV).trans v0; have y1 := (hc _ 1 lV).trans v1; have y2 := (hc _ (op + k * 5 + 1) hbp).trans c1; have y3 := (hc _ (op + k * 5 + 2) hbp).trans c2'
          refine ⟨rfl, ?_⟩
          simp only [putsL]
          change quietTo _ _ _ _ (Sem.run _ (execOp (Act.eval (Act.put (Act.put _ (some 115) (sv 2)) (some 114) (sv 1))) _) _)
          try simp only [Act.put, List.setIfInBounds_toArray, List.set_cons_succ, List.set_cons_zero]
          simp [go_sem, quietTo, Ext.refl, ↓IntWalk.iteOmega, f1, f2, y0, y1, y2, y3]
          all_goals try simp (disch := omega) only [IntWalk.i64_in]
          all_goals first
            | rfl
        refine fac_quiet 4 rfl rfl rfl (fun _ _ h _ => h) rfl rfl ?_
        apply Exists.intro
        refine ⟨fun sv w' hw' hfa => ?_, ?_⟩
        · obtain ⟨f1, f2, f3, -⟩ := hfa
          replace f1 : sv 1 = _ := f1
          try dsimp only at f1
          replace f2 : sv 2 = _ := f2
          try dsimp only at f2
          replace f3 : sv 3 = _ := f3
          try dsimp only at f3
          obtain ⟨hc, hf, hz⟩ := (he.drew.trans hw').walk; have y0 := (hc _ 0 lV).trans v0; have y1 := (hc _ 1 lV).trans v1; have y2 := (hc _ (op + k * 5 + 1) hbp).trans c1; have y3 := (hc _ (op + k * 5 + 2) hbp).trans c2'
          refine ⟨rfl, ?_⟩
          simp only [putsL]
          change quietTo _ _ _ _ (Sem.run _ (execOp (Act.eval (Act.put (Act.put (Act.put _ (some 116) (sv 3)) (some 115) (sv 2)) (some 114) (sv 1))) _) _)
          try simp only [Act.put, List.setIfInBounds_toArray, List.set_cons_succ, List.set_cons_zero]
          simp [go_sem, quietTo, Ext.refl, f3]
          all_goals try simp (disch := omega) only [IntWalk.i64_in]
          all_goals first
            | rfl
        refine fac_quiet 5 rfl rfl rfl (fun _ _ h _ => h) rfl rfl ?_
        apply Exists.intro
        refine ⟨fun sv w' hw' hfa => ?_, ?_⟩
        · obtain ⟨f1, f2, f3, f4, -⟩ := hfa
          replace f1 : sv 1 = _ := f1
          try dsimp only at f1
          replace f2 : sv 2 = _ := f2
          try dsimp only at f2
          replace f3 : sv 3 = _ := f3
          try dsimp only at f3
          replace f4 : sv 4 = _ := f4
          try dsimp only at f4
          obtain ⟨hc, hf, hz⟩ := (he.drew.trans hw').walk; have y0 := (hc _ 0 lV).trans v0; have y1 := (hc _ 1 lV).trans v1; have y2 := (hc _ (op + k * 5 + 1) hbp).trans c1; have y3 := (hc _ (op + k * 5 + 2) hbp).trans c2'
          refine ⟨rfl, ?_⟩
          simp only [putsL]
          change quietTo _ _ _ _ (Sem.run _ (execOp (Act.eval (Act.put (Act.put (Act.put (Act.put _ (some 117) (sv 4)) (some 116) (sv 3)) (some 115) (sv 2)) (some 114) (sv 1))) _) _)
          try simp only [Act.put, List.setIfInBounds_toArray, List.set_cons_succ, List.set_cons_zero]
          simp [go_sem, quietTo, Ext.refl, ↓IntWalk.iteOmega, f4, y0, y1, y2, y3]
          all_goals try simp (disch := omega) only [IntWalk.i64_in]
          all_goals first
            | rfl
        refine fac_quiet 6 rfl rfl rfl (fun _ _ h _ => h) rfl rfl ?_
        apply Exists.intro
        refine ⟨fun sv w' hw' hfa => ?_, ?_⟩
        · obtain ⟨f0, f1, f2, f3, f4, f5, -⟩ := hfa
          replace f0 : sv 0 = _ := f0
          try dsimp only at f0
          replace f1 : sv 1 = _ := f1
          try dsimp only at f1
          replace f2 : sv 2 = _ := f2
          try dsimp only at f2
          replace f3 : sv 3 = _ := f3
          try dsimp only at f3
          replace f4 : sv 4 = _ := f4
          try dsimp only at f4
          replace f5 : sv 5 = _ := f5
          try dsimp only at f5
          obtain ⟨hc, hf, hz⟩ := (he.drew.trans hw').walk; have y0 := (hc _ 0 lV).trans v0; have y1 := (hc _ 1 lV).trans v1; have y2 := (hc _ (op + k * 5 + 1) hbp).trans c1; have y3 := (hc _ (op + k * 5 + 2) hbp).trans c2'
          refine ⟨rfl, ?_⟩
          simp only [putsL]
          change quietTo _ _ _ _ (Sem.run _ (execOp (Act.eval (Act.put (Act.put (Act.put (Act.put (Act.put (Act.put _ (some 118) (sv 5)) (some 117) (sv 4)) (some 116) (sv 3)) (some 115) (sv 2)) (some 114) (sv 1)) (some 113) (sv 0))) _) _)
          try simp only [Act.put, List.setIfInBounds_toArray, List.set_cons_succ, List.set_cons_zero]
          simp [go_sem, quietTo, Ext.refl, ↓IntWalk.iteOmega, f0, f5, y0, y1, y2, y3]
          all_goals try simp (disch := omega) only [IntWalk.i64_in]
          all_goals first
            | rfl
            | (exact hc1.out _)
        refine fac_quiet 7 rfl rfl rfl (fun _ _ h _ => h) rfl rfl ?_
        apply Exists.intro
        refine ⟨fun sv w' hw' hfa => ?_, ?_⟩
        · obtain ⟨f0, f1, f2, f3, f4, f5, f6, -⟩ := hfa
          replace f0 : sv 0 = _ := f0
          try dsimp only at f0
          replace f1 : sv 1 = _ := f1
          try dsimp only at f1
          replace f2 : sv 2 = _ := f2
          try dsimp only at f2
          replace f3 : sv 3 = _ := f3
          try dsimp only at f3
          replace f4 : sv 4 = _ := f4
          try dsimp only at f4
          replace f5 : sv 5 = _ := f5
          try dsimp only at f5
          replace f6 : sv 6 = _ := f6
          try dsimp only at f6
          obtain ⟨hc, hf, hz⟩ := (he.drew.trans hw').walk; have y0 := (hc _ 0 lV).trans v0; have y1 := (hc _ 1 lV).trans v1; have y2 := (hc _ (op + k * 5 + 1) hbp).trans c1; have y3 := (hc _ (op + k * 5 + 2) hbp).trans c2'
          refine ⟨rfl, ?_⟩
          simp only [putsL]
          change quietTo _ _ _ _ (Sem.run _ (execOp (Act.eval (Act.put (Act.put (Act.put (Act.put (Act.put (Act.put (Act.put _ (some 119) (sv 6)) (some 118) (sv 5)) (some 117) (sv 4)) (some 116) (sv 3)) (some 115) (sv 2)) (some 114) (sv 1)) (some 113) (sv 0))) _) _)
          try simp only [Act.put, List.setIfInBounds_toArray, List.set_cons_succ, List.set_cons_zero]
          simp [go_sem, quietTo, Ext.refl, f6]
          all_goals try simp (disch := omega) only [IntWalk.i64_in]
          all_goals first
            | rfl
        refine fac_quiet 8 rfl rfl rfl (fun _ _ h _ => h) rfl rfl ?_
        apply Exists.intro
        refine ⟨fun sv w' hw' hfa => ?_, ?_⟩
        · obtain ⟨f0, f1, f2, f3, f4, f5, f6, f7, -⟩ := hfa
          replace f0 : sv 0 = _ := f0
          try dsimp only at f0
          replace f1 : sv 1 = _ := f1
          try dsimp only at f1
          replace f2 : sv 2 = _ := f2
          try dsimp only at f2
          replace f3 : sv 3 = _ := f3
          try dsimp only at f3
          replace f4 : sv 4 = _ := f4
          try dsimp only at f4
          replace f5 : sv 5 = _ := f5
          try dsimp only at f5
          replace f6 : sv 6 = _ := f6
          try dsimp only at f6
          replace f7 : sv 7 = _ := f7
          try dsimp only at f7
          obtain ⟨hc, hf, hz⟩ := (he.drew.trans hw').walk; have y0 := (hc _ 0 lV).trans v0; have y1 := (hc _ 1 lV).trans v1; have y2 := (hc _ (op + k * 5 + 1) hbp).trans c1; have y3 := (hc _ (op + k * 5 + 2) hbp).trans c2'
          refine ⟨rfl, ?_⟩
          simp only [putsL]
          change quietTo _ _ _ _ (Sem.run _ (execOp (Act.eval (Act.put (Act.put (Act.put (Act.put (Act.put (Act.put (Act.put (Act.put _ (some 112) (sv 7)) (some 119) (sv 6)) (some 118) (sv 5)) (some 117) (sv 4)) (some 116) (sv 3)) (some 115) (sv 2)) (some 114) (sv 1)) (some 113) (sv 0))) _) _)
          try simp only [Act.put, List.setIfInBounds_toArray, List.set_cons_succ, List.set_cons_zero]
          simp [go_sem, quietTo, Ext.refl, f7]
          all_goals try simp (disch := omega) only [IntWalk.i64_in]
          all_goals first
            | rfl
        refine fac_quiet 9 rfl rfl rfl (fun _ _ h _ => h) rfl rfl ?_
        apply Exists.intro
        refine ⟨fun sv w' hw' hfa => ?_, ?_⟩
        · obtain ⟨f0, f1, f2, f3, f4, f5, f6, f7, -⟩ := hfa
          replace f0 : sv 0 = _ := f0
          try dsimp only at f0
          replace f1 : sv 1 = _ := f1
          try dsimp only at f1
          replace f2 : sv 2 = _ := f2
          try dsimp only at f2
          replace f3 : sv 3 = _ := f3
          try dsimp only at f3
          replace f4 : sv 4 = _ := f4
          try dsimp only at f4
          replace f5 : sv 5 = _ := f5
          try dsimp only at f5
          replace f6 : sv 6 = _ := f6
          try dsimp only at f6
          replace f7 : sv 7 = _ := f7
          try dsimp only at f7
          obtain ⟨hc, hf, hz⟩ := (he.drew.trans hw').walk; have y0 := (hc _ 0 lV).trans v0; have y1 := (hc _ 1 lV).trans v1; have y2 := (hc _ (op + k * 5 + 1) hbp).trans c1; have y3 := (hc _ (op + k * 5 + 2) hbp).trans c2'
          refine ⟨rfl, ?_⟩
          simp only [putsL]
          change quietTo _ _ _ _ (Sem.run _ (execOp (Act.eval (Act.put (Act.put (Act.put (Act.put (Act.put (Act.put (Act.put (Act.put _ (some 112) (sv 7)) (some 119) (sv 6)) (some 118) (sv 5)) (some 117) (sv 4)) (some 116) (sv 3)) (some 115) (sv 2)) (some 114) (sv 1)) (some 113) (sv 0))) _) _)
          try simp only [Act.put, List.setIfInBounds_toArray, List.set_cons_succ, List.set_cons_zero]
          simp [go_sem, quietTo, Ext.refl, f7]
          all_goals try simp (disch := omega) only [IntWalk.i64_in]
          all_goals first
            | rfl
        refine fac_quiet 10 rfl rfl rfl (fun _ _ h _ => h) rfl rfl ?_
        apply Exists.intro
        refine ⟨fun sv w' hw' hfa => ?_, ?_⟩
        · obtain ⟨f0, f1, f2, f3, f4, f5, f6, f7, -⟩ := hfa
          replace f0 : sv 0 = _ := f0
          try dsimp only at f0
          replace f1 : sv 1 = _ := f1
          try dsimp only at f1
          replace f2 : sv 2 = _ := f2
          try dsimp only at f2
          replace f3 : sv 3 = _ := f3
          try dsimp only at f3
          replace f4 : sv 4 = _ := f4
          try dsimp only at f4
          replace f5 : sv 5 = _ := f5
          try dsimp only at f5
          replace f6 : sv 6 = _ := f6
          try dsimp only at f6
          replace f7 : sv 7 = _ := f7
          try dsimp only at f7
          obtain ⟨hc, hf, hz⟩ := (he.drew.trans hw').walk; have y0 := (hc _ 0 lV).trans v0; have y1 := (hc _ 1 lV).trans v1; have y2 := (hc _ (op + k * 5 + 1) hbp).trans c1; have y3 := (hc _ (op + k * 5 + 2) hbp).trans c2'
          refine ⟨rfl, ?_⟩
          simp only [putsL]
          change quietTo _ _ _ _ (Sem.run _ (execOp (Act.eval (Act.put (Act.put (Act.put (Act.put (Act.put (Act.put (Act.put (Act.put _ (some 112) (sv 7)) (some 119) (sv 6)) (some 118) (sv 5)) (some 117) (sv 4)) (some 116) (sv 3)) (some 115) (sv 2)) (some 114) (sv 1)) (some 113) (sv 0))) _) _)
          try simp only [Act.put, List.setIfInBounds_toArray, List.set_cons_succ, List.set_cons_zero]
          simp [go_sem, quietTo, Ext.refl, f7]
          all_goals try simp (disch := omega) only [IntWalk.i64_in]
          all_goals first
            | rfl
        refine fac_quiet 11 rfl rfl rfl (fun _ _ h _ => h) rfl rfl ?_
        apply Exists.intro
        refine ⟨fun sv w' hw' hfa => ?_, ?_⟩
        · obtain ⟨f0, f1, f2, f3, f4, f5, f6, f7, f8, -⟩ := hfa
          replace f0 : sv 0 = _ := f0
          try dsimp only at f0
          replace f1 : sv 1 = _ := f1
          try dsimp only at f1
          replace f2 : sv 2 = _ := f2
          try dsimp only at f2
          replace f3 : sv 3 = _ := f3
          try dsimp only at f3
          replace f4 : sv 4 = _ := f4
          try dsimp only at f4
          replace f5 : sv 5 = _ := f5
          try dsimp only at f5
          replace f6 : sv 6 = _ := f6
          try dsimp only at f6
          replace f7 : sv 7 = _ := f7
          try dsimp only at f7
          replace f8 : sv 8 = _ := f8
          try dsimp only at f8
          obtain ⟨hc, hf, hz⟩ := (he.drew.trans hw').walk; have y0 := (hc _ 0 lV).trans v0; have y1 := (hc _ 1 lV).trans v1; have y2 := (hc _ (op + k * 5 + 1) hbp).trans c1; have y3 := (hc _ (op + k * 5 + 2) hbp).trans c2'
          refine ⟨rfl, ?_⟩
          simp only [putsL]
          change quietTo _ _ _ _ (Sem.run _ (execOp (Act.eval (Act.put (Act.put (Act.put (Act.put (Act.put (Act.put (Act.put (Act.put (Act.put _ (some 120) (sv 8)) (some 112) (sv 7)) (some 119) (sv 6)) (some 118) (sv 5)) (some 117) (sv 4)) (some 116) (sv 3)) (some 115) (sv 2)) (some 114) (sv 1)) (some 113) (sv 0))) _) _)
          try simp only [Act.put, List.setIfInBounds_toArray, List.set_cons_succ, List.set_cons_zero]
          simp [go_sem, quietTo, Ext.refl, f8]
          all_goals try simp (disch := omega) only [IntWalk.i64_in]
          all_goals first
            | rfl
        refine fac_quiet 12 rfl rfl rfl (fun _ _ h _ => h) rfl rfl ?_
        apply Exists.intro
        refine ⟨fun sv w' hw' hfa => ?_, ?_⟩
        · obtain ⟨f0, f1, f2, f3, f4, f5, f6, f7, f9, -⟩ := hfa
          replace f0 : sv 0 = _ := f0
          try dsimp only at f0
          replace f1 : sv 1 = _ := f1
          try dsimp only at f1
          replace f2 : sv 2 = _ := f2
          try dsimp only at f2
          replace f3 : sv 3 = _ := f3
          try dsimp only at f3
          replace f4 : sv 4 = _ := f4
          try dsimp only at f4
          replace f5 : sv 5 = _ := f5
          try dsimp only at f5
          replace f6 : sv 6 = _ := f6
          try dsimp only at f6
          replace f7 : sv 7 = _ := f7
          try dsimp only at f7
          replace f9 : sv 9 = _ := f9
          try dsimp only at f9
          obtain ⟨hc, hf, hz⟩ := (he.drew.trans hw').walk; have y0 := (hc _ 0 lV).trans v0; have y1 := (hc _ 1 lV).trans v1; have y2 := (hc _ (op + k * 5 + 1) hbp).trans c1; have y3 := (hc _ (op + k * 5 + 2) hbp).trans c2'
          refine ⟨rfl, ?_⟩
          simp only [putsL]
          change quietTo _ _ _ _ (Sem.run _ (execOp (Act.eval (Act.put (Act.put (Act.put (Act.put (Act.put (Act.put (Act.put (Act.put (Act.put _ (some 121) (sv 9)) (some 112) (sv 7)) (some 119) (sv 6)) (some 118) (sv 5)) (some 117) (sv 4)) (some 116) (sv 3)) (some 115) (sv 2)) (some 114) (sv 1)) (some 113) (sv 0))) _) _)
          try simp only [Act.put, List.setIfInBounds_toArray, List.set_cons_succ, List.set_cons_zero]
          simp [go_sem, quietTo, Ext.refl, f9]
          all_goals try simp (disch := omega) only [IntWalk.i64_in]
          all_goals first
            | rfl
        refine fac_quiet 13 rfl rfl rfl (fun _ _ h _ => h) rfl rfl ?_
        apply Exists.intro
        refine ⟨fun sv w' hw' hfa => ?_, ?_⟩
        · obtain ⟨f0, f1, f2, f3, f4, f5, f6, f7, f10, -⟩ := hfa
          replace f0 : sv 0 = _ := f0
          try dsimp only at f0
          replace f1 : sv 1 = _ := f1
          try dsimp only at f1
          replace f2 : sv 2 = _ := f2
          try dsimp only at f2
          replace f3 : sv 3 = _ := f3
          try dsimp only at f3
          replace f4 : sv 4 = _ := f4
          try dsimp only at f4
          replace f5 : sv 5 = _ := f5
          try dsimp only at f5
          replace f6 : sv 6 = _ := f6
          try dsimp only at f6
          replace f7 : sv 7 = _ := f7
          try dsimp only at f7
          replace f10 : sv 10 = _ := f10
          try dsimp only at f10
          obtain ⟨hc, hf, hz⟩ := (he.drew.trans hw').walk; have y0 := (hc _ 0 lV).trans v0; have y1 := (hc _ 1 lV).trans v1; have y2 := (hc _ (op + k * 5 + 1) hbp).trans c1; have y3 := (hc _ (op + k * 5 + 2) hbp).trans c2'
          refine ⟨rfl, ?_⟩
          simp only [putsL]
          change quietTo _ _ _ _ (Sem.run _ (execOp (Act.eval (Act.put (Act.put (Act.put (Act.put (Act.put (Act.put (Act.put (Act.put (Act.put _ (some 122) (sv 10)) (some 112) (sv 7)) (some 119) (sv 6)) (some 118) (sv 5)) (some 117) (sv 4)) (some 116) (sv 3)) (some 115) (sv 2)) (some 114) (sv 1)) (some 113) (sv 0))) _) _)
          try simp only [Act.put, List.setIfInBounds_toArray, List.set_cons_succ, List.set_cons_zero]
          simp [go_sem, quietTo, Ext.refl, f10]
          all_goals try simp (disch := omega) only [IntWalk.i64_in]
          all_goals first
            | rfl
        refine fac_nil fun xa wra hera hfra hcra holda hapa => ?_
        obtain ⟨f0, f1, f2, f3, f4, f5, f6, f7, f8, f9, f10, f11, f12, f13, -⟩ := hfra
        replace f0 : xa 0 = _ := f0
        try dsimp only at f0
        replace f1 : xa 1 = _ := f1
        try dsimp only at f1
        replace f2 : xa 2 = _ := f2
        try dsimp only at f2
        replace f3 : xa 3 = _ := f3
        try dsimp only at f3
        replace f4 : xa 4 = _ := f4
        try dsimp only at f4
        replace f5 : xa 5 = _ := f5
        try dsimp only at f5
        replace f6 : xa 6 = _ := f6
        try dsimp only at f6
        replace f7 : xa 7 = _ := f7
        try dsimp only at f7
        replace f8 : xa 8 = _ := f8
        try dsimp only at f8
        replace f9 : xa 9 = _ := f9
        try dsimp only at f9
        replace f10 : xa 10 = _ := f10
        try dsimp only at f10
        replace f11 : xa 11 = _ := f11
        try dsimp only at f11
        replace f12 : xa 12 = _ := f12
        try dsimp only at f12
        replace f13 : xa 13 = _ := f13
        try dsimp only at f13
        change wpList _ _ _ _ (Act.put (Act.put (Act.put (Act.put (Act.put (Act.put (Act.put (Act.put (Act.put (Act.put (Act.put (Act.put (Act.put (Act.put _ (some 113) (xa 0)) (some 114) (xa 1)) (some 115) (xa 2)) (some 116) (xa 3)) (some 117) (xa 4)) (some 118) (xa 5)) (some 119) (xa 6)) (some 112) (xa 7)) (some 120) (xa 8)) (some 121) (xa 9)) (some 122) (xa 10)) (some 15) (xa 11)) (some 16) (xa 12)) (some 17) (xa 13)) _
        simp only [putsL, Nat.reduceAdd, List.drop_succ_cons, List.drop_zero, List.drop_nil, Act.put, List.setIfInBounds_toArray, List.set_cons_succ, List.set_cons_zero]
        try simp only [f0, f1, f2, f3, f4, f5, f6, f7, f8, f9, f10, f11, f12, f13]
        clear f0 f1 f2 f3 f4 f5 f6 f7 f8 f9 f10 f11 f12 f13
        clear holda hapa
        have hea : Ext wr wra := (Ext.refl _).drew.trans hera
        go_upto_region 16 with fail
        refine wp_region_facts [] [([], false, false), ([], false, false), ([], false, false), ([1, 2], false, false), ([1, 2, 3], false, false), ([1, 2, 3, 4], false, false), ([0, 1, 2, 3, 4, 5], false, false), ([0, 1, 2, 3, 4, 5, 6], false, false), ([0, 1, 2, 3, 4, 5, 6, 7], false, false), ([0, 1, 2, 3, 4, 5, 6, 7], false, false), ([0, 1, 2, 3, 4, 5, 6, 7], false, false), ([0, 1, 2, 3, 4, 5, 6, 7, 8], false, false), ([0, 1, 2, 3, 4, 5, 6, 7, 9], false, false), ([0, 1, 2, 3, 4, 5, 6, 7, 10], false, false)] (Ext) Ext (fun _ => True) (by kernel_rfl) (by kernel_rfl) Ext.refl (fun _ _ _ => Ext.trans) (fun _ _ h => h) (fun _ _ h => h.size) (fun _ _ h _ => h) trivial ?_
        dsimp only [List.length_cons, List.length_nil, List.drop_succ_cons, List.drop_zero, List.drop_nil]
        refine fac_quiet 0 rfl rfl rfl (fun _ _ h _ => h) rfl rfl ?_
        apply Exists.intro
        refine ⟨fun sv w' hw' hfa => ?_, ?_⟩
        · obtain ⟨hc, hf, hz⟩ := ((he.trans hea).drew.trans hw').walk; have y0 := (hc _ 0 lW).trans u0; have y1 := (hc _ 1 lW).trans u1; have y2 := (hc _ (oq + k * 5 + 1) hbq).trans d1; have y3 := (hc _ (oq + k * 5 + 2) hbq).trans d2
          refine ⟨rfl, ?_⟩
          simp only [putsL]
          change quietTo _ _ _ _ (Sem.run _ (execOp (Act.eval _) _) _)
          try simp only [Act.put, List.setIfInBounds_toArray, List.set_cons_succ, List.set_cons_zero]
          simp [go_sem, quietTo, Ext.refl, ↓IntWalk.iteOmega, y0, y1, y2, y3]
          all_goals try simp (disch := omega) only [IntWalk.i64_in]
          all_goals first
            | rfl
        refine fac_quiet 1 rfl rfl rfl (fun _ _ h _ => h) rfl rfl ?_
        apply Exists.intro
        refine ⟨fun sv w' hw' hfa => ?_, ?_⟩
        · obtain ⟨hc, hf, hz⟩ := ((he.trans hea).drew.trans hw').walk; have y0 := (hc _ 0 lW).trans u0; have y1 := (hc _ 1 lW).trans u1; have y2 := (hc _ (oq + k * 5 + 1) hbq).trans d1; have y3 := (hc _ (oq + k * 5 + 2) hbq).trans d2
          refine ⟨rfl, ?_⟩
          simp only [putsL]
          change quietTo _ _ _ _ (Sem.run _ (execOp (Act.eval _) _) _)
          try simp only [Act.put, List.setIfInBounds_toArray, List.set_cons_succ, List.set_cons_zero]
          simp [go_sem, quietTo, Ext.refl]
          all_goals try simp (disch := omega) only [IntWalk.i64_in]
          all_goals first
            | rfl
        refine fac_quiet 2 rfl rfl rfl (fun _ _ h _ => h) rfl rfl ?_
        apply Exists.intro
        refine ⟨fun sv w' hw' hfa => ?_, ?_⟩
        · obtain ⟨hc, hf, hz⟩ := ((he.trans hea).drew.trans hw').walk; have y0 := (hc _ 0 lW).trans u0; have y1 := (hc _ 1 lW).trans u1; have y2 := (hc _ (oq + k * 5 + 1) hbq).trans d1; have y3 := (hc _ (oq + k * 5 + 2) hbq).trans d2
          refine ⟨rfl, ?_⟩
          simp only [putsL]
          change quietTo _ _ _ _ (Sem.run _ (execOp (Act.eval _) _) _)
          try simp only [Act.put, List.setIfInBounds_toArray, List.set_cons_succ, List.set_cons_zero]
          simp [go_sem, quietTo, Ext.refl]
          all_goals try simp (disch := omega) only [IntWalk.i64_in]
          all_goals first
            | rfl
        refine fac_quiet 3 rfl rfl rfl (fun _ _ h _ => h) rfl rfl ?_
        apply Exists.intro
        refine ⟨fun sv w' hw' hfa => ?_, ?_⟩
        · obtain ⟨f1, f2, -⟩ := hfa
          replace f1 : sv 1 = _ := f1
          try dsimp only at f1
          replace f2 : sv 2 = _ := f2
          try dsimp only at f2
          obtain ⟨hc, hf, hz⟩ := ((he.trans hea).drew.trans hw').walk; have y0 := (hc _ 0 lW).trans u0; have y1 := (hc _ 1 lW).trans u1; have y2 := (hc _ (oq + k * 5 + 1) hbq).trans d1; have y3 := (hc _ (oq + k * 5 + 2) hbq).trans d2
          refine ⟨rfl, ?_⟩
          simp only [putsL]
          change quietTo _ _ _ _ (Sem.run _ (execOp (Act.eval (Act.put (Act.put _ (some 126) (sv 2)) (some 125) (sv 1))) _) _)
          try simp only [Act.put, List.setIfInBounds_toArray, List.set_cons_succ, List.set_cons_zero]
          simp [go_sem, quietTo, Ext.refl, ↓IntWalk.iteOmega, f1, f2, y0, y1, y2, y3]
          all_goals try simp (disch := omega) only [IntWalk.i64_in]
          all_goals first
            | rfl
        refine fac_quiet 4 rfl rfl rfl (fun _ _ h _ => h) rfl rfl ?_
        apply Exists.intro
        refine ⟨fun sv w' hw' hfa => ?_, ?_⟩
        · obtain ⟨f1, f2, f3, -⟩ := hfa
          replace f1 : sv 1 = _ := f1
          try dsimp only at f1
          replace f2 : sv 2 = _ := f2
          try dsimp only at f2
          replace f3 : sv 3 = _ := f3
          try dsimp only at f3
          obtain ⟨hc, hf, hz⟩ := ((he.trans hea).drew.trans hw').walk; have y0 := (hc _ 0 lW).trans u0; have y1 := (hc _ 1 lW).trans u1; have y2 := (hc _ (oq + k * 5 + 1) hbq).trans d1; have y3 := (hc _ (oq + k * 5 + 2) hbq).trans d2
          refine ⟨rfl, ?_⟩
          simp only [putsL]
          change quietTo _ _ _ _ (Sem.run _ (execOp (Act.eval (Act.put (Act.put (Act.put _ (some 127) (sv 3)) (some 126) (sv 2)) (some 125) (sv 1))) _) _)
          try simp only [Act.put, List.setIfInBounds_toArray, List.set_cons_succ, List.set_cons_zero]
          simp [go_sem, quietTo, Ext.refl, f3]
          all_goals try simp (disch := omega) only [IntWalk.i64_in]
          all_goals first
            | rfl
        refine fac_quiet 5 rfl rfl rfl (fun _ _ h _ => h) rfl rfl ?_
        apply Exists.intro
        refine ⟨fun sv w' hw' hfa => ?_, ?_⟩
        · obtain ⟨f1, f2, f3, f4, -⟩ := hfa
          replace f1 : sv 1 = _ := f1
          try dsimp only at f1
          replace f2 : sv 2 = _ := f2
          try dsimp only at f2
          replace f3 : sv 3 = _ := f3
          try dsimp only at f3
          replace f4 : sv 4 = _ := f4
          try dsimp only at f4
          obtain ⟨hc, hf, hz⟩ := ((he.trans hea).drew.trans hw').walk; have y0 := (hc _ 0 lW).trans u0; have y1 := (hc _ 1 lW).trans u1; have y2 := (hc _ (oq + k * 5 + 1) hbq).trans d1; have y3 := (hc _ (oq + k * 5 + 2) hbq).trans d2
          refine ⟨rfl, ?_⟩
          simp only [putsL]
          change quietTo _ _ _ _ (Sem.run _ (execOp (Act.eval (Act.put (Act.put (Act.put (Act.put _ (some 128) (sv 4)) (some 127) (sv 3)) (some 126) (sv 2)) (some 125) (sv 1))) _) _)
          try simp only [Act.put, List.setIfInBounds_toArray, List.set_cons_succ, List.set_cons_zero]
          simp [go_sem, quietTo, Ext.refl, ↓IntWalk.iteOmega, f4, y0, y1, y2, y3]
          all_goals try simp (disch := omega) only [IntWalk.i64_in]
          all_goals first
            | rfl
        refine fac_quiet 6 rfl rfl rfl (fun _ _ h _ => h) rfl rfl ?_
        apply Exists.intro
        refine ⟨fun sv w' hw' hfa => ?_, ?_⟩
        · obtain ⟨f0, f1, f2, f3, f4, f5, -⟩ := hfa
          replace f0 : sv 0 = _ := f0
          try dsimp only at f0
          replace f1 : sv 1 = _ := f1
          try dsimp only at f1
          replace f2 : sv 2 = _ := f2
          try dsimp only at f2
          replace f3 : sv 3 = _ := f3
          try dsimp only at f3
          replace f4 : sv 4 = _ := f4
          try dsimp only at f4
          replace f5 : sv 5 = _ := f5
          try dsimp only at f5
          obtain ⟨hc, hf, hz⟩ := ((he.trans hea).drew.trans hw').walk; have y0 := (hc _ 0 lW).trans u0; have y1 := (hc _ 1 lW).trans u1; have y2 := (hc _ (oq + k * 5 + 1) hbq).trans d1; have y3 := (hc _ (oq + k * 5 + 2) hbq).trans d2
          refine ⟨rfl, ?_⟩
          simp only [putsL]
          change quietTo _ _ _ _ (Sem.run _ (execOp (Act.eval (Act.put (Act.put (Act.put (Act.put (Act.put (Act.put _ (some 129) (sv 5)) (some 128) (sv 4)) (some 127) (sv 3)) (some 126) (sv 2)) (some 125) (sv 1)) (some 124) (sv 0))) _) _)
          try simp only [Act.put, List.setIfInBounds_toArray, List.set_cons_succ, List.set_cons_zero]
          simp [go_sem, quietTo, Ext.refl, ↓IntWalk.iteOmega, f0, f5, y0, y1, y2, y3]
          all_goals try simp (disch := omega) only [IntWalk.i64_in]
          all_goals first
            | rfl
            | (exact hc2.out _)
        refine fac_quiet 7 rfl rfl rfl (fun _ _ h _ => h) rfl rfl ?_
        apply Exists.intro
        refine ⟨fun sv w' hw' hfa => ?_, ?_⟩
        · obtain ⟨f0, f1, f2, f3, f4, f5, f6, -⟩ := hfa
          replace f0 : sv 0 = _ := f0
          try dsimp only at f0
          replace f1 : sv 1 = _ := f1
          try dsimp only at f1
          replace f2 : sv 2 = _ := f2
          try dsimp only at f2
          replace f3 : sv 3 = _ := f3
          try dsimp only at f3
          replace f4 : sv 4 = _ := f4
          try dsimp only at f4
          replace f5 : sv 5 = _ := f5
          try dsimp only at f5
          replace f6 : sv 6 = _ := f6
          try dsimp only at f6
          obtain ⟨hc, hf, hz⟩ := ((he.trans hea).drew.trans hw').walk; have y0 := (hc _ 0 lW).trans u0; have y1 := (hc _ 1 lW).trans u1; have y2 := (hc _ (oq + k * 5 + 1) hbq).trans d1; have y3 := (hc _ (oq + k * 5 + 2) hbq).trans d2
          refine ⟨rfl, ?_⟩
          simp only [putsL]
          change quietTo _ _ _ _ (Sem.run _ (execOp (Act.eval (Act.put (Act.put (Act.put (Act.put (Act.put (Act.put (Act.put _ (some 130) (sv 6)) (some 129) (sv 5)) (some 128) (sv 4)) (some 127) (sv 3)) (some 126) (sv 2)) (some 125) (sv 1)) (some 124) (sv 0))) _) _)
          try simp only [Act.put, List.setIfInBounds_toArray, List.set_cons_succ, List.set_cons_zero]
          simp [go_sem, quietTo, Ext.refl, f6]
          all_goals try simp (disch := omega) only [IntWalk.i64_in]
          all_goals first
            | rfl
        refine fac_quiet 8 rfl rfl rfl (fun _ _ h _ => h) rfl rfl ?_
        apply Exists.intro
        refine ⟨fun sv w' hw' hfa => ?_, ?_⟩
        · obtain ⟨f0, f1, f2, f3, f4, f5, f6, f7, -⟩ := hfa
          replace f0 : sv 0 = _ := f0
          try dsimp only at f0
          replace f1 : sv 1 = _ := f1
          try dsimp only at f1
          replace f2 : sv 2 = _ := f2
          try dsimp only at f2
          replace f3 : sv 3 = _ := f3
          try dsimp only at f3
          replace f4 : sv 4 = _ := f4
          try dsimp only at f4
          replace f5 : sv 5 = _ := f5
          try dsimp only at f5
          replace f6 : sv 6 = _ := f6
          try dsimp only at f6
          replace f7 : sv 7 = _ := f7
          try dsimp only at f7
          obtain ⟨hc, hf, hz⟩ := ((he.trans hea).drew.trans hw').walk; have y0 := (hc _ 0 lW).trans u0; have y1 := (hc _ 1 lW).trans u1; have y2 := (hc _ (oq + k * 5 + 1) hbq).trans d1; have y3 := (hc _ (oq + k * 5 + 2) hbq).trans d2
          refine ⟨rfl, ?_⟩
          simp only [putsL]
          change quietTo _ _ _ _ (Sem.run _ (execOp (Act.eval (Act.put (Act.put (Act.put (Act.put (Act.put (Act.put (Act.put (Act.put _ (some 123) (sv 7)) (some 130) (sv 6)) (some 129) (sv 5)) (some 128) (sv 4)) (some 127) (sv 3)) (some 126) (sv 2)) (some 125) (sv 1)) (some 124) (sv 0))) _) _)
          try simp only [Act.put, List.setIfInBounds_toArray, List.set_cons_succ, List.set_cons_zero]
          simp [go_sem, quietTo, Ext.refl, f7]
          all_goals try simp (disch := omega) only [IntWalk.i64_in]
          all_goals first
            | rfl
        refine fac_quiet 9 rfl rfl rfl (fun _ _ h _ => h) rfl rfl ?_
        apply Exists.intro
        refine ⟨fun sv w' hw' hfa => ?_, ?_⟩
        · obtain ⟨f0, f1, f2, f3, f4, f5, f6, f7, -⟩ := hfa
          replace f0 : sv 0 = _ := f0
          try dsimp only at f0
          replace f1 : sv 1 = _ := f1
          try dsimp only at f1
          replace f2 : sv 2 = _ := f2
          try dsimp only at f2
          replace f3 : sv 3 = _ := f3
          try dsimp only at f3
          replace f4 : sv 4 = _ := f4
          try dsimp only at f4
          replace f5 : sv 5 = _ := f5
          try dsimp only at f5
          replace f6 : sv 6 = _ := f6
          try dsimp only at f6
          replace f7 : sv 7 = _ := f7
          try dsimp only at f7
          obtain ⟨hc, hf, hz⟩ := ((he.trans hea).drew.trans hw').walk; have y0 := (hc _ 0 lW).trans u0; have y1 := (hc _ 1 lW).trans u1; have y2 := (hc _ (oq + k * 5 + 1) hbq).trans d1; have y3 := (hc _ (oq + k * 5 + 2) hbq).trans d2
          refine ⟨rfl, ?_⟩
          simp only [putsL]
          change quietTo _ _ _ _ (Sem.run _ (execOp (Act.eval (Act.put (Act.put (Act.put (Act.put (Act.put (Act.put (Act.put (Act.put _ (some 123) (sv 7)) (some 130) (sv 6)) (some 129) (sv 5)) (some 128) (sv 4)) (some 127) (sv 3)) (some 126) (sv 2)) (some 125) (sv 1)) (some 124) (sv 0))) _) _)
          try simp only [Act.put, List.setIfInBounds_toArray, List.set_cons_succ, List.set_cons_zero]
          simp [go_sem, quietTo, Ext.refl, f7]
          all_goals try simp (disch := omega) only [IntWalk.i64_in]
          all_goals first
            | rfl
        refine fac_quiet 10 rfl rfl rfl (fun _ _ h _ => h) rfl rfl ?_
        apply Exists.intro
        refine ⟨fun sv w' hw' hfa => ?_, ?_⟩
        · obtain ⟨f0, f1, f2, f3, f4, f5, f6, f7, -⟩ := hfa
          replace f0 : sv 0 = _ := f0
          try dsimp only at f0
          replace f1 : sv 1 = _ := f1
          try dsimp only at f1
          replace f2 : sv 2 = _ := f2
          try dsimp only at f2
          replace f3 : sv 3 = _ := f3
          try dsimp only at f3
          replace f4 : sv 4 = _ := f4
          try dsimp only at f4
          replace f5 : sv 5 = _ := f5
          try dsimp only at f5
          replace f6 : sv 6 = _ := f6
          try dsimp only at f6
          replace f7 : sv 7 = _ := f7
          try dsimp only at f7
          obtain ⟨hc, hf, hz⟩ := ((he.trans hea).drew.trans hw').walk; have y0 := (hc _ 0 lW).trans u0; have y1 := (hc _ 1 lW).trans u1; have y2 := (hc _ (oq + k * 5 + 1) hbq).trans d1; have y3 := (hc _ (oq + k * 5 + 2) hbq).trans d2
          refine ⟨rfl, ?_⟩
          simp only [putsL]
          change quietTo _ _ _ _ (Sem.run _ (execOp (Act.eval (Act.put (Act.put (Act.put (Act.put (Act.put (Act.put (Act.put (Act.put _ (some 123) (sv 7)) (some 130) (sv 6)) (some 129) (sv 5)) (some 128) (sv 4)) (some 127) (sv 3)) (some 126) (sv 2)) (some 125) (sv 1)) (some 124) (sv 0))) _) _)
          try simp only [Act.put, List.setIfInBounds_toArray, List.set_cons_succ, List.set_cons_zero]
          simp [go_sem, quietTo, Ext.refl, f7]
          all_goals try simp (disch := omega) only [IntWalk.i64_in]
          all_goals first
            | rfl
        refine fac_quiet 11 rfl rfl rfl (fun _ _ h _ => h) rfl rfl ?_
        apply Exists.intro
        refine ⟨fun sv w' hw' hfa => ?_, ?_⟩
        · obtain ⟨f0, f1, f2, f3, f4, f5, f6, f7, f8, -⟩ := hfa
          replace f0 : sv 0 = _ := f0
          try dsimp only at f0
          replace f1 : sv 1 = _ := f1
          try dsimp only at f1
          replace f2 : sv 2 = _ := f2
          try dsimp only at f2
          replace f3 : sv 3 = _ := f3
          try dsimp only at f3
          replace f4 : sv 4 = _ := f4
          try dsimp only at f4
          replace f5 : sv 5 = _ := f5
          try dsimp only at f5
          replace f6 : sv 6 = _ := f6
          try dsimp only at f6
          replace f7 : sv 7 = _ := f7
          try dsimp only at f7
          replace f8 : sv 8 = _ := f8
          try dsimp only at f8
          obtain ⟨hc, hf, hz⟩ := ((he.trans hea).drew.trans hw').walk; have y0 := (hc _ 0 lW).trans u0; have y1 := (hc _ 1 lW).trans u1; have y2 := (hc _ (oq + k * 5 + 1) hbq).trans d1; have y3 := (hc _ (oq + k * 5 + 2) hbq).trans d2
          refine ⟨rfl, ?_⟩
          simp only [putsL]
          change quietTo _ _ _ _ (Sem.run _ (execOp (Act.eval (Act.put (Act.put (Act.put (Act.put (Act.put (Act.put (Act.put (Act.put (Act.put _ (some 131) (sv 8)) (some 123) (sv 7)) (some 130) (sv 6)) (some 129) (sv 5)) (some 128) (sv 4)) (some 127) (sv 3)) (some 126) (sv 2)) (some 125) (sv 1)) (some 124) (sv 0))) _) _)
          try simp only [Act.put, List.setIfInBounds_toArray, List.set_cons_succ, List.set_cons_zero]
          simp [go_sem, quietTo, Ext.refl, f8]
          all_goals try simp (disch := omega) only [IntWalk.i64_in]
          all_goals first
            | rfl
        refine fac_quiet 12 rfl rfl rfl (fun _ _ h _ => h) rfl rfl ?_
        apply Exists.intro
        refine ⟨fun sv w' hw' hfa => ?_, ?_⟩
        · obtain ⟨f0, f1, f2, f3, f4, f5, f6, f7, f9, -⟩ := hfa
          replace f0 : sv 0 = _ := f0
          try dsimp only at f0
          replace f1 : sv 1 = _ := f1
          try dsimp only at f1
          replace f2 : sv 2 = _ := f2
          try dsimp only at f2
          replace f3 : sv 3 = _ := f3
          try dsimp only at f3
          replace f4 : sv 4 = _ := f4
          try dsimp only at f4
          replace f5 : sv 5 = _ := f5
          try dsimp only at f5
          replace f6 : sv 6 = _ := f6
          try dsimp only at f6
          replace f7 : sv 7 = _ := f7
          try dsimp only at f7
          replace f9 : sv 9 = _ := f9
          try dsimp only at f9
          obtain ⟨hc, hf, hz⟩ := ((he.trans hea).drew.trans hw').walk; have y0 := (hc _ 0 lW).trans u0; have y1 := (hc _ 1 lW).trans u1; have y2 := (hc _ (oq + k * 5 + 1) hbq).trans d1; have y3 := (hc _ (oq + k * 5 + 2) hbq).trans d2
          refine ⟨rfl, ?_⟩
          simp only [putsL]
          change quietTo _ _ _ _ (Sem.run _ (execOp (Act.eval (Act.put (Act.put (Act.put (Act.put (Act.put (Act.put (Act.put (Act.put (Act.put _ (some 132) (sv 9)) (some 123) (sv 7)) (some 130) (sv 6)) (some 129) (sv 5)) (some 128) (sv 4)) (some 127) (sv 3)) (some 126) (sv 2)) (some 125) (sv 1)) (some 124) (sv 0))) _) _)
          try simp only [Act.put, List.setIfInBounds_toArray, List.set_cons_succ, List.set_cons_zero]
          simp [go_sem, quietTo, Ext.refl, f9]
          all_goals try simp (disch := omega) only [IntWalk.i64_in]
          all_goals first
            | rfl
        refine fac_quiet 13 rfl rfl rfl (fun _ _ h _ => h) rfl rfl ?_
        apply Exists.intro
        refine ⟨fun sv w' hw' hfa => ?_, ?_⟩
        · obtain ⟨f0, f1, f2, f3, f4, f5, f6, f7, f10, -⟩ := hfa
          replace f0 : sv 0 = _ := f0
          try dsimp only at f0
          replace f1 : sv 1 = _ := f1
          try dsimp only at f1
          replace f2 : sv 2 = _ := f2
          try dsimp only at f2
          replace f3 : sv 3 = _ := f3
          try dsimp only at f3
          replace f4 : sv 4 = _ := f4
          try dsimp only at f4
          replace f5 : sv 5 = _ := f5
          try dsimp only at f5
          replace f6 : sv 6 = _ := f6
          try dsimp only at f6
          replace f7 : sv 7 = _ := f7
          try dsimp only at f7
          replace f10 : sv 10 = _ := f10
          try dsimp only at f10
          obtain ⟨hc, hf, hz⟩ := ((he.trans hea).drew.trans hw').walk; have y0 := (hc _ 0 lW).trans u0; have y1 := (hc _ 1 lW).trans u1; have y2 := (hc _ (oq + k * 5 + 1) hbq).trans d1; have y3 := (hc _ (oq + k * 5 + 2) hbq).trans d2
          refine ⟨rfl, ?_⟩
          simp only [putsL]
          change quietTo _ _ _ _ (Sem.run _ (execOp (Act.eval (Act.put (Act.put (Act.put (Act.put (Act.put (Act.put (Act.put (Act.put (Act.put _ (some 133) (sv 10)) (some 123) (sv 7)) (some 130) (sv 6)) (some 129) (sv 5)) (some 128) (sv 4)) (some 127) (sv 3)) (some 126) (sv 2)) (some 125) (sv 1)) (some 124) (sv 0))) _) _)
          try simp only [Act.put, List.setIfInBounds_toArray, List.set_cons_succ, List.set_cons_zero]
          simp [go_sem, quietTo, Ext.refl, f10]
          all_goals try simp (disch := omega) only [IntWalk.i64_in]
          all_goals first
            | rfl
        refine fac_nil fun xb wrb herb hfrb hcrb holdb hapb => ?_
        obtain ⟨f0, f1, f2, f3, f4, f5, f6, f7, f8, f9, f10, f11, f12, f13, -⟩ := hfrb
        replace f0 : xb 0 = _ := f0
        try dsimp only at f0
        replace f1 : xb 1 = _ := f1
        try dsimp only at f1
        replace f2 : xb 2 = _ := f2
        try dsimp only at f2
        replace f3 : xb 3 = _ := f3
        try dsimp only at f3
        replace f4 : xb 4 = _ := f4
        try dsimp only at f4
        replace f5 : xb 5 = _ := f5
        try dsimp only at f5
        replace f6 : xb 6 = _ := f6
        try dsimp only at f6
        replace f7 : xb 7 = _ := f7
        try dsimp only at f7
        replace f8 : xb 8 = _ := f8
        try dsimp only at f8
        replace f9 : xb 9 = _ := f9
        try dsimp only at f9
        replace f10 : xb 10 = _ := f10
        try dsimp only at f10
        replace f11 : xb 11 = _ := f11
        try dsimp only at f11
        replace f12 : xb 12 = _ := f12
        try dsimp only at f12
        replace f13 : xb 13 = _ := f13
        try dsimp only at f13
        change wpList _ _ _ _ (Act.put (Act.put (Act.put (Act.put (Act.put (Act.put (Act.put (Act.put (Act.put (Act.put (Act.put (Act.put (Act.put (Act.put _ (some 124) (xb 0)) (some 125) (xb 1)) (some 126) (xb 2)) (some 127) (xb 3)) (some 128) (xb 4)) (some 129) (xb 5)) (some 130) (xb 6)) (some 123) (xb 7)) (some 131) (xb 8)) (some 132) (xb 9)) (some 133) (xb 10)) (some 18) (xb 11)) (some 19) (xb 12)) (some 20) (xb 13)) _
        simp only [putsL, Nat.reduceAdd, List.drop_succ_cons, List.drop_zero, List.drop_nil, Act.put, List.setIfInBounds_toArray, List.set_cons_succ, List.set_cons_zero]
        try simp only [f0, f1, f2, f3, f4, f5, f6, f7, f8, f9, f10, f11, f12, f13]
        clear f0 f1 f2 f3 f4 f5 f6 f7 f8 f9 f10 f11 f12 f13
        clear holdb hapb
        clear hc1 hc2 c1 c2' d1 d2 v0 v1 u0 u1
        go_wp2
        go_roundw
        case rel => exact ⟨k + 1, by omega, by go_num, (he.trans hea).trans ((Ext.refl _).drew.trans herb)⟩
        case measure => simp [intOf]; omega
      · go_wp2_with (go_at_call 16; (with_reducible refine Calls.mono (h06facts_any B _ (by exact ht.ext (hE7.trans he))) ?_); rintro e w7 ⟨rfl, hb7⟩)
        go_ret
        exact ⟨rfl, (hE7.trans he).trans hb7⟩
end Go.Proofs.YtkfdolnnkbhlhaaDoor
