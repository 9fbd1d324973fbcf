/- Numbers in some order, and stands, that the stream makes, told exactly. Conditions: sizes. -/
import Derived.Test.YtfcoeikekbjgpaaGreatDoorSxDetC
import Derived.Test.YtfcoeikekbjgpaaGreatDoorSxStZ
set_option linter.unusedSimpArgs false
set_option linter.unusedVariables false
namespace Go.Proofs.YtfcoeikekbjgpaaGreatDoor
open Go Go.RowKit

def iotI (n : Nat) : List Int := (List.range n).map fun (i : Nat) => (i : Int)
theorem iotI_succ (n : Nat) : iotI (n + 1) = iotI n ++ [(n : Int)] := by simp [iotI, List.range_succ]
def swp (xs : List Int) (i q : Nat) : List Int := (xs.set q (xs.getD i 0)).set i (xs.getD q 0)
def ordS (L : Src) (a n : Nat) : Nat → List Int
  | 0 => iotI n
  | u + 1 => swp (ordS L a n u) (nxF L (a + u) (n - 1 - u + 1)) (n - 1 - u)
theorem swp_at {xs : List Int} {i q : Nat} {x y : Int} (hi : xs[i]? = some x) (hq : xs[q]? = some y) : swp xs i q = (xs.set q x).set i y := by
  unfold swp; rw [List.getD_eq_getElem?_getD, hi, List.getD_eq_getElem?_getD, hq]; rfl
theorem ordS_len (L : Src) (a n : Nat) : ∀ u, (ordS L a n u).length = n
  | 0 => by simp [ordS, iotI]
  | u + 1 => by simp [ordS, swp, ordS_len L a n u]
theorem ordS_in (L : Src) (a n : Nat) (hn : 0 < n) : ∀ u, ∀ x ∈ ordS L a n u, 0 ≤ x ∧ x < n
  | 0 => by
    intro x hx
    simp only [ordS, iotI, List.mem_map, List.mem_range] at hx
    obtain ⟨i, hi, rfl⟩ := hx
    omega
  | u + 1 => by
    have ih := ordS_in L a n hn u
    have hg : ∀ i, 0 ≤ (ordS L a n u).getD i 0 ∧ (ordS L a n u).getD i 0 < n := by
      intro i
      rw [List.getD_eq_getElem?_getD]
      cases h : (ordS L a n u)[i]? with
      | none => simp; omega
      | some y => exact ih y (List.mem_of_getElem? h)
    intro x hx
    unfold ordS swp at hx
    rcases List.mem_or_eq_of_mem_set hx with h | h
    · rcases List.mem_or_eq_of_mem_set h with h | h
      · exact ih x h
      · rw [h]; exact hg _
    · rw [h]; exact hg _

theorem OwL.own {xs : List Int} {w : World} {base n c : Nat} {p : Option Addr} (h : OwL xs w base p n c) : ∀ q, (Value.slice p n c).ownBlock = some q → base ≤ q := fun q hq => by
  cases p with
  | none => simp [Value.ownBlock] at hq
  | some a =>
    have e : a.block = q := by simpa [Value.ownBlock] using hq
    have := (h.lt rfl).1
    omega

set_option maxRecDepth 100000 in
set_option maxHeartbeats 6400000 in
theorem order_det (s k n : Nat) (L : Src) (w : World) (hk : k ≤ 990000) (hn : n ≤ 9) (h : StrL w s L k) :
    Calls Tryz.prog 53 #[.pointer (some ⟨s, 0, none⟩), .int .i64 n] w fun e w' => ∃ (p : Option Addr) (c : Nat), e = .returned (.slice p n c) ∧ OwL (ordS L k n (n - 1)) w' w.heap.size p n c ∧ StrL w' s L (k + (n - 1)) ∧ ExtS s w w' := by
  have l0 := h.lt
  go_enter Tryz.func53, Tryz.ntmps53
  go_wp2
  go_loopw [5, 10] (fun v5 v10 wr => ∃ (j : Nat) (p : Option Addr) (c : Nat), v10 = .int .i64 j ∧ v5 = .slice p j c ∧ j ≤ n ∧ OwL (iotI j) wr w.heap.size p j c ∧ StrL wr s L k ∧ ExtS s w wr) (fun _ v10 _ => n - (intOf v10).toNat)
  case atStart => exact ⟨0, none, 0, rfl, rfl, Nat.zero_le _, OwL.nil _ _, h, ExtS.refl _ _⟩
  case round =>
    clear h
    obtain ⟨j, p, c, rfl, rfl, hj, hO, hS, hE⟩ := hrel
    have hsz := hE.2.2.2.1
    by_cases hlt : j < n
    · go_wp2_with (at_builtin; go_loud (refine wpList_appL _ rfl (.tmp 13) (.tmp 15) rfl rfl w.heap.size p j c rfl (hO.ext ((Ext.refl _).alloc _)) wr.heap.size j (by omega) rfl (Blk.new' rfl) (by omega) (by simp; omega) ?_; intro b1 c1 w6 ho6 hg6 hd6))
      go_roundw
      case rel => exact ⟨j + 1, _, c1, by go_num, rfl, by omega, by rw [iotI_succ]; exact ho6, (hS.ext ((Ext.refl _).alloc _)).grown hg6 (fun q hq => by have := hO.own q hq; omega), (hE.alloc _).grownX hg6 (fun q hq => hO.own q hq)⟩
      case measure => simp [intOf]; omega
    · obtain rfl : j = n := by omega
      have hjw : IntKind.i64.wrap ((j : Int) - 1) = (j : Int) - 1 := IntWalk.i64_in _ (by omega)
      go_wp2
      go_loopw [7] (fun v7 wr => ∃ u, (j = 0 ∧ u = 0 ∧ v7 = .int .i64 ((j : Int) - 1) ∨ ∃ q : Nat, v7 = .int .i64 q ∧ q + u + 1 = j) ∧ OwL (ordS L k j u) wr w.heap.size p j c ∧ StrL wr s L (k + u) ∧ ExtS s w wr) (fun v7 _ => (intOf v7).toNat)
      case atStart =>
        refine ⟨0, ?_, hO, hS, hE⟩
        rcases Nat.eq_zero_or_pos j with h0 | h0
        · exact .inl ⟨h0, rfl, rfl⟩
        · exact .inr ⟨j - 1, by rw [show (((j - 1 : Nat)) : Int) = (j : Int) - 1 by omega], by omega⟩
      case round =>
        clear hO hS hE hjw
        obtain ⟨u, hv, hO, hS, hE⟩ := hrel
        rcases hv with ⟨h0, hu0, rfl⟩ | ⟨q, rfl, hq⟩
        · have hle : ¬ 0 < (j : Int) - 1 := by omega
          have hle2 : (j : Int) ≤ 1 := by omega
          have hej : j - 1 = u := by omega
          rw [← hej] at hO hS
          replace h0 := Lib.hid h0
          replace hu0 := Lib.hid hu0
          replace hej := Lib.hid hej
          go_wp2
          go_ret
          exact ⟨p, c, rfl, hO, hS, hE⟩
        · rcases Nat.eq_zero_or_pos q with h0 | h0
          · have hle : ¬ 0 < (q : Int) := by omega
            have hej : j - 1 = u := by omega
            rw [← hej] at hO hS
            replace h0 := Lib.hid h0
            replace hej := Lib.hid hej
            replace hq := Lib.hid hq
            go_wp2
            go_ret
            exact ⟨p, c, rfl, hO, hS, hE⟩
          · have hpos : 0 < (q : Int) := by omega
            obtain ⟨i, hi0⟩ : ∃ i, nxF L (k + u) (q + 1) = i := ⟨_, rfl⟩
            have hi : i < q + 1 := hi0 ▸ nxF_lt L _ (q + 1) (by omega)
            have hnx := next_det s (k + u) (q + 1) L wr (by omega) (by omega) (by omega) hS
            rw [hi0] at hnx
            simp only [Int.natCast_add, Int.natCast_one] at hnx
            have hsuc : ordS L k j (u + 1) = swp (ordS L k j u) i q := by
              show swp (ordS L k j u) (nxF L (k + u) (j - 1 - u + 1)) (j - 1 - u) = _
              rw [show j - 1 - u = q by omega, hi0]
            replace hi0 := Lib.hid hi0
            obtain ⟨b, rfl, hb1, hb2⟩ := hO.form (by omega)
            have hsz := hE.2.2.2.1
            have hwq : IntKind.i64.wrap ((q : Int) + 1) = (q : Int) + 1 := IntWalk.i64_in _ (by omega)
            have hwq2 : IntKind.i64.wrap ((q : Int) - 1) = (q : Int) - 1 := IntWalk.i64_in _ (by omega)
            replace hnx := Lib.hid hnx
            go_upto_region 11 with (go_at_call 31; (with_reducible refine Calls.mono hnx.out ?_); rintro e w2 ⟨rfl, hS2, hE2⟩)
            have hO2 := hO.extS (by omega) hE2
            have hE3 := hE.trans hE2
            clear hO hS hE hE2
            obtain ⟨x1, ex1⟩ := getD_some hO2.1 (show i < j by omega)
            obtain ⟨x2, ex2⟩ := getD_some hO2.1 (show q < j by omega)
            have c1 := hO2.cell ex1
            have c2 := hO2.cell ex2
            have hx1 := hO2.2.1 x1 (List.mem_of_getElem? ex1)
            have hx2 := hO2.2.1 x2 (List.mem_of_getElem? ex2)
            rw [swp_at ex1 ex2] at hsuc
            replace ex1 := Lib.hid ex1
            replace ex2 := Lib.hid ex2
            replace hsuc := Lib.hid hsuc
            have hbl := (hO2.lt rfl).2
            simp only at hbl
            have hiI : (i : Int) < j := by omega
            have hqI : (q : Int) < j := by omega
            refine wp_region_facts [2, 3] [([], false, false), ([], false, false), ([], false, false), ([], false, false), ([], false, false), ([], false, false), ([4, 5], false, false), ([4, 5, 6], false, false), ([], false, false), ([], false, false), ([8, 9], false, false), ([8, 9, 10], false, false), ([0, 1], false, false)] (Ext) Ext (fun _ => True) (by kernel_rfl) (by kernel_rfl) Ext.refl (fun _ _ _ => Ext.trans) (fun _ _ h => h) (fun _ _ h => h.size) (fun _ _ h _ => h) trivial ?_
            dsimp only [List.length_cons, List.length_nil, List.drop_succ_cons, List.drop_zero, List.drop_nil]
            refine fac_quiet 0 rfl rfl rfl (fun _ _ h _ => h) rfl rfl ?_
            apply Exists.intro
            refine ⟨fun sv w' hw' hfa => ?_, ?_⟩
            · refine ⟨rfl, ?_⟩
              simp only [putsL]
              change quietTo _ _ _ _ (Sem.run _ (execOp (Act.eval _) _) _)
              try simp only [Act.put, List.setIfInBounds_toArray, List.set_cons_succ, List.set_cons_zero]
              simp [go_sem, quietTo, Ext.refl]
              all_goals first
                | rfl
            refine fac_quiet 1 rfl rfl rfl (fun _ _ h _ => h) rfl rfl ?_
            apply Exists.intro
            refine ⟨fun sv w' hw' hfa => ?_, ?_⟩
            · refine ⟨rfl, ?_⟩
              simp only [putsL]
              change quietTo _ _ _ _ (Sem.run _ (execOp (Act.eval _) _) _)
              try simp only [Act.put, List.setIfInBounds_toArray, List.set_cons_succ, List.set_cons_zero]
              simp [go_sem, quietTo, Ext.refl]
              all_goals first
                | rfl
            refine fac_late 2 rfl rfl Ext.refl (fun _ _ h _ => h) rfl rfl (fun _ _ _ _ h => h) ?_
            apply Exists.intro
            refine ⟨fun sv w' hw' hfa => ?_, ?_⟩
            · refine ⟨rfl, fun w2 => ?_⟩
              simp only [putsL]
              change pureTo _ _ (Sem.run _ (execOp (Act.eval _) _) _)
              try simp only [Act.put, List.setIfInBounds_toArray, List.set_cons_succ, List.set_cons_zero]
              simp [go_sem, pureTo]
              all_goals try simp (disch := omega) only [IntWalk.i64_in]
              all_goals first
                | rfl
            refine fac_late 3 rfl rfl Ext.refl (fun _ _ h _ => h) rfl rfl (fun _ _ _ _ h => h) ?_
            apply Exists.intro
            refine ⟨fun sv w' hw' hfa => ?_, ?_⟩
            · refine ⟨rfl, fun w2 => ?_⟩
              simp only [putsL]
              change pureTo _ _ (Sem.run _ (execOp (Act.eval _) _) _)
              try simp only [Act.put, List.setIfInBounds_toArray, List.set_cons_succ, List.set_cons_zero]
              simp [go_sem, pureTo]
              all_goals try simp (disch := omega) only [IntWalk.i64_in]
              all_goals first
                | rfl
            refine fac_quiet 4 rfl rfl rfl (fun _ _ h _ => h) rfl rfl ?_
            apply Exists.intro
            refine ⟨fun sv w' hw' hfa => ?_, ?_⟩
            · refine ⟨rfl, ?_⟩
              simp only [putsL]
              change quietTo _ _ _ _ (Sem.run _ (execOp (Act.eval _) _) _)
              try simp only [Act.put, List.setIfInBounds_toArray, List.set_cons_succ, List.set_cons_zero]
              simp [go_sem, quietTo, Ext.refl]
              all_goals first
                | rfl
            refine fac_quiet 5 rfl rfl rfl (fun _ _ h _ => h) rfl rfl ?_
            apply Exists.intro
            refine ⟨fun sv w' hw' hfa => ?_, ?_⟩
            · refine ⟨rfl, ?_⟩
              simp only [putsL]
              change quietTo _ _ _ _ (Sem.run _ (execOp (Act.eval _) _) _)
              try simp only [Act.put, List.setIfInBounds_toArray, List.set_cons_succ, List.set_cons_zero]
              simp [go_sem, quietTo, Ext.refl]
              all_goals first
                | rfl
            refine fac_quiet 6 rfl rfl rfl (fun _ _ h _ => h) rfl rfl ?_
            apply Exists.intro
            refine ⟨fun sv w' hw' hfa => ?_, ?_⟩
            · obtain ⟨f4, f5, -⟩ := hfa
              replace f4 : sv 4 = _ := f4
              try dsimp only at f4
              replace f5 : sv 5 = _ := f5
              try dsimp only at f5
              obtain ⟨hc9, hff, hz9⟩ := ((Ext.refl w2).drew.trans hw').walk; have v1 := (hc9 _ _ hbl).trans c1; have v2 := (hc9 _ _ hbl).trans c2
              refine ⟨rfl, ?_⟩
              simp only [putsL]
              change quietTo _ _ _ _ (Sem.run _ (execOp (Act.eval (Act.put (Act.put _ (some 33) (sv 5)) (some 32) (sv 4))) _) _)
              try simp only [Act.put, List.setIfInBounds_toArray, List.set_cons_succ, List.set_cons_zero]
              simp [go_sem, quietTo, Ext.refl, ↓IntWalk.iteOmega, f4, f5, hiI]
              all_goals try simp (disch := omega) only [IntWalk.i64_in]
              all_goals first
                | rfl
            refine fac_quiet 7 rfl rfl rfl (fun _ _ h _ => h) rfl rfl ?_
            apply Exists.intro
            refine ⟨fun sv w' hw' hfa => ?_, ?_⟩
            · obtain ⟨_, _, f6, -⟩ := hfa
              replace f6 : sv 6 = _ := f6
              try dsimp only at f6
              obtain ⟨hc9, hff, hz9⟩ := ((Ext.refl w2).drew.trans hw').walk; have v1 := (hc9 _ _ hbl).trans c1; have v2 := (hc9 _ _ hbl).trans c2
              refine ⟨rfl, ?_⟩
              simp only [putsL]
              change quietTo _ _ _ _ (Sem.run _ (execOp (Act.eval (Act.put (Act.put (Act.put _ (some 34) (sv 6)) (some 33) (sv 5)) (some 32) (sv 4))) _) _)
              try simp only [Act.put, List.setIfInBounds_toArray, List.set_cons_succ, List.set_cons_zero]
              simp [go_sem, quietTo, Ext.refl, ↓IntWalk.iteOmega, f6, v1]
              all_goals try simp (disch := omega) only [IntWalk.i64_in]
              all_goals first
                | rfl
            refine fac_quiet 8 rfl rfl rfl (fun _ _ h _ => h) rfl rfl ?_
            apply Exists.intro
            refine ⟨fun sv w' hw' hfa => ?_, ?_⟩
            · refine ⟨rfl, ?_⟩
              simp only [putsL]
              change quietTo _ _ _ _ (Sem.run _ (execOp (Act.eval _) _) _)
              try simp only [Act.put, List.setIfInBounds_toArray, List.set_cons_succ, List.set_cons_zero]
              simp [go_sem, quietTo, Ext.refl]
              all_goals first
                | rfl
            refine fac_quiet 9 rfl rfl rfl (fun _ _ h _ => h) rfl rfl ?_
            apply Exists.intro
            refine ⟨fun sv w' hw' hfa => ?_, ?_⟩
            · refine ⟨rfl, ?_⟩
              simp only [putsL]
              change quietTo _ _ _ _ (Sem.run _ (execOp (Act.eval _) _) _)
              try simp only [Act.put, List.setIfInBounds_toArray, List.set_cons_succ, List.set_cons_zero]
              simp [go_sem, quietTo, Ext.refl]
              all_goals first
                | rfl
            refine fac_quiet 10 rfl rfl rfl (fun _ _ h _ => h) rfl rfl ?_
            apply Exists.intro
            refine ⟨fun sv w' hw' hfa => ?_, ?_⟩
            · obtain ⟨f8, f9, -⟩ := hfa
              replace f8 : sv 8 = _ := f8
              try dsimp only at f8
              replace f9 : sv 9 = _ := f9
              try dsimp only at f9
              obtain ⟨hc9, hff, hz9⟩ := ((Ext.refl w2).drew.trans hw').walk; have v1 := (hc9 _ _ hbl).trans c1; have v2 := (hc9 _ _ hbl).trans c2
              refine ⟨rfl, ?_⟩
              simp only [putsL]
              change quietTo _ _ _ _ (Sem.run _ (execOp (Act.eval (Act.put (Act.put _ (some 37) (sv 9)) (some 36) (sv 8))) _) _)
              try simp only [Act.put, List.setIfInBounds_toArray, List.set_cons_succ, List.set_cons_zero]
              simp [go_sem, quietTo, Ext.refl, ↓IntWalk.iteOmega, f8, f9, hqI]
              all_goals try simp (disch := omega) only [IntWalk.i64_in]
              all_goals first
                | rfl
            refine fac_quiet 11 rfl rfl rfl (fun _ _ h _ => h) rfl rfl ?_
            apply Exists.intro
            refine ⟨fun sv w' hw' hfa => ?_, ?_⟩
            · obtain ⟨_, _, f10, -⟩ := hfa
              replace f10 : sv 10 = _ := f10
              try dsimp only at f10
              obtain ⟨hc9, hff, hz9⟩ := ((Ext.refl w2).drew.trans hw').walk; have v1 := (hc9 _ _ hbl).trans c1; have v2 := (hc9 _ _ hbl).trans c2
              refine ⟨rfl, ?_⟩
              simp only [putsL]
              change quietTo _ _ _ _ (Sem.run _ (execOp (Act.eval (Act.put (Act.put (Act.put _ (some 38) (sv 10)) (some 37) (sv 9)) (some 36) (sv 8))) _) _)
              try simp only [Act.put, List.setIfInBounds_toArray, List.set_cons_succ, List.set_cons_zero]
              simp [go_sem, quietTo, Ext.refl, ↓IntWalk.iteOmega, f10, v2]
              all_goals try simp (disch := omega) only [IntWalk.i64_in]
              all_goals first
                | rfl
            refine fac_quiet 12 rfl rfl rfl (fun _ _ h _ => h) rfl rfl ?_
            apply Exists.intro
            refine ⟨fun sv w' hw' hfa => ?_, ?_⟩
            · obtain ⟨f0, f1, -⟩ := hfa
              replace f0 : sv 0 = _ := f0
              try dsimp only at f0
              replace f1 : sv 1 = _ := f1
              try dsimp only at f1
              obtain ⟨hc9, hff, hz9⟩ := ((Ext.refl w2).drew.trans hw').walk; have v1 := (hc9 _ _ hbl).trans c1; have v2 := (hc9 _ _ hbl).trans c2
              refine ⟨rfl, ?_⟩
              simp only [putsL]
              change quietTo _ _ _ _ (Sem.run _ (execOp (Act.eval (Act.put (Act.put _ (some 29) (sv 1)) (some 28) (sv 0))) _) _)
              try simp only [Act.put, List.setIfInBounds_toArray, List.set_cons_succ, List.set_cons_zero]
              simp [go_sem, quietTo, Ext.refl, ↓IntWalk.iteOmega, f0, f1, hqI]
              all_goals try simp (disch := omega) only [IntWalk.i64_in]
              all_goals first
                | rfl
            refine fac_nil fun xq wrq herq hfrq hcrq holdq hapq => ?_
            obtain ⟨f0, f1, f2, f3, f4, f5, f6, f7, f8, f9, f10, f11, f12, -⟩ := hfrq
            replace f0 : xq 0 = _ := f0
            try dsimp only at f0
            replace f1 : xq 1 = _ := f1
            try dsimp only at f1
            replace f2 : xq 2 = _ := f2
            try dsimp only at f2
            replace f3 : xq 3 = _ := f3
            try dsimp only at f3
            replace f4 : xq 4 = _ := f4
            try dsimp only at f4
            replace f5 : xq 5 = _ := f5
            try dsimp only at f5
            replace f6 : xq 6 = _ := f6
            try dsimp only at f6
            replace f7 : xq 7 = _ := f7
            try dsimp only at f7
            replace f8 : xq 8 = _ := f8
            try dsimp only at f8
            replace f9 : xq 9 = _ := f9
            try dsimp only at f9
            replace f10 : xq 10 = _ := f10
            try dsimp only at f10
            replace f11 : xq 11 = _ := f11
            try dsimp only at f11
            replace f12 : xq 12 = _ := f12
            try dsimp only at f12
            change wpList _ _ _ _ (Act.put (Act.put (Act.put (Act.put (Act.put (Act.put (Act.put (Act.put (Act.put (Act.put (Act.put (Act.put (Act.put _ (some 28) (xq 0)) (some 29) (xq 1)) (some 30) (xq 2)) (some 31) (xq 3)) (some 32) (xq 4)) (some 33) (xq 5)) (some 34) (xq 6)) (some 35) (xq 7)) (some 36) (xq 8)) (some 37) (xq 9)) (some 38) (xq 10)) (some 39) (xq 11)) (some 40) (xq 12)) _
            simp only [putsL, Nat.reduceAdd, List.drop_succ_cons, List.drop_zero, List.drop_nil, Act.put, List.setIfInBounds_toArray, List.set_cons_succ, List.set_cons_zero]
            try simp only [f0, f1, f2, f3, f4, f5, f6, f7, f8, f9, f10, f11, f12]
            clear f0 f1 f2 f3 f4 f5 f6 f7 f8 f9 f10 f11 f12
            clear holdq hapq
            have hkq := (Ext.refl w2).drew.trans herq
            have hOq := hO2.ext hkq
            have hSq := hS2.ext hkq
            have hEq := hE3.ext hkq
            have d1 := hOq.cell ex1.out
            have d2 := hOq.cell ex2.out
            have hfz := hOq.frozen
            have hO4 := (hOq.set (i := q) (by omega) x1 hx1).set (i := i) (by omega) x2 hx2
            have hS4 := (hSq.set (p := ⟨b, q, none⟩) (by simp only; omega) (.int .i64 x1)).set (p := ⟨b, i, none⟩) (by simp only; omega) (.int .i64 x2)
            have hE4 := (hEq.setCell (p := ⟨b, q, none⟩) (.inr hb1) (.int .i64 x1)).setCell (p := ⟨b, i, none⟩) (.inr hb1) (.int .i64 x2)
            clear hO2 hS2 hE3 hOq hSq hEq hkq herq c1 c2
            replace hO4 := Lib.hid hO4
            replace hS4 := Lib.hid hS4
            have hnx2 : ∀ wz, OwL (((ordS L k j u).set q x1).set i x2) wz w.heap.size (some ⟨b, 0, none⟩) j c → StrL wz s L (k + u + 1) → ExtS s w wz → ∃ u, (j = 0 ∧ u = 0 ∧ Value.int .i64 ((q : Int) - 1) = .int .i64 ((j : Int) - 1) ∨ ∃ q' : Nat, Value.int .i64 ((q : Int) - 1) = .int .i64 q' ∧ q' + u + 1 = j) ∧ OwL (ordS L k j u) wz w.heap.size (some ⟨b, 0, none⟩) j c ∧ StrL wz s L (k + u) ∧ ExtS s w wz := fun wz h1 h2 h3 => ⟨u + 1, .inr ⟨q - 1, by rw [show (((q - 1 : Nat)) : Int) = (q : Int) - 1 by omega], by omega⟩, by rw [hsuc.out]; exact h1, h2, h3⟩
            replace hnx2 := Lib.hid hnx2
            by_cases hiq : i = q
            · subst hiq
              go_wp2
              go_roundw
              case rel => exact hnx2.out _ hO4.out hS4.out hE4
              case measure => simp [intOf]; omega
            · have hqi : ¬ q = i := fun e => hiq e.symm
              go_wp2
              go_roundw
              case rel => exact hnx2.out _ hO4.out hS4.out hE4
              case measure => simp [intOf]; omega
/-- Stands that are being made, told exactly. -/
structure SlD (L : Src) (O : List Int) (s k0 : Nat) (w : World) (base : Nat) (wr : World) (P : List PersonV) (p0 : Option Addr) (c0 lo : Nat) (v7 : Value) (po : Option Addr) (m co : Nat) (S : List StandV) : Prop where
  own : wr.ownsRow base 48 3 v7 S.length (S.flatMap staC)
  sum : S.length + m = P.length
  small : ∀ x ∈ S, x.Small
  cap : m ≤ co
  at_ : m ≠ 0 → ∃ bo, po = some ⟨bo, P.length - m, none⟩ ∧ p0 = some ⟨bo, 0, none⟩
  ord : OwL O wr lo p0 P.length c0
  low : s < lo ∧ s < base ∧ w.heap.size ≤ base
  szb : base ≤ wr.heap.size
  str : StrL wr s L k0
  ext : ExtS s w wr
theorem SlD.extS {L : Src} {O : List Int} {s k0 k1 : Nat} {w : World} {base : Nat} {wr wq : World} {P : List PersonV} {p0 : Option Addr} {c0 lo : Nat} {v7 : Value} {po : Option Addr} {m co : Nat} {S : List StandV} (h : SlD L O s k0 w base wr P p0 c0 lo v7 po m co S) (he : ExtS s wr wq) (hs : StrL wq s L k1) : SlD L O s k1 w base wq P p0 c0 lo v7 po m co S :=
  ⟨own_extS he h.low.2.1 h.own, h.sum, h.small, h.cap, h.at_, h.ord.extS h.low.1 he, h.low, Nat.le_trans h.szb he.2.2.2.1, hs, h.ext.trans he⟩
theorem SlD.more {L : Src} {O : List Int} {s k0 : Nat} {w : World} {base : Nat} {wr wq : World} {P : List PersonV} {p0 : Option Addr} {c0 lo : Nat} {v7 : Value} {po : Option Addr} {m co : Nat} {S : List StandV} (h : SlD L O s k0 w base wr P p0 c0 lo v7 po m co S) (he : Ext wr wq) : SlD L O s k0 w base wq P p0 c0 lo v7 po m co S := h.extS he.extS (h.str.ext he)

def slStep (L : Src) (P : List PersonV) (O : List Int) (r : Nat) (st : List StandV × Nat × Nat) (q : Nat) : List StandV × Nat × Nat :=
  if st.2.1 < P.length then
    if flF L st.2.2 4 then (st.1, st.2.1, st.2.2 + 1)
    else (st.1 ++ [⟨(P.getD (O.getD st.2.1 0).toNat default).name, r, q⟩], st.2.1 + 1, st.2.2 + 1)
  else st
def slRow (L : Src) (P : List PersonV) (O : List Int) (r : Nat) (st : List StandV × Nat × Nat) (n : Nat) : List StandV × Nat × Nat := (List.range n).foldl (slStep L P O r) st
def slAll (L : Src) (P : List PersonV) (O wide : List Int) (st : List StandV × Nat × Nat) (n : Nat) : List StandV × Nat × Nat := (List.range n).foldl (fun st r => slRow L P O r st (wide.getD r 0).toNat) st
theorem slRow_succ (L : Src) (P : List PersonV) (O : List Int) (r : Nat) (st : List StandV × Nat × Nat) (n : Nat) : slRow L P O r st (n + 1) = slStep L P O r (slRow L P O r st n) n := by simp [slRow, List.range_succ]
theorem slAll_succ (L : Src) (P : List PersonV) (O wide : List Int) (st : List StandV × Nat × Nat) (n : Nat) : slAll L P O wide st (n + 1) = slRow L P O n (slAll L P O wide st n) (wide.getD n 0).toNat := by simp [slAll, List.range_succ]
def slF (L : Src) (P : List PersonV) (wide high : List Int) (k : Nat) : List StandV × Nat :=
  if peopleF P ≠ 0 ∨ stageF wide high ≠ 0 then ([], k) else
    let st := slAll L P (ordS L k P.length (P.length - 1)) wide ([], 0, k + (P.length - 1)) wide.length
    if st.1.length = 0 then (st.1, st.2.2) else if flF L st.2.2 15 then
      let i := nxF L (st.2.2 + 1) st.1.length
      let x := st.1.getD i default
      (st.1.set i ⟨smF L (st.2.2 + 2) [x.name, ⟨#[122, 122]⟩, ⟨#[112, 48]⟩], pkF L (st.2.2 + 3) [x.row, 3, -1], pkF L (st.2.2 + 4) [x.place, 4, -1]⟩, st.2.2 + 5)
    else (st.1, st.2.2 + 1)
theorem slStep_none {L : Src} {P : List PersonV} {O : List Int} {r q pos off : Nat} {S : List StandV} (h : P.length ≤ off) : slStep L P O r (S, off, pos) q = (S, off, pos) := by
  unfold slStep; simp only; rw [if_neg (by omega)]
theorem slStep_skip {L : Src} {P : List PersonV} {O : List Int} {r q pos off : Nat} {S : List StandV} (h : off < P.length) (hf : flF L pos 4 = true) : slStep L P O r (S, off, pos) q = (S, off, pos + 1) := by
  unfold slStep; simp only; rw [if_pos h, if_pos hf]
theorem slStep_take {L : Src} {P : List PersonV} {O : List Int} {r q pos off x : Nat} {S : List StandV} {y : PersonV} (h : off < P.length) (hf : flF L pos 4 = false) (hx : O[off]? = some (x : Int)) (hy : P[x]? = some y) : slStep L P O r (S, off, pos) q = (S ++ [⟨y.name, r, q⟩], off + 1, pos + 1) := by
  have e1 : O.getD off 0 = (x : Int) := by rw [List.getD_eq_getElem?_getD, hx]; rfl
  have e2 : P.getD x default = y := by rw [List.getD_eq_getElem?_getD, hy]; rfl
  unfold slStep; simp only; rw [if_pos h, hf, e1, Int.toNat_natCast, e2]; rfl
theorem slF_bad {L : Src} {P : List PersonV} {wide high : List Int} {k : Nat} (h : peopleF P ≠ 0 ∨ stageF wide high ≠ 0) : slF L P wide high k = ([], k) := by
  unfold slF; rw [if_pos h]
theorem slF_none {L : Src} {P : List PersonV} {wide high : List Int} {k off pos : Nat} {S : List StandV} (h1 : peopleF P = 0) (h2 : stageF wide high = 0) (hst : slAll L P (ordS L k P.length (P.length - 1)) wide ([], 0, k + (P.length - 1)) wide.length = (S, off, pos)) (h0 : S.length = 0) : slF L P wide high k = (S, pos) := by
  unfold slF; rw [if_neg (by omega)]; simp only; rw [hst]; simp only; rw [if_pos h0]
theorem slF_keep {L : Src} {P : List PersonV} {wide high : List Int} {k off pos : Nat} {S : List StandV} (h1 : peopleF P = 0) (h2 : stageF wide high = 0) (hst : slAll L P (ordS L k P.length (P.length - 1)) wide ([], 0, k + (P.length - 1)) wide.length = (S, off, pos)) (h0 : 0 < S.length) (hf : flF L pos 15 = false) : slF L P wide high k = (S, pos + 1) := by
  unfold slF; rw [if_neg (by omega)]; simp only; rw [hst]; simp only; rw [if_neg (by omega), hf]; rfl
theorem slF_mod {L : Src} {P : List PersonV} {wide high : List Int} {k off pos i : Nat} {S : List StandV} {x : StandV} (h1 : peopleF P = 0) (h2 : stageF wide high = 0) (hst : slAll L P (ordS L k P.length (P.length - 1)) wide ([], 0, k + (P.length - 1)) wide.length = (S, off, pos)) (h0 : 0 < S.length) (hf : flF L pos 15 = true) (hi : nxF L (pos + 1) S.length = i) (hx : S[i]? = some x) :
    slF L P wide high k = (S.set i ⟨smF L (pos + 2) [x.name, ⟨#[122, 122]⟩, ⟨#[112, 48]⟩], pkF L (pos + 3) [x.row, 3, -1], pkF L (pos + 4) [x.place, 4, -1]⟩, pos + 5) := by
  unfold slF; rw [if_neg (by omega)]; simp only; rw [hst]; simp only; rw [if_neg (by omega), if_pos hf, hi, List.getD_eq_getElem?_getD, hx]; rfl

def StandsD (L : Src) (P : List PersonV) (wide high : List Int) (s k : Nat) (w : World) (e : Ending) (w' : World) : Prop := ∃ (lp : Option Addr) (lc : Nat) (S : List StandV) (k' : Nat), e = .returned (.slice lp S.length lc) ∧ S.length ≤ 9 ∧ Slc 3 staC w' lp S.length lc S ∧ (∀ x ∈ S, x.Small) ∧ (∀ a, lp = some a → w.heap.size ≤ a.block) ∧ slF L P wide high k = (S, k') ∧ k' ≤ k + 2000 ∧ StrL w' s L k' ∧ ExtS s w w'

set_option maxRecDepth 100000 in
set_option maxHeartbeats 12800000 in
theorem standList_det (s k : Nat) (L : Src) (w : World) (pp : Option Addr) (pc : Nat) (P : List PersonV) (wp : Option Addr) (wcap : Nat) (wide : List Int) (hp : Option Addr) (hc : Nat) (high : List Int) (hk : k ≤ 900000) (hs : StrL w s L k)
    (h1 : Slc 3 perC w pp P.length pc P) (h2 : Slc 1 intC w wp wide.length wcap wide) (h3 : Slc 1 intC w hp high.length hc high) (n1 : ∀ a, pp = some a → a.block ≠ s) (n2 : ∀ a, wp = some a → a.block ≠ s)
    (sP : ∀ x ∈ P, x.Small) (sw : SmallL wide) (sh : SmallL high) (hP9 : P.length ≤ 9) (hw4 : wide.length ≤ 4) :
    Calls Tryz.prog 21 #[.pointer (some ⟨s, 0, none⟩), .slice pp P.length pc, .agg #[.slice wp wide.length wcap, .slice hp high.length hc]] w (StandsD L P wide high s k w) := by
  have l0 := hs.lt
  have hX : Blk (w.alloc (.cells #[.slice wp wide.length wcap, .slice hp high.length hc] 29)) w.heap.size 29 #[.slice wp wide.length wcap, .slice hp high.length hc] := Blk.new' rfl
  have hE0 : Ext w (w.alloc (.cells #[.slice wp wide.length wcap, .slice hp high.length hc] 29)) := (Ext.refl _).alloc _
  have hf1 := fun u (hu : Ext w u) => faultPeople_any pp P.length pc P u (h1.ext hu).1 sP (by omega)
  have hf2 := fun u (hu : Ext w u) => faultStage_any wp wcap hp hc wide high u (h2.ext hu) (h3.ext hu) sw sh
  have hnil : peopleF P ≠ 0 ∨ stageF wide high ≠ 0 → ∀ u, Ext w u → StandsD L P wide high s k w (.returned (.slice none 0 0)) u := fun hb u hu => ⟨none, 0, [], k, rfl, by simp, Slc.nil _ _ _, (fun x hx => by cases hx), (fun a ha => by cases ha), slF_bad hb, by omega, hs.ext hu, hu.extS⟩
  replace hnil := Lib.hid hnil
  have hwo : stageF wide high = 0 → WideOk wide := fun h => (stageF_ok h).1
  generalize hpa : peopleF P = a at *
  generalize hsb : stageF wide high = b at *
  replace hpa := Lib.hid hpa
  replace hsb := Lib.hid hsb
  by_cases ha : a = 0
  rotate_left
  · replace hf1 := Lib.hid hf1
    go_enter Tryz.func21, Tryz.ntmps21
    go_wp2_with (go_at_call 11; (with_reducible refine Calls.mono (hf1.out _ hE0) ?_); rintro e w1 ⟨rfl, hb1⟩)
    go_ret
    exact hnil.out (.inl ha) _ (hE0.trans hb1)
  subst ha
  by_cases hb : b = 0
  rotate_left
  · replace hf1 := Lib.hid hf1
    replace hf2 := Lib.hid hf2
    go_enter Tryz.func21, Tryz.ntmps21
    go_wp2_with (first
      | (go_at_call 11; (with_reducible refine Calls.mono (hf1.out _ hE0) ?_); rintro e w1 ⟨rfl, hb1⟩; obtain ⟨y1, -⟩ := (hX.ext hb1).walk; have ly := (hX.ext hb1).lt)
      | (go_at_call 12; (with_reducible refine Calls.mono (hf2.out _ (hE0.trans hb1)) ?_); rintro e w2 ⟨rfl, hb2⟩))
    go_ret
    exact hnil.out (.inr hb) _ ((hE0.trans hb1).trans hb2)
  subst hb
  have hwk := hwo rfl
  clear hwo
  clear hnil
  have hor := fun u (hu : Ext w u) => order_det s k P.length L u (by omega) hP9 (hs.ext hu)
  have hOl := ordS_len L k P.length (P.length - 1)
  have hOi := fun h0 => ordS_in L k P.length h0 (P.length - 1)
  have hfn0 := fun (off pos : Nat) (S : List StandV) => slF_none (L := L) (k := k) (off := off) (pos := pos) (S := S) hpa.out hsb.out
  have hfn1 := fun (off pos : Nat) (S : List StandV) => slF_keep (L := L) (k := k) (off := off) (pos := pos) (S := S) hpa.out hsb.out
  have hfn2 := fun (off pos i : Nat) (S : List StandV) (x : StandV) => slF_mod (L := L) (k := k) (off := off) (pos := pos) (S := S) (i := i) (x := x) hpa.out hsb.out
  obtain ⟨O, hO⟩ : ∃ O, ordS L k P.length (P.length - 1) = O := ⟨_, rfl⟩
  rw [hO] at hor hOl hOi hfn0 hfn1 hfn2
  obtain ⟨k1, hk1⟩ : ∃ k1, k1 = k + (P.length - 1) := ⟨_, rfl⟩
  have hk1b : k1 ≤ k + P.length := by omega
  rw [← hk1] at hor hfn0 hfn1 hfn2
  replace hk1 := Lib.hid hk1
  replace hO := Lib.hid hO
  replace hOl := Lib.hid hOl
  replace hOi := Lib.hid hOi
  replace hfn0 := Lib.hid hfn0
  replace hfn1 := Lib.hid hfn1
  replace hfn2 := Lib.hid hfn2
  replace hf1 := Lib.hid hf1
  replace hf2 := Lib.hid hf2
  replace hor := Lib.hid hor
  replace h1 := Lib.hid h1
  replace h2 := Lib.hid h2
  go_enter Tryz.func21, Tryz.ntmps21
  go_wp2_with (first
      | (go_at_call 11; (with_reducible refine Calls.mono (hf1.out _ hE0) ?_); rintro e w1 ⟨rfl, hb1⟩; have hX1 := hX.ext hb1; obtain ⟨y1, -⟩ := hX1.walk; have ly := hX1.lt)
      | (go_at_call 12; (with_reducible refine Calls.mono (hf2.out _ (hE0.trans hb1)) ?_); rintro e w2 ⟨rfl, hb2⟩; have hX2 := hX1.ext hb2; clear y1)
      | (go_at_call 53; (with_reducible refine Calls.mono (hor.out _ ((hE0.trans hb1).trans hb2)) ?_); rintro e w3 ⟨p0, c0, rfl, hO3, hS3, hE3⟩; have hX3 := hX2.extS (by omega) hE3; obtain ⟨y3, -⟩ := hX3.walk; have ly3 := hX3.lt))
  have hE4 : ExtS s w w3 := (((hE0.trans hb1).trans hb2).extS).trans hE3
  have hsz := ((hE0.trans hb1).trans hb2).size
  have hsz3 := hE3.2.2.2.1
  have hM0 : SlD L O s k1 w w3.heap.size w3 P p0 c0 w2.heap.size (.slice none 0 0) p0 P.length c0 [] := by
    refine ⟨World.ownsRow_nil _ _ _ _, by simp, (fun x hx => by cases hx), ?_, fun hn => ?_, hO3, ⟨by omega, by omega, by omega⟩, Nat.le_refl _, hS3, hE4⟩
    · exact (hO3.slc (by omega)).2.1
    · obtain ⟨b, rfl, -, -⟩ := hO3.form (by omega)
      exact ⟨b, by rw [Nat.sub_self], rfl⟩
  have hp0 : ∀ a, p0 = some a → a.block < w3.heap.size := fun a ha => (hO3.lt ha).2
  replace hp0 := Lib.hid hp0
  clear hO3 hS3 hE3 hX3 hX2 hX1 hX hE0 hb1 hb2 hf1 hf2 hor y3 ly3 ly
  go_loopw [7, 8, 28] (fun v7 v8 v28 wr => ∃ (r m co pos : Nat) (po : Option Addr) (S : List StandV), v28 = .int .i64 r ∧ r ≤ wide.length ∧ v8 = .slice po m co ∧ pos ≤ k + P.length + 30 * r ∧ slAll L P O wide ([], 0, k1) r = (S, P.length - m, pos) ∧ SlD L O s pos w w3.heap.size wr P p0 c0 w2.heap.size v7 po m co S) (fun _ _ v28 _ => wide.length - (intOf v28).toNat)
  case atStart => exact ⟨0, _, _, k1, _, [], rfl, Nat.zero_le _, rfl, by omega, by rw [Nat.sub_self]; rfl, hM0⟩
  case round =>
    clear hM0
    obtain ⟨r, m, co, pos, po, S, rfl, hr, rfl, hpos, hst, hM⟩ := hrel
    replace hst := Lib.hid hst
    by_cases hlt : r < wide.length
    · obtain ⟨v, hv⟩ := getD_some (rfl : wide.length = wide.length) hlt
      obtain ⟨hv1, hv2⟩ := hwk.2 v (List.mem_of_getElem? hv)
      obtain ⟨wd, rfl⟩ : ∃ n : Nat, v = n := ⟨v.toNat, by omega⟩
      have h2r := h2.out.extS hM.ext n2
      rcases (slcC h2r).2 with ⟨-, e⟩ | ⟨wb, wo, hwp, hwb, hwE⟩
      · rw [e] at hv; cases hv
      subst hwp
      have cw := hwE.int hv
      have hrI : (r : Int) < wide.length := by omega
      clear h2r hwE
      go_wp2
      go_loopw [7, 8, 34] (fun v7 v8 v34 wq => ∃ (q m co pos : Nat) (po : Option Addr) (S : List StandV), v34 = .int .i64 q ∧ q ≤ wd ∧ v8 = .slice po m co ∧ pos ≤ k + P.length + 30 * r + q ∧ slRow L P O r (slAll L P O wide ([], 0, k1) r) q = (S, P.length - m, pos) ∧ SlD L O s pos w w3.heap.size wq P p0 c0 w2.heap.size v7 po m co S) (fun _ _ v34 _ => wd - (intOf v34).toNat)
      case atStart => exact ⟨0, _, _, pos, _, S, rfl, Nat.zero_le _, rfl, by omega, hst.out, hM⟩
      case round =>
        clear hM cw hst hpos
        obtain ⟨q, m, co, pos, po, S, rfl, hq, rfl, hpos, hst, hM⟩ := hrel
        replace hst := Lib.hid hst
        by_cases hql : q < wd
        · rcases Nat.eq_zero_or_pos m with hm0 | hm0
          · have hmI : ¬ (0 : Int) < m := by omega
            replace hM := Lib.hid hM
            replace hm0 := Lib.hid hm0
            go_wp2
            go_roundw
            case rel => exact ⟨q + 1, m, co, pos, po, S, by go_num, by omega, rfl, by omega, by rw [slRow_succ, hst.out]; exact slStep_none (by have := hm0.out; omega), hM.out⟩
            case measure => simp [intOf]; omega
          · have hmI : (0 : Int) < m := by omega
            replace hM := Lib.hid hM
            obtain ⟨bb, hbb⟩ : ∃ bb, flF L pos 4 = bb := ⟨_, rfl⟩
            go_upto_if 44 with (go_at_call 7; (with_reducible refine Calls.mono (flip_det s pos 4 L _ (by omega) (by omega) (by omega) (by exact hM.out.str)) ?_); rintro e w4 ⟨rfl, hS4, hE4⟩; rw [hbb])
            have hM4 := hM.out.extS hE4 hS4
            clear hM hS4 hE4
            cases bb
            · obtain ⟨off, hoff0⟩ : ∃ off, P.length - m = off := ⟨_, rfl⟩
              obtain ⟨bo, hpe, hp0e⟩ := hM4.at_ (by omega)
              rw [hoff0] at hpe
              subst hpe
              have hoff : off + m ≤ P.length := by have := hM4.sum; omega
              subst hp0e
              have hO := hM4.ord
              obtain ⟨x0, ex0⟩ := getD_some hOl.out (show off < P.length by omega)
              have cx := hO.cell ex0
              obtain ⟨hx0, hx1⟩ := hOi.out (by omega) x0 (List.mem_of_getElem? ex0)
              obtain ⟨xi, rfl⟩ : ∃ n : Nat, x0 = n := ⟨x0.toNat, by omega⟩
              have hbo := (hO.lt rfl).2
              simp only at hbo
              obtain ⟨y, hy⟩ := getD_some (rfl : P.length = P.length) (show xi < P.length by omega)
              have hys := sP y (List.mem_of_getElem? hy)
              have hstep := slStep_take (L := L) (P := P) (O := O) (r := r) (q := q) (pos := pos) (S := S) (show off < P.length by omega) hbb ex0 hy
              rw [← hoff0, ← hst.out, ← slRow_succ] at hstep
              replace hstep := Lib.hid hstep
              replace ex0 := Lib.hid ex0
              have h1r := h1.out.extS hM4.ext n1
              rcases (slcC h1r).2 with ⟨-, e⟩ | ⟨pb, pof, hpp, hpb, hpE⟩
              · rw [e] at hy; cases hy
              subst hpp
              have cy := (hpE.per hy).1
              have hsz4 := hM4.ext.2.2.2.1
              have hsum := hM4.sum
              have hlo := hM4.low
              have hszb := hM4.szb
              have hcap := hM4.cap
              clear hO h1r hpE
              replace hM4 := Lib.hid hM4
              replace hy := Lib.hid hy
              rcases Nat.lt_or_ge 1 co with hco | hco
              all_goals
                go_wp2_with (at_builtin; go_loud (refine wp_app1 _ (.tmp 45) (.tmp 56) 40 48 3 32 _ rfl rfl Tryz.underlying40 staInfo rfl (by decide) (by decide) w3.heap.size _ _ _ rfl (hM4.out.own.alloc _) w4.heap.size (staC ⟨y.name, r, q⟩) rfl rfl (Blk.new' rfl) (sta_one _) (by omega) (by simp; omega) ?_; intro v' w6 hown6 hgrow6 _))
                have hbo2 := hp0.out _ rfl
                simp only at hbo2
                have hM6 : ∀ po' co', m - 1 ≤ co' → (m - 1 ≠ 0 → po' = some ⟨bo, off + 1, none⟩) → SlD L O s (pos + 1) w w3.heap.size w6 P (some ⟨bo, 0, none⟩) c0 w2.heap.size v' po' (m - 1) co' (S ++ [⟨y.name, r, q⟩]) := fun po' co' h8 h9 =>
                  ⟨by rw [flat_snoc, List.length_append]; exact hown6, by rw [List.length_append, List.length_singleton]; omega, fun x hx => by
                    rcases List.mem_append.1 hx with h | h
                    · exact hM4.out.small x h
                    · rw [List.mem_singleton] at h
                      subst h
                      exact ⟨hys.1, by simp only; omega, by simp only; omega, by simp only; omega, by simp only; omega⟩, h8, fun h => ⟨bo, by rw [h9 h, show P.length - (m - 1) = off + 1 by omega], rfl⟩,
                    (hM4.out.ord.ext ((Ext.refl _).alloc _)).grown hgrow6 (fun a ha e => by cases ha; have := (hM4.out.own.lt bo e.symm).1; omega), hM4.out.low, Nat.le_trans (by simp; omega) hgrow6.size, ((hM4.out.str.ext ((Ext.refl _).alloc _)).grown hgrow6 (fun g hg => by have := (hM4.out.own.lt g hg).1; omega)), (hM4.out.ext.alloc _).grownX hgrow6 (fun g hg => by have := (hM4.out.own.lt g hg).1; omega)⟩
                go_roundw
                case rel => exact ⟨q + 1, m - 1, _, pos + 1, _, _, by go_num, by omega, rfl, by omega, by rw [hstep.out, show P.length - (m - 1) = P.length - m + 1 by omega], hM6 _ _ (by omega) (fun h => by first | rfl | (exfalso; omega))⟩
                case measure => simp [intOf]; omega
            · replace hM4 := Lib.hid hM4
              go_wp2
              go_roundw
              case rel => exact ⟨q + 1, m, co, pos + 1, po, S, by go_num, by omega, rfl, by omega, by rw [slRow_succ, hst.out]; exact slStep_skip (by have := hM4.out.sum; omega) hbb, hM4.out⟩
              case measure => simp [intOf]; omega
        · obtain rfl : q = wd := by omega
          replace hM := Lib.hid hM
          go_wp2
          go_roundw
          case rel => exact ⟨r + 1, m, co, pos, po, S, by go_num, by omega, rfl, by omega, by rw [slAll_succ, List.getD_eq_getElem?_getD, hv, Option.getD_some, Int.toNat_natCast]; exact hst.out, hM.out⟩
          case measure => simp [intOf]; omega
    · obtain rfl : r = wide.length := by omega
      have hsum := hM.sum
      have hlow := hM.low
      obtain ⟨lp, lc, rfl, hSl⟩ := slc_of_own staC_len hM.own (by decide) (by omega)
      have hfr : ∀ a, lp = some a → w.heap.size ≤ a.block := fun a ha => by
        subst ha
        have := (hM.own.lt a.block rfl).1
        omega
      rcases Nat.eq_zero_or_pos S.length with h0 | h0
      · have hres : StandsD L P wide high s k w (.returned (.slice lp S.length lc)) wr := ⟨lp, lc, S, pos, rfl, by omega, hSl, hM.small, hfr, hfn0.out _ _ _ hst.out h0, by omega, hM.str, hM.ext⟩
        have h0I : ¬ (0 : Int) < (S.length : Int) := by omega
        replace hM := Lib.hid hM
        replace hres := Lib.hid hres
        replace h0 := Lib.hid h0
        clear hSl hfr hsum
        go_wp2
        go_ret
        exact hres.out
      · have h0I : (0 : Int) < (S.length : Int) := by omega
        obtain ⟨g, cap, hlp, hg, hgl⟩ := hM.own.form h0
        cases hlp
        replace hM := Lib.hid hM
        clear hSl
        obtain ⟨bb, hbb⟩ : ∃ bb, flF L pos 15 = bb := ⟨_, rfl⟩
        go_upto_if 68 with (go_at_call 7; (with_reducible refine Calls.mono (flip_det s pos 15 L _ (by omega) (by omega) (by omega) (by exact hM.out.str)) ?_); rintro e w4 ⟨rfl, hS4, hE4⟩; rw [hbb])
        have hM4 := hM.out.extS hE4 hS4
        clear hM hS4 hE4
        cases bb
        · obtain ⟨lp, lc, hlp, hSl⟩ := slc_of_own staC_len hM4.own (by decide) (by omega)
          cases hlp
          have hres : StandsD L P wide high s k w (.returned (.slice (some ⟨g, 0, none⟩) S.length lc)) w4 := ⟨_, _, S, pos + 1, rfl, by omega, hSl, hM4.small, hfr, hfn1.out _ _ _ hst.out h0 hbb, by omega, hM4.str, hM4.ext⟩
          replace hres := Lib.hid hres
          clear hM4 hSl
          go_wp2
          go_ret
          exact hres.out
        · obtain ⟨i, hi0⟩ : ∃ i, nxF L (pos + 1) S.length = i := ⟨_, rfl⟩
          have hi : i < S.length := hi0 ▸ nxF_lt L _ S.length (by omega)
          have hnx := next_det s (pos + 1) S.length L w4 (by omega) (by omega) (by omega) hM4.str
          rw [hi0] at hnx
          replace hi0 := Lib.hid hi0
          replace hnx := Lib.hid hnx
          replace hM4 := Lib.hid hM4
          go_upto_region 18 with (go_at_call 31; (with_reducible refine Calls.mono hnx.out ?_); rintro e w5 ⟨rfl, hS5, hE5⟩)
          have hM5 := hM4.out.extS hE5 hS5
          clear hM4 hS5 hE5 hgl hnx
          obtain ⟨x, hx⟩ := getD_some (rfl : S.length = S.length) hi
          obtain ⟨s1, s2, s3, s4, s5⟩ := hM5.small x (List.mem_of_getElem? hx)
          have ho5 := hM5.own
          have hgl : g < w5.heap.size := (ho5.lt g rfl).2
          have hgs : g ≠ s := by omega
          have hsl : s < w5.heap.size := hM5.str.lt
          have hsl' : s < w5.drew.heap.size := hsl
          have c0x : w5.cell? ⟨g, i * 3, none⟩ = some (.string x.name) := own_cell staC_len ho5 hx 0 rfl hi
          have c1x : w5.cell? ⟨g, i * 3 + 1, none⟩ = some (.int .i64 x.row) := own_cell staC_len ho5 hx 1 rfl hi
          have c2x : w5.cell? ⟨g, i * 3 + 2, none⟩ = some (.int .i64 x.place) := own_cell staC_len ho5 hx 2 rfl hi
          obtain ⟨K, hK⟩ : ∃ K, K = pos + 1 + 1 := ⟨_, rfl⟩
          have hmod := hfn2.out _ _ _ _ _ hst.out h0 hbb hi0.out hx
          rw [show pos + 2 = K by omega, show pos + 3 = K + 1 by omega, show pos + 4 = K + 1 + 1 by omega, show pos + 5 = K + 1 + 1 + 1 by omega] at hmod
          obtain ⟨nm, hnm0⟩ : ∃ nm, smF L K [x.name, ⟨#[122, 122]⟩, ⟨#[112, 48]⟩] = nm := ⟨_, rfl⟩
          obtain ⟨z1, hz10⟩ : ∃ z, pkF L (K + 1) [x.row, 3, -1] = z := ⟨_, rfl⟩
          obtain ⟨z2, hz20⟩ : ∃ z, pkF L (K + 1 + 1) [x.place, 4, -1] = z := ⟨_, rfl⟩
          rw [hnm0, hz10, hz20] at hmod
          have hnm : nm.size ≤ 1000 := by
            have := smF_mem (L := L) (a := K) (xs := [x.name, ⟨#[122, 122]⟩, ⟨#[112, 48]⟩]) (by simp)
            rw [hnm0] at this
            rcases (by simpa using this : nm = x.name ∨ nm = ⟨#[122, 122]⟩ ∨ nm = ⟨#[112, 48]⟩) with rfl | rfl | rfl
            · exact s1
            · decide
            · decide
          have hz1 := pkF_in (L := L) (a := K + 1) (xs := [x.row, 3, -1]) (lo := -1099511627776) (hi := 1099511627776) (by simp) (by intro y hy; simp at hy; omega)
          have hz2 := pkF_in (L := L) (a := K + 1 + 1) (xs := [x.place, 4, -1]) (lo := -1099511627776) (hi := 1099511627776) (by simp) (by intro y hy; simp at hy; omega)
          rw [hz10] at hz1
          rw [hz20] at hz2
          replace hmod := Lib.hid hmod
          have hKb : K ≤ k + 1000 := by omega
          have hS5d : StrL w5.drew s L K := by rw [hK]; exact hM5.str.ext (Ext.drew (Ext.refl _))
          replace ho5 := Lib.hid ho5
          replace hM5 := Lib.hid hM5
          replace hx := Lib.hid hx
          replace hK := Lib.hid hK
          refine wp_region_facts [1, 2] [([], false, false), ([], false, false), ([], false, false), ([], false, false), ([], false, false), ([4], false, false), ([4, 5], false, false), ([4, 5, 6], false, false), ([4, 5, 6, 7], false, true), ([3, 4, 5, 6, 7, 8], true, false), ([], false, false), ([], false, false), ([11], false, false), ([11, 12], false, false), ([11, 12, 13], false, false), ([11, 12, 13, 14], false, true), ([10, 11, 12, 13, 14, 15], true, false), ([], false, false), ([], false, false), ([18], false, false), ([18, 19], false, false), ([18, 19, 20], false, false), ([18, 19, 20, 21], false, true), ([17, 18, 19, 20, 21, 22], true, false), ([0], false, false), ([0, 24], false, false)] (ExtS s) Ext (fun w => StrL w s L K) (by kernel_rfl) (by kernel_rfl) Ext.refl (fun _ _ _ => ExtS.trans) (fun _ _ h => h.extS) (fun _ _ h => h.2.2.2.1) (fun _ _ h he => h.ext he) hS5d ?_
          dsimp only [List.length_cons, List.length_nil, List.drop_succ_cons, List.drop_zero, List.drop_nil]
          refine fac_quiet 0 rfl rfl rfl (fun _ _ h he => h.ext he) rfl rfl ?_
          apply Exists.intro
          refine ⟨fun sv w' hw' hfa => ?_, ?_⟩
          · refine ⟨rfl, ?_⟩
            simp only [putsL]
            change quietTo _ _ _ _ (Sem.run _ (execOp (Act.eval _) _) _)
            try simp only [Act.put, List.setIfInBounds_toArray, List.set_cons_succ, List.set_cons_zero]
            simp [go_sem, quietTo, Ext.refl]
            all_goals first
              | rfl
          refine fac_late 1 rfl rfl Ext.refl (fun _ _ h he => h.ext he) rfl rfl (fun _ _ _ _ h => h) ?_
          apply Exists.intro
          refine ⟨fun sv w' hw' hfa => ?_, ?_⟩
          · refine ⟨rfl, fun w2 => ?_⟩
            simp only [putsL]
            change pureTo _ _ (Sem.run _ (execOp (Act.eval _) _) _)
            try simp only [Act.put, List.setIfInBounds_toArray, List.set_cons_succ, List.set_cons_zero]
            simp [go_sem, pureTo]
            all_goals try simp (disch := omega) only [IntWalk.i64_in]
            all_goals first
              | rfl
          refine fac_late 2 rfl rfl Ext.refl (fun _ _ h he => h.ext he) rfl rfl (fun _ _ _ _ h => h) ?_
          apply Exists.intro
          refine ⟨fun sv w' hw' hfa => ?_, ?_⟩
          · refine ⟨rfl, fun w2 => ?_⟩
            simp only [putsL]
            change pureTo _ _ (Sem.run _ (execOp (Act.eval _) _) _)
            try simp only [Act.put, List.setIfInBounds_toArray, List.set_cons_succ, List.set_cons_zero]
            simp [go_sem, pureTo]
            all_goals try simp (disch := omega) only [IntWalk.i64_in]
            all_goals first
              | rfl
          refine fac_quiet 3 rfl rfl rfl (fun _ _ h he => h.ext he) rfl rfl ?_
          apply Exists.intro
          refine ⟨fun sv w' hw' hfa => ?_, ?_⟩
          · refine ⟨rfl, ?_⟩
            simp only [putsL]
            change quietTo _ _ _ _ (Sem.run _ (execOp (Act.eval _) _) _)
            try simp only [Act.put, List.setIfInBounds_toArray, List.set_cons_succ, List.set_cons_zero]
            simp [go_sem, quietTo, Ext.refl]
            all_goals first
              | rfl
          refine fac_quiet 4 rfl rfl rfl (fun _ _ h he => h.ext he) rfl rfl ?_
          apply Exists.intro
          refine ⟨fun sv w' hw' hfa => ?_, ?_⟩
          · refine ⟨rfl, ?_⟩
            simp only [putsL]
            change quietTo _ _ _ _ (Sem.run _ (execOp (Act.eval _) _) _)
            try simp only [Act.put, List.setIfInBounds_toArray, List.set_cons_succ, List.set_cons_zero]
            simp [go_sem, quietTo, Ext.refl]
            all_goals first
              | rfl
          refine fac_quiet 5 rfl rfl rfl (fun _ _ h he => h.ext he) rfl rfl ?_
          apply Exists.intro
          refine ⟨fun sv w' hw' hfa => ?_, ?_⟩
          · obtain ⟨f4, -⟩ := hfa
            replace f4 : sv 4 = _ := f4
            try dsimp only at f4
            refine ⟨rfl, ?_⟩
            simp only [putsL]
            change quietTo _ _ _ _ (Sem.run _ (execOp (Act.eval (Act.put _ (some 79) (sv 4))) _) _)
            try simp only [Act.put, List.setIfInBounds_toArray, List.set_cons_succ, List.set_cons_zero]
            simp [go_sem, quietTo, Ext.refl, f4]
            all_goals first
              | rfl
          refine fac_quiet 6 rfl rfl rfl (fun _ _ h he => h.ext he) rfl rfl ?_
          apply Exists.intro
          refine ⟨fun sv w' hw' hfa => ?_, ?_⟩
          · obtain ⟨_, f5, -⟩ := hfa
            replace f5 : sv 5 = _ := f5
            try dsimp only at f5
            refine ⟨rfl, ?_⟩
            simp only [putsL]
            change quietTo _ _ _ _ (Sem.run _ (execOp (Act.eval (Act.put (Act.put _ (some 80) (sv 5)) (some 79) (sv 4))) _) _)
            try simp only [Act.put, List.setIfInBounds_toArray, List.set_cons_succ, List.set_cons_zero]
            simp [go_sem, quietTo, Ext.refl, f5]
            all_goals first
              | rfl
          refine fac_quiet 7 rfl rfl rfl (fun _ _ h he => h.ext he) rfl rfl ?_
          apply Exists.intro
          refine ⟨fun sv w' hw' hfa => ?_, ?_⟩
          · obtain ⟨_, _, f6, -⟩ := hfa
            replace f6 : sv 6 = _ := f6
            try dsimp only at f6
            have d0 : w'.cell? ⟨g, i * 3, none⟩ = some (.string x.name) := (hw'.cell hgl hgs _).trans c0x
            have d1 : w'.cell? ⟨g, i * 3 + 1, none⟩ = some (.int .i64 x.row) := (hw'.cell hgl hgs _).trans c1x
            have d2 : w'.cell? ⟨g, i * 3 + 2, none⟩ = some (.int .i64 x.place) := (hw'.cell hgl hgs _).trans c2x
            refine ⟨rfl, ?_⟩
            simp only [putsL]
            change quietTo _ _ _ _ (Sem.run _ (execOp (Act.eval (Act.put (Act.put (Act.put _ (some 81) (sv 6)) (some 80) (sv 5)) (some 79) (sv 4))) _) _)
            try simp only [Act.put, List.setIfInBounds_toArray, List.set_cons_succ, List.set_cons_zero]
            simp [go_sem, quietTo, Ext.refl, ↓IntWalk.iteOmega, f6, d0, d1, d2]
            all_goals try simp (disch := omega) only [IntWalk.i64_in]
            all_goals first
              | rfl
          refine fac_row 8 rfl rfl rfl (fun _ _ h he => h.ext he) (fun _ _ h => h.2.2.2.1) (fun _ _ _ _ _ he hg hb => hb.extS (Nat.ne_of_gt (Nat.lt_of_lt_of_le hsl hg)) he) ?_
          apply Exists.intro
          apply Exists.intro
          apply Exists.intro
          apply Exists.intro
          refine ⟨fun sv w' hw' hfa => ?_, ?_⟩
          · obtain ⟨_, _, _, f7, -⟩ := hfa
            replace f7 : sv 7 = _ := f7
            try dsimp only at f7
            refine ⟨rfl, ?_⟩
            simp only [putsL]
            change rowTo _ _ _ _ _ (Sem.run _ (execOp (Act.eval (Act.put (Act.put (Act.put (Act.put _ (some 82) (sv 7)) (some 81) (sv 6)) (some 80) (sv 5)) (some 79) (sv 4))) _) _)
            try simp only [Act.put, List.setIfInBounds_toArray, List.set_cons_succ, List.set_cons_zero]
            simp [go_sem, rowTo, Ext.refl, f7]
            all_goals try simp (disch := omega) only [IntWalk.i64_in]
            all_goals first
              | rfl
              | exact ⟨rfl, rfl⟩
              | exact ⟨⟨rfl, rfl⟩, rfl⟩
          refine fac_loud 9 rfl rfl rfl ?_
          refine ⟨(fun y _ => y 9 = .string nm), (fun w => StrL w s L (K + 1)), fun sv w' hw' hfa hcc => ?_, ?_, ?_, ?_⟩
          · obtain ⟨f3, f4, f5, f6, f7, f8, -⟩ := hfa
            replace f3 : sv 3 = _ := f3
            try dsimp only at f3
            replace f4 : sv 4 = _ := f4
            try dsimp only at f4
            replace f5 : sv 5 = _ := f5
            try dsimp only at f5
            replace f6 : sv 6 = _ := f6
            try dsimp only at f6
            replace f7 : sv 7 = _ := f7
            try dsimp only at f7
            obtain ⟨g8, f8, l8, b8⟩ := f8
            replace f8 : sv 8 = _ := f8
            obtain ⟨p8, q8⟩ := b8.walk
            have d0 : w'.cell? ⟨g, i * 3, none⟩ = some (.string x.name) := (hw'.cell hgl hgs _).trans c0x
            have d1 : w'.cell? ⟨g, i * 3 + 1, none⟩ = some (.int .i64 x.row) := (hw'.cell hgl hgs _).trans c1x
            have d2 : w'.cell? ⟨g, i * 3 + 2, none⟩ = some (.int .i64 x.place) := (hw'.cell hgl hgs _).trans c2x
            refine ⟨rfl, ?_⟩
            simp only [putsL]
            change outc _ _ (Sem.run _ (execOp (Act.eval (Act.put (Act.put (Act.put (Act.put (Act.put (Act.put _ (some 83) (sv 8)) (some 82) (sv 7)) (some 81) (sv 6)) (some 80) (sv 5)) (some 79) (sv 4)) (some 78) (sv 3))) _) _)
            try simp only [Act.put, List.setIfInBounds_toArray, List.set_cons_succ, List.set_cons_zero]
            simp [go_sem, outc, f3, f8, p8, q8, d0, d1, d2]
            refine (somes_det s K _ _ 3 [x.name, ⟨#[122, 122]⟩, ⟨#[112, 48]⟩] L _ (by omega) (by simp) (by simp) hcc (by omega) b8).mono ?_
            rintro e w4 ⟨rfl, hS4, hE4⟩
            exact ⟨_, rfl, ⟨hE4, hS4⟩, by rw [← hnm0]; rfl⟩
          · intro x w w' h he; exact h
          · exact fun _ _ h he => h.ext he
          refine fac_quiet 10 rfl rfl rfl (fun _ _ h he => h.ext he) rfl rfl ?_
          apply Exists.intro
          refine ⟨fun sv w' hw' hfa => ?_, ?_⟩
          · refine ⟨rfl, ?_⟩
            simp only [putsL]
            change quietTo _ _ _ _ (Sem.run _ (execOp (Act.eval _) _) _)
            try simp only [Act.put, List.setIfInBounds_toArray, List.set_cons_succ, List.set_cons_zero]
            simp [go_sem, quietTo, Ext.refl]
            all_goals first
              | rfl
          refine fac_quiet 11 rfl rfl rfl (fun _ _ h he => h.ext he) rfl rfl ?_
          apply Exists.intro
          refine ⟨fun sv w' hw' hfa => ?_, ?_⟩
          · refine ⟨rfl, ?_⟩
            simp only [putsL]
            change quietTo _ _ _ _ (Sem.run _ (execOp (Act.eval _) _) _)
            try simp only [Act.put, List.setIfInBounds_toArray, List.set_cons_succ, List.set_cons_zero]
            simp [go_sem, quietTo, Ext.refl]
            all_goals first
              | rfl
          refine fac_quiet 12 rfl rfl rfl (fun _ _ h he => h.ext he) rfl rfl ?_
          apply Exists.intro
          refine ⟨fun sv w' hw' hfa => ?_, ?_⟩
          · obtain ⟨f11, -⟩ := hfa
            replace f11 : sv 11 = _ := f11
            try dsimp only at f11
            refine ⟨rfl, ?_⟩
            simp only [putsL]
            change quietTo _ _ _ _ (Sem.run _ (execOp (Act.eval (Act.put _ (some 86) (sv 11))) _) _)
            try simp only [Act.put, List.setIfInBounds_toArray, List.set_cons_succ, List.set_cons_zero]
            simp [go_sem, quietTo, Ext.refl, f11]
            all_goals first
              | rfl
          refine fac_quiet 13 rfl rfl rfl (fun _ _ h he => h.ext he) rfl rfl ?_
          apply Exists.intro
          refine ⟨fun sv w' hw' hfa => ?_, ?_⟩
          · obtain ⟨_, f12, -⟩ := hfa
            replace f12 : sv 12 = _ := f12
            try dsimp only at f12
            refine ⟨rfl, ?_⟩
            simp only [putsL]
            change quietTo _ _ _ _ (Sem.run _ (execOp (Act.eval (Act.put (Act.put _ (some 87) (sv 12)) (some 86) (sv 11))) _) _)
            try simp only [Act.put, List.setIfInBounds_toArray, List.set_cons_succ, List.set_cons_zero]
            simp [go_sem, quietTo, Ext.refl, f12]
            all_goals first
              | rfl
          refine fac_quiet 14 rfl rfl rfl (fun _ _ h he => h.ext he) rfl rfl ?_
          apply Exists.intro
          refine ⟨fun sv w' hw' hfa => ?_, ?_⟩
          · obtain ⟨_, _, f13, -⟩ := hfa
            replace f13 : sv 13 = _ := f13
            try dsimp only at f13
            have d0 : w'.cell? ⟨g, i * 3, none⟩ = some (.string x.name) := (hw'.cell hgl hgs _).trans c0x
            have d1 : w'.cell? ⟨g, i * 3 + 1, none⟩ = some (.int .i64 x.row) := (hw'.cell hgl hgs _).trans c1x
            have d2 : w'.cell? ⟨g, i * 3 + 2, none⟩ = some (.int .i64 x.place) := (hw'.cell hgl hgs _).trans c2x
            refine ⟨rfl, ?_⟩
            simp only [putsL]
            change quietTo _ _ _ _ (Sem.run _ (execOp (Act.eval (Act.put (Act.put (Act.put _ (some 88) (sv 13)) (some 87) (sv 12)) (some 86) (sv 11))) _) _)
            try simp only [Act.put, List.setIfInBounds_toArray, List.set_cons_succ, List.set_cons_zero]
            simp [go_sem, quietTo, Ext.refl, ↓IntWalk.iteOmega, f13, d0, d1, d2]
            all_goals try simp (disch := omega) only [IntWalk.i64_in]
            all_goals first
              | rfl
          refine fac_row 15 rfl rfl rfl (fun _ _ h he => h.ext he) (fun _ _ h => h.2.2.2.1) (fun _ _ _ _ _ he hg hb => hb.extS (Nat.ne_of_gt (Nat.lt_of_lt_of_le hsl hg)) he) ?_
          apply Exists.intro
          apply Exists.intro
          apply Exists.intro
          apply Exists.intro
          refine ⟨fun sv w' hw' hfa => ?_, ?_⟩
          · obtain ⟨_, _, _, f14, -⟩ := hfa
            replace f14 : sv 14 = _ := f14
            try dsimp only at f14
            refine ⟨rfl, ?_⟩
            simp only [putsL]
            change rowTo _ _ _ _ _ (Sem.run _ (execOp (Act.eval (Act.put (Act.put (Act.put (Act.put _ (some 89) (sv 14)) (some 88) (sv 13)) (some 87) (sv 12)) (some 86) (sv 11))) _) _)
            try simp only [Act.put, List.setIfInBounds_toArray, List.set_cons_succ, List.set_cons_zero]
            simp [go_sem, rowTo, Ext.refl, f14]
            all_goals try simp (disch := omega) only [IntWalk.i64_in]
            all_goals first
              | rfl
              | exact ⟨rfl, rfl⟩
              | exact ⟨⟨rfl, rfl⟩, rfl⟩
          refine fac_loud 16 rfl rfl rfl ?_
          refine ⟨(fun y _ => y 16 = .int .i64 z1), (fun w => StrL w s L (K + 1 + 1)), fun sv w' hw' hfa hcc => ?_, ?_, ?_, ?_⟩
          · obtain ⟨f10, f11, f12, f13, f14, f15, -⟩ := hfa
            replace f10 : sv 10 = _ := f10
            try dsimp only at f10
            replace f11 : sv 11 = _ := f11
            try dsimp only at f11
            replace f12 : sv 12 = _ := f12
            try dsimp only at f12
            replace f13 : sv 13 = _ := f13
            try dsimp only at f13
            replace f14 : sv 14 = _ := f14
            try dsimp only at f14
            obtain ⟨g15, f15, l15, b15⟩ := f15
            replace f15 : sv 15 = _ := f15
            obtain ⟨p15, q15⟩ := b15.walk
            have d0 : w'.cell? ⟨g, i * 3, none⟩ = some (.string x.name) := (hw'.cell hgl hgs _).trans c0x
            have d1 : w'.cell? ⟨g, i * 3 + 1, none⟩ = some (.int .i64 x.row) := (hw'.cell hgl hgs _).trans c1x
            have d2 : w'.cell? ⟨g, i * 3 + 2, none⟩ = some (.int .i64 x.place) := (hw'.cell hgl hgs _).trans c2x
            refine ⟨rfl, ?_⟩
            simp only [putsL]
            change outc _ _ (Sem.run _ (execOp (Act.eval (Act.put (Act.put (Act.put (Act.put (Act.put (Act.put _ (some 90) (sv 15)) (some 89) (sv 14)) (some 88) (sv 13)) (some 87) (sv 12)) (some 86) (sv 11)) (some 85) (sv 10))) _) _)
            try simp only [Act.put, List.setIfInBounds_toArray, List.set_cons_succ, List.set_cons_zero]
            simp [go_sem, outc, f10, f15, p15, q15, d0, d1, d2]
            refine (pick_det s (K + 1) _ _ 3 [x.row, 3, -1] L _ (by omega) (by simp) (by simp) hcc (by omega) b15).mono ?_
            rintro e w4 ⟨rfl, hS4, hE4⟩
            exact ⟨_, rfl, ⟨hE4, hS4⟩, by rw [← hz10]; rfl⟩
          · intro x w w' h he; exact h
          · exact fun _ _ h he => h.ext he
          refine fac_quiet 17 rfl rfl rfl (fun _ _ h he => h.ext he) rfl rfl ?_
          apply Exists.intro
          refine ⟨fun sv w' hw' hfa => ?_, ?_⟩
          · refine ⟨rfl, ?_⟩
            simp only [putsL]
            change quietTo _ _ _ _ (Sem.run _ (execOp (Act.eval _) _) _)
            try simp only [Act.put, List.setIfInBounds_toArray, List.set_cons_succ, List.set_cons_zero]
            simp [go_sem, quietTo, Ext.refl]
            all_goals first
              | rfl
          refine fac_quiet 18 rfl rfl rfl (fun _ _ h he => h.ext he) rfl rfl ?_
          apply Exists.intro
          refine ⟨fun sv w' hw' hfa => ?_, ?_⟩
          · refine ⟨rfl, ?_⟩
            simp only [putsL]
            change quietTo _ _ _ _ (Sem.run _ (execOp (Act.eval _) _) _)
            try simp only [Act.put, List.setIfInBounds_toArray, List.set_cons_succ, List.set_cons_zero]
            simp [go_sem, quietTo, Ext.refl]
            all_goals first
              | rfl
          refine fac_quiet 19 rfl rfl rfl (fun _ _ h he => h.ext he) rfl rfl ?_
          apply Exists.intro
          refine ⟨fun sv w' hw' hfa => ?_, ?_⟩
          · obtain ⟨f18, -⟩ := hfa
            replace f18 : sv 18 = _ := f18
            try dsimp only at f18
            refine ⟨rfl, ?_⟩
            simp only [putsL]
            change quietTo _ _ _ _ (Sem.run _ (execOp (Act.eval (Act.put _ (some 93) (sv 18))) _) _)
            try simp only [Act.put, List.setIfInBounds_toArray, List.set_cons_succ, List.set_cons_zero]
            simp [go_sem, quietTo, Ext.refl, f18]
            all_goals first
              | rfl
          refine fac_quiet 20 rfl rfl rfl (fun _ _ h he => h.ext he) rfl rfl ?_
          apply Exists.intro
          refine ⟨fun sv w' hw' hfa => ?_, ?_⟩
          · obtain ⟨_, f19, -⟩ := hfa
            replace f19 : sv 19 = _ := f19
            try dsimp only at f19
            refine ⟨rfl, ?_⟩
            simp only [putsL]
            change quietTo _ _ _ _ (Sem.run _ (execOp (Act.eval (Act.put (Act.put _ (some 94) (sv 19)) (some 93) (sv 18))) _) _)
            try simp only [Act.put, List.setIfInBounds_toArray, List.set_cons_succ, List.set_cons_zero]
            simp [go_sem, quietTo, Ext.refl, f19]
            all_goals first
              | rfl
          refine fac_quiet 21 rfl rfl rfl (fun _ _ h he => h.ext he) rfl rfl ?_
          apply Exists.intro
          refine ⟨fun sv w' hw' hfa => ?_, ?_⟩
          · obtain ⟨_, _, f20, -⟩ := hfa
            replace f20 : sv 20 = _ := f20
            try dsimp only at f20
            have d0 : w'.cell? ⟨g, i * 3, none⟩ = some (.string x.name) := (hw'.cell hgl hgs _).trans c0x
            have d1 : w'.cell? ⟨g, i * 3 + 1, none⟩ = some (.int .i64 x.row) := (hw'.cell hgl hgs _).trans c1x
            have d2 : w'.cell? ⟨g, i * 3 + 2, none⟩ = some (.int .i64 x.place) := (hw'.cell hgl hgs _).trans c2x
            refine ⟨rfl, ?_⟩
            simp only [putsL]
            change quietTo _ _ _ _ (Sem.run _ (execOp (Act.eval (Act.put (Act.put (Act.put _ (some 95) (sv 20)) (some 94) (sv 19)) (some 93) (sv 18))) _) _)
            try simp only [Act.put, List.setIfInBounds_toArray, List.set_cons_succ, List.set_cons_zero]
            simp [go_sem, quietTo, Ext.refl, ↓IntWalk.iteOmega, f20, d0, d1, d2]
            all_goals try simp (disch := omega) only [IntWalk.i64_in]
            all_goals first
              | rfl
          refine fac_row 22 rfl rfl rfl (fun _ _ h he => h.ext he) (fun _ _ h => h.2.2.2.1) (fun _ _ _ _ _ he hg hb => hb.extS (Nat.ne_of_gt (Nat.lt_of_lt_of_le hsl hg)) he) ?_
          apply Exists.intro
          apply Exists.intro
          apply Exists.intro
          apply Exists.intro
          refine ⟨fun sv w' hw' hfa => ?_, ?_⟩
          · obtain ⟨_, _, _, f21, -⟩ := hfa
            replace f21 : sv 21 = _ := f21
            try dsimp only at f21
            refine ⟨rfl, ?_⟩
            simp only [putsL]
            change rowTo _ _ _ _ _ (Sem.run _ (execOp (Act.eval (Act.put (Act.put (Act.put (Act.put _ (some 96) (sv 21)) (some 95) (sv 20)) (some 94) (sv 19)) (some 93) (sv 18))) _) _)
            try simp only [Act.put, List.setIfInBounds_toArray, List.set_cons_succ, List.set_cons_zero]
            simp [go_sem, rowTo, Ext.refl, f21]
            all_goals try simp (disch := omega) only [IntWalk.i64_in]
            all_goals first
              | rfl
              | exact ⟨rfl, rfl⟩
              | exact ⟨⟨rfl, rfl⟩, rfl⟩
          refine fac_loud 23 rfl rfl rfl ?_
          refine ⟨(fun y _ => y 23 = .int .i64 z2), (fun w => StrL w s L (K + 1 + 1 + 1)), fun sv w' hw' hfa hcc => ?_, ?_, ?_, ?_⟩
          · obtain ⟨f17, f18, f19, f20, f21, f22, -⟩ := hfa
            replace f17 : sv 17 = _ := f17
            try dsimp only at f17
            replace f18 : sv 18 = _ := f18
            try dsimp only at f18
            replace f19 : sv 19 = _ := f19
            try dsimp only at f19
            replace f20 : sv 20 = _ := f20
            try dsimp only at f20
            replace f21 : sv 21 = _ := f21
            try dsimp only at f21
            obtain ⟨g22, f22, l22, b22⟩ := f22
            replace f22 : sv 22 = _ := f22
            obtain ⟨p22, q22⟩ := b22.walk
            have d0 : w'.cell? ⟨g, i * 3, none⟩ = some (.string x.name) := (hw'.cell hgl hgs _).trans c0x
            have d1 : w'.cell? ⟨g, i * 3 + 1, none⟩ = some (.int .i64 x.row) := (hw'.cell hgl hgs _).trans c1x
            have d2 : w'.cell? ⟨g, i * 3 + 2, none⟩ = some (.int .i64 x.place) := (hw'.cell hgl hgs _).trans c2x
            refine ⟨rfl, ?_⟩
            simp only [putsL]
            change outc _ _ (Sem.run _ (execOp (Act.eval (Act.put (Act.put (Act.put (Act.put (Act.put (Act.put _ (some 97) (sv 22)) (some 96) (sv 21)) (some 95) (sv 20)) (some 94) (sv 19)) (some 93) (sv 18)) (some 92) (sv 17))) _) _)
            try simp only [Act.put, List.setIfInBounds_toArray, List.set_cons_succ, List.set_cons_zero]
            simp [go_sem, outc, f17, f22, p22, q22, d0, d1, d2]
            refine (pick_det s (K + 1 + 1) _ _ 3 [x.place, 4, -1] L _ (by omega) (by simp) (by simp) hcc (by omega) b22).mono ?_
            rintro e w4 ⟨rfl, hS4, hE4⟩
            exact ⟨_, rfl, ⟨hE4, hS4⟩, by rw [← hz20]; rfl⟩
          · intro x w w' h he; exact h
          · exact fun _ _ h he => h.ext he
          refine fac_quiet 24 rfl rfl rfl (fun _ _ h he => h.ext he) rfl rfl ?_
          apply Exists.intro
          refine ⟨fun sv w' hw' hfa => ?_, ?_⟩
          · obtain ⟨f0, -⟩ := hfa
            replace f0 : sv 0 = _ := f0
            try dsimp only at f0
            refine ⟨rfl, ?_⟩
            simp only [putsL]
            change quietTo _ _ _ _ (Sem.run _ (execOp (Act.eval (Act.put _ (some 75) (sv 0))) _) _)
            try simp only [Act.put, List.setIfInBounds_toArray, List.set_cons_succ, List.set_cons_zero]
            simp [go_sem, quietTo, Ext.refl, f0]
            all_goals first
              | rfl
          refine fac_quiet 25 rfl rfl rfl (fun _ _ h he => h.ext he) rfl rfl ?_
          apply Exists.intro
          refine ⟨fun sv w' hw' hfa => ?_, ?_⟩
          · obtain ⟨_, f24, -⟩ := hfa
            replace f24 : sv 24 = _ := f24
            try dsimp only at f24
            refine ⟨rfl, ?_⟩
            simp only [putsL]
            change quietTo _ _ _ _ (Sem.run _ (execOp (Act.eval (Act.put (Act.put _ (some 99) (sv 24)) (some 75) (sv 0))) _) _)
            try simp only [Act.put, List.setIfInBounds_toArray, List.set_cons_succ, List.set_cons_zero]
            simp [go_sem, quietTo, Ext.refl, f24]
            all_goals first
              | rfl
          refine fac_nil fun xq wrq herq hfrq hcrq holdq hapq => ?_
          obtain ⟨f0, f1, f2, f3, f4, f5, f6, f7, f8, f9, f10, f11, f12, f13, f14, f15, f16, f17, f18, f19, f20, f21, f22, f23, f24, f25, -⟩ := hfrq
          replace f0 : xq 0 = _ := f0
          try dsimp only at f0
          replace f1 : xq 1 = _ := f1
          try dsimp only at f1
          replace f2 : xq 2 = _ := f2
          try dsimp only at f2
          replace f3 : xq 3 = _ := f3
          try dsimp only at f3
          replace f4 : xq 4 = _ := f4
          try dsimp only at f4
          replace f5 : xq 5 = _ := f5
          try dsimp only at f5
          replace f6 : xq 6 = _ := f6
          try dsimp only at f6
          replace f7 : xq 7 = _ := f7
          try dsimp only at f7
          obtain ⟨g8, f8, l8, b8⟩ := f8
          replace f8 : xq 8 = _ := f8
          obtain ⟨p8, q8⟩ := b8.walk
          replace f9 : xq 9 = _ := f9
          replace f10 : xq 10 = _ := f10
          try dsimp only at f10
          replace f11 : xq 11 = _ := f11
          try dsimp only at f11
          replace f12 : xq 12 = _ := f12
          try dsimp only at f12
          replace f13 : xq 13 = _ := f13
          try dsimp only at f13
          replace f14 : xq 14 = _ := f14
          try dsimp only at f14
          obtain ⟨g15, f15, l15, b15⟩ := f15
          replace f15 : xq 15 = _ := f15
          obtain ⟨p15, q15⟩ := b15.walk
          replace f16 : xq 16 = _ := f16
          replace f17 : xq 17 = _ := f17
          try dsimp only at f17
          replace f18 : xq 18 = _ := f18
          try dsimp only at f18
          replace f19 : xq 19 = _ := f19
          try dsimp only at f19
          replace f20 : xq 20 = _ := f20
          try dsimp only at f20
          replace f21 : xq 21 = _ := f21
          try dsimp only at f21
          obtain ⟨g22, f22, l22, b22⟩ := f22
          replace f22 : xq 22 = _ := f22
          obtain ⟨p22, q22⟩ := b22.walk
          replace f23 : xq 23 = _ := f23
          replace f24 : xq 24 = _ := f24
          try dsimp only at f24
          replace f25 : xq 25 = _ := f25
          try dsimp only at f25
          change wpList _ _ _ _ (Act.put (Act.put (Act.put (Act.put (Act.put (Act.put (Act.put (Act.put (Act.put (Act.put (Act.put (Act.put (Act.put (Act.put (Act.put (Act.put (Act.put (Act.put (Act.put (Act.put (Act.put (Act.put (Act.put (Act.put (Act.put (Act.put _ (some 75) (xq 0)) (some 76) (xq 1)) (some 77) (xq 2)) (some 78) (xq 3)) (some 79) (xq 4)) (some 80) (xq 5)) (some 81) (xq 6)) (some 82) (xq 7)) (some 83) (xq 8)) (some 84) (xq 9)) (some 85) (xq 10)) (some 86) (xq 11)) (some 87) (xq 12)) (some 88) (xq 13)) (some 89) (xq 14)) (some 90) (xq 15)) (some 91) (xq 16)) (some 92) (xq 17)) (some 93) (xq 18)) (some 94) (xq 19)) (some 95) (xq 20)) (some 96) (xq 21)) (some 97) (xq 22)) (some 98) (xq 23)) (some 99) (xq 24)) (some 100) (xq 25)) _
          simp only [putsL, Nat.reduceAdd, List.drop_succ_cons, List.drop_zero, List.drop_nil, Act.put, List.setIfInBounds_toArray, List.set_cons_succ, List.set_cons_zero]
          try simp only [f0, f1, f2, f3, f4, f5, f6, f7, f8, f9, f10, f11, f12, f13, f14, f15, f16, f17, f18, f19, f20, f21, f22, f23, f24, f25]
          clear f0 f1 f2 f3 f4 f5 f6 f7 f10 f11 f12 f13 f14 f17 f18 f19 f20 f21 f24 f25
          clear holdq hapq
          have hoq := own_extS herq (by omega) (World.ownsRow.drew ho5.out)
          have hEq : ExtS s w wrq := ((hM5.out.ext.drew).trans herq)
          have hwb : w.heap.size ≤ g := by omega
          clear herq c0x c1x c2x b8 p8 q8 b15 p15 q15 b22 p22 q22 l8 l15 l22 hS5d hsl hsl' hgl
          have c0x : wrq.cell? ⟨g, i * 3, none⟩ = some (.string x.name) := own_cell staC_len hoq hx.out 0 rfl hi
          have c1x : wrq.cell? ⟨g, i * 3 + 1, none⟩ = some (.int .i64 x.row) := own_cell staC_len hoq hx.out 1 rfl hi
          have c2x : wrq.cell? ⟨g, i * 3 + 2, none⟩ = some (.int .i64 x.place) := own_cell staC_len hoq hx.out 2 rfl hi
          have z0 : ∀ o, wrq.frozen? ⟨g, o, none⟩ = false := fun o => hoq.frozenAt o
          have hset := sta_mod3 hoq hx.out nm z1 z2
          obtain ⟨p, c, hpc, hSl⟩ := slc_of_own staC_len hset (by decide) (by omega)
          cases hpc
          have hsg : s < g := by omega
          have hres : StandsD L P wide high s k w (.returned (.slice (some ⟨g, 0, none⟩) S.length lc)) (((wrq.setCell ⟨g, i * 3, none⟩ (.string nm)).setCell ⟨g, i * 3 + 1, none⟩ (.int .i64 z1)).setCell ⟨g, i * 3 + 2, none⟩ (.int .i64 z2)) :=
            ⟨_, _, S.set i ⟨nm, z1, z2⟩, K + 1 + 1 + 1, by rw [List.length_set], by rw [List.length_set]; omega, by rw [List.length_set]; exact hSl, (fun y hy => by
              rcases List.mem_or_eq_of_mem_set hy with h1 | h1
              · exact hM5.out.small y h1
              · subst h1
                exact ⟨hnm, hz1.1, hz1.2, hz2.1, hz2.2⟩), (fun a ha => by cases ha; exact hwb), hmod.out, by have := hK.out; omega, (((hcrq.set (p := ⟨g, i * 3, none⟩) hsg _).set (p := ⟨g, i * 3 + 1, none⟩) hsg _).set (p := ⟨g, i * 3 + 2, none⟩) hsg _), ((hEq.setCell (p := ⟨g, i * 3, none⟩) (.inr hwb) _).setCell (p := ⟨g, i * 3 + 1, none⟩) (.inr hwb) _).setCell (p := ⟨g, i * 3 + 2, none⟩) (.inr hwb) _⟩
          replace hoq := Lib.hid hoq
          replace hset := Lib.hid hset
          replace hSl := Lib.hid hSl
          replace hres := Lib.hid hres
          go_wp2
          go_ret
          exact hres.out
end Go.Proofs.YtfcoeikekbjgpaaGreatDoor
