/- A scale turned twelve times is itself; its intervals add up: the property answers true. Conditions: the argument is a list of ints that lies in memory; the table of the powers of ten stands. -/
import Derived.Test.YtkfdolnnkbhlhaaDoorScaleK
import Derived.Test.YtkfdolnnkbhlhaaDoorReadyK
import Derived.Outline
namespace Go.Proofs.YtkfdolnnkbhlhaaDoor
open Go Go.RowKit

theorem wpList_load_row_wanted {P : Program} {ops : Array Oper} {rest : List Oper} {o : Oper} {a : Act} {w : World} {Q : Exit → Act → World → Prop} (hgd : Region.wanted o (yielded ops a.tmps) = true) (ty : TypeId) (x : Operand) (ho : o.op = .load ty x)
    (g : Nat) (hx : a.eval x = .pointer (some ⟨g, 0, none⟩)) (t : TypeId) (cs : Array Value) (fr : Nat × Nat) (d : TypeDesc) (hg : w.heap[g]? = some (.cells cs t fr))
    (hu : P.underlying ty = some d) (hd : (match d with | .struct _ | .array _ _ => true | _ => false) = true) (hi : (P.info? ty).map (·.size) = some cs.size)
    (h : wpList P ops Q rest (a.put o.dst (.agg cs)) w) : wpList P ops Q (o :: rest) a w :=
  wpList_step fun K hK => by
    simp only [hgd, if_true]
    exact wp_load_row ty x ho g hx t cs fr d hg hu hd hi (hK _ _ h)

set_option maxRecDepth 100000 in
set_option maxHeartbeats 6400000 in
theorem lawS_any (B : Nat) (w : World) (p : Option Addr) (n c : Nat) (h : Lst w w.heap.size p n) (ht : Tab B w) :
    Calls Tryd.prog 3 #[.slice p n c] w fun e w' => e = .returned (.bool true) ∧ Ext w w' := by
  have hS0 : Str (w.alloc (.cells #[.slice p n c, .int .i64 0] 25)) w.heap.size 0 := ⟨p, n, c, 0, Nat.le_refl _, Blk.new' rfl, h.low fun j hj => Below.heap_alloc w _ j hj⟩
  have hB := ht.1
  clear h
  have hback : ∀ u, ExtS w.heap.size (w.alloc (.cells #[.slice p n c, .int .i64 0] 25)) u → Ext w u := fun u hu => ExtS.back ((Ext.refl w).alloc _) (by simp) hu
  have hX0 := ExtS.refl w.heap.size (w.alloc (.cells #[.slice p n c, .int .i64 0] 25))
  have hsz0 : (w.alloc (.cells #[.slice p n c, .int .i64 0] 25)).heap.size = w.heap.size + 1 := by simp
  go_enter Tryd.func3, Tryd.ntmps3
  go_upto_region 2 with fail
  generalize w.alloc (.cells #[.slice p n c, .int .i64 0] 25) = W0 at hback hX0 hsz0 hS0 ⊢
  go_upto_region 4 with (first
    | (go_at_call 5; (with_reducible refine Calls.mono (rightScale_any w.heap.size 0 _ (by omega) hS0) ?_); rintro e w1 ⟨xs, hok, rfl, hS1, hE1⟩; have hi := sc_info hok.len; have ho := sc_one xs; have hs := sc_same (show zeroL.length = 12 from rfl) hok.len; have hX1 := hX0.trans hE1; replace hok := Lib.hid hok; clear hX0 hE1)
    | (refine wpList_store_row rfl 29 _ _ rfl w1.heap.size (sc xs) rfl rfl 29 _ (heap_alloc_new w1 _) hi hs ho ?_)
    | (refine wpList_load_row rfl 29 _ rfl w1.heap.size rfl 29 (sc xs) (0, 0) _ (setRow_blk (heap_alloc_new w1 _)) Tryd.underlying29 rfl hi ?_)
    | (refine wpList_store_row rfl 29 _ _ rfl (w1.heap.size + 1) (sc xs) rfl rfl 29 _ (Blk.new' (by simp)) hi hs ho ?_))
  have lg := hS1.lt
  have hsz1 := hX1.2.2.2.1
  obtain ⟨W, hW⟩ : ∃ W, W = (((w1.alloc (.cells (sc zeroL) 29)).setRow w1.heap.size (sc xs)).alloc (.cells (sc zeroL) 29)).setRow (w1.heap.size + 1) (sc xs) := ⟨_, rfl⟩
  have hG4 : Blk W w1.heap.size 29 (sc xs) := hW ▸ ((setRow_blk (heap_alloc_new w1 _)).alloc _).rowFar (Nat.ne_of_lt (Nat.lt_succ_self _)) _
  have hG5 : Blk W (w1.heap.size + 1) 29 (sc xs) := hW ▸ setRow_blk (Blk.new' (by simp))
  have hSW : Str W w.heap.size 180 := hW ▸ (((((hS1.more (by omega)).ext (Ext.alloc (Ext.refl _) _)).setRow lg _).ext (Ext.alloc (Ext.refl _) _)).setRow (by omega) _)
  have hXW : ExtS w.heap.size W0 W := hW ▸ ((((hX1.alloc _).setRow hsz1).alloc _).setRow (by omega))
  change Code.wp _ _ _ _ ((((w1.alloc (.cells (sc zeroL) 29)).setRow w1.heap.size (sc xs)).alloc (.cells (sc zeroL) 29)).setRow (w1.heap.size + 1) (sc xs))
  rw [← hW]
  clear hW hS0 hS1 hX1
  generalize w1.heap.size = g at *
  rw [← TN_start hok.out] at hG5
  have hEq := fun u => eq_sc xs hok.out.len u
  replace hEq := Lib.hid hEq
  go_wp2
  go_loopw [24] (fun i wr => ∃ k : Nat, k ≤ 12 ∧ i = .int .i64 k ∧ ScaleOk (TN xs k) ∧ Blk wr g 29 (sc xs) ∧ Blk wr (g + 1) 29 (sc (TN xs k)) ∧ Str wr w.heap.size 180 ∧ ExtS w.heap.size W0 wr) (fun i _ => 12 - (intOf i).toNat)
  case atStart => exact ⟨0, by omega, rfl, by rw [TN_start hok.out]; exact hok.out, hG4, hG5, hSW, hXW⟩
  case round =>
    clear hG4 hG5 hSW hXW
    obtain ⟨k, hk, rfl, hokk, hG4, hG5, hS, hX⟩ := hrel
    by_cases hlt : k < 12
    · have hik := sc_info hokk.len
      have hstk := fun ys (h : ys.length = 12) => sc_same (xs := TN xs k) (ys := ys) hokk.len h
      have hT := fun u => turned_any (TN xs k) u hokk
      have hnext := turn_next hokk
      have hlg1 := hG5.lt
      replace hT := Lib.hid hT
      replace hnext := Lib.hid hnext
      replace hokk := Lib.hid hokk
      go_upto_region 7 with (first
        | (refine wpList_load_row rfl 29 _ rfl (g + 1) rfl 29 (sc (TN xs k)) (0, 0) _ hG5 Tryd.underlying29 rfl hik ?_)
        | (go_at_call 6; (with_reducible refine Calls.mono (hT.out _) ?_); rintro e w2 ⟨ys, f, rfl, hyl, hf, hyt, hb2⟩; have hiy := sc_info hyl; have hoy := sc_one ys; have hzy := sc_same (show zeroL.length = 12 from rfl) hyl; have hky := hstk ys hyl; have hG4' := hG4.ext hb2; have hG5' := hG5.ext hb2; have hS' := hS.ext hb2; have hX' := hX.ext hb2; clear hG4 hG5 hS hX hT)
        | (refine wpList_store_row rfl 29 _ _ rfl w2.heap.size (sc ys) rfl rfl 29 _ (heap_alloc_new w2 _) hiy hzy hoy ?_))
      have l2 := hG5'.lt
      have hs0 := hX'.2.2.2.1
      obtain ⟨V, hV⟩ : ∃ V, V = (w2.alloc (.cells (sc zeroL) 29)).setRow w2.heap.size (sc ys) := ⟨_, rfl⟩
      have hY : Blk V w2.heap.size 29 (sc ys) := hV ▸ setRow_blk (heap_alloc_new w2 _)
      have hG4v : Blk V g 29 (sc xs) := hV ▸ (hG4'.alloc _).rowFar (Nat.ne_of_lt (by omega)) _
      have hG5v : Blk V (g + 1) 29 (sc (TN xs k)) := hV ▸ (hG5'.alloc _).rowFar (Nat.ne_of_lt l2) _
      have hSv : Str V w.heap.size 180 := hV ▸ (hS'.ext (Ext.alloc (Ext.refl _) _)).setRow (by omega) _
      have hXv : ExtS w.heap.size W0 V := hV ▸ (hX'.alloc _).setRow (by omega)
      change Code.wp _ _ _ _ ((w2.alloc (.cells (sc zeroL) 29)).setRow w2.heap.size (sc ys))
      rw [← hV]
      clear hV hG4' hG5' hS' hX'
      generalize w2.heap.size = g2 at *
      replace hyl := Lib.hid hyl
      replace hstk := Lib.hid hstk
      rcases hf with rfl | rfl
      · obtain ⟨rfl, hfa⟩ := hyt rfl
        rw [hnext.out] at hfa hiy hoy hzy hky hY ⊢
        have hok2 := TN_ok hok.out (k + 1) hfa
        replace hok2 := Lib.hid hok2
        go_wp2_with (first
          | (refine wpList_load_row rfl 29 _ rfl g2 rfl 29 (sc (TN xs (k + 1))) (0, 0) _ hY Tryd.underlying29 rfl hiy ?_)
          | (refine wpList_store_row rfl 29 _ _ rfl (g + 1) (sc (TN xs (k + 1))) rfl rfl 29 _ hG5v hiy hky hoy ?_))
        go_roundw
        case rel => exact ⟨k + 1, by omega, by go_num, hok2.out, hG4v.rowFar (by omega) _, setRow_blk hG5v, hSv.setRow (by omega) _, hXv.setRow (by omega)⟩
        case measure => simp [intOf]; omega
      · replace hyt := Lib.hid hyt
        go_wp2_with (go_at_call 7; refine (ready_any B _ (by exact ht.ext (hback _ hXv))).mono ?_; rintro e wz ⟨rfl, hz⟩)
        go_ret
        exact ⟨rfl, (hback _ hXv).trans hz⟩
    · obtain rfl : k = 12 := by omega
      rw [TN_end hok.out] at hG5
      clear hokk hlt hk
      have hck := fun u => checkScale_ok xs u hok.out
      replace hck := Lib.hid hck
      have hEq' := hEq.out
      go_upto_region 14 with (first
        | (refine wpList_load_row rfl 29 _ rfl g rfl 29 (sc xs) (0, 0) _ hG4 Tryd.underlying29 rfl hi ?_)
        | (refine wpList_load_row rfl 29 _ rfl (g + 1) rfl 29 (sc xs) (0, 0) _ hG5 Tryd.underlying29 rfl hi ?_)
        | (refine wpList_load_row_wanted rfl 29 _ rfl (g + 1) rfl 29 (sc xs) (0, 0) _ hG5 Tryd.underlying29 rfl hi ?_)
        | (go_at_call 8; (with_reducible refine Calls.mono (hck.out _) ?_); rintro e w2 ⟨rfl, hb2⟩; have hGG := hG4.ext hb2; have hSS := hS.ext hb2; have hXX := hX.ext hb2; clear hG4 hG5 hS hX hb2)
        | (go_at_call 9; (with_reducible refine Calls.mono (range_any w.heap.size 180 0 90 _ (by omega) (by omega) (by omega) (by omega) (by omega) hSS) ?_); rintro e w3 ⟨a, rfl, ha0, ha1, hS3, hE3⟩)
        | (go_at_call 9; (with_reducible refine Calls.mono (range_any w.heap.size (180 + 1) 0 90 _ (by omega) (by omega) (by omega) (by omega) (by omega) hS3) ?_); rintro e w4 ⟨b, rfl, hb0, hb1, hS4, hE4⟩)
        | (go_at_call 9; (with_reducible refine Calls.mono (range_any w.heap.size (180 + 1 + 1) 0 90 _ (by omega) (by omega) (by omega) (by omega) (by omega) hS4) ?_); rintro e w5 ⟨c, rfl, hc0, hc1, hS5, hE5⟩))
      clear hEq hEq' hck
      have hEE := (hE3.trans hE4).trans hE5
      have hs1 := hXX.2.2.2.1
      have hG := hGG.extS (by omega) hEE
      have hX5 := hback _ (hXX.trans hEE)
      clear hGG hSS hXX hS3 hS4 hS5 hE3 hE4 hE5 hEE
      obtain ⟨i, rfl⟩ : ∃ i : Nat, a = i := ⟨a.toNat, by omega⟩
      obtain ⟨j, rfl⟩ : ∃ j : Nat, b = j := ⟨b.toNat, by omega⟩
      obtain ⟨k, rfl⟩ : ∃ k : Nat, c = k := ⟨c.toNat, by omega⟩
      have hi90 : i ≤ 90 := by omega
      have hj90 : j ≤ 90 := by omega
      have hk90 : k ≤ 90 := by omega
      obtain ⟨x, hx⟩ := getD_some hok.out.len (Nat.mod_lt i (show 0 < 12 by omega))
      obtain ⟨y, hy⟩ := getD_some hok.out.len (Nat.mod_lt j (show 0 < 12 by omega))
      obtain ⟨z, hz⟩ := getD_some hok.out.len (Nat.mod_lt k (show 0 < 12 by omega))
      have hsum := bet_sum (hok.out.right x (List.mem_of_getElem? hx)) (hok.out.right y (List.mem_of_getElem? hy)) (hok.out.right z (List.mem_of_getElem? hz)) hi90 hj90 hk90
      have hB1 := fun u => betw_any xs i j x y u hok.out hi90 hj90 hx hy
      have hB2 := fun u => betw_any xs j k y z u hok.out hj90 hk90 hy hz
      have hB3 := fun u => betw_any xs i k x z u hok.out hi90 hk90 hx hz
      generalize betI x y i j = P1 at *
      generalize betI y z j k = P2 at *
      generalize betI x z i k = P3 at *
      have hF : ∀ q : I4, faultI q = 0 ∨ faultI q = 1 := fun q => by unfold faultI; split; exact .inl rfl; exact .inr rfl
      have hR : ∀ q : I4, faultI q = 0 → rightB q = true := fun q h => by
        unfold faultI at h
        cases hq : rightB q
        · rw [hq] at h; cases h
        · rfl
      have hO : ∀ q : I4, faultI q = 0 → okI q = q := fun q h => by unfold okI; rw [hR q h]; rfl
      replace hx := Lib.hid hx
      replace hy := Lib.hid hy
      replace hz := Lib.hid hz
      replace hB1 := Lib.hid hB1
      replace hB2 := Lib.hid hB2
      replace hB3 := Lib.hid hB3
      replace hsum := Lib.hid hsum
      have f1 := hF P1
      have f2 := hF P2
      have f3 := hF P3
      have o1 := hO P1
      have o2 := hO P2
      have o3 := hO P3
      have r1 := hR P1
      have r2 := hR P2
      clear hF hR hO ha0 ha1 hb0 hb1 hc0 hc1
      generalize hq1 : okI P1 = Q1 at *
      generalize hq2 : okI P2 = Q2 at *
      generalize hq3 : okI P3 = Q3 at *
      generalize hv1 : faultI P1 = v1 at *
      generalize hv2 : faultI P2 = v2 at *
      generalize hv3 : faultI P3 = v3 at *
      replace f1 := Lib.hid f1
      replace f2 := Lib.hid f2
      replace f3 := Lib.hid f3
      replace o1 := Lib.hid o1
      replace o2 := Lib.hid o2
      replace o3 := Lib.hid o3
      replace r1 := Lib.hid r1
      replace r2 := Lib.hid r2
      replace hq1 := Lib.hid hq1
      replace hq2 := Lib.hid hq2
      replace hq3 := Lib.hid hq3
      replace hv1 := Lib.hid hv1
      replace hv2 := Lib.hid hv2
      replace hv3 := Lib.hid hv3
      go_upto_region 17 with (first
        | (refine wpList_load_row rfl 29 _ rfl g rfl 29 (sc xs) (0, 0) _ hG Tryd.underlying29 rfl hi ?_)
        | (refine wpList_load_row rfl 29 _ rfl g rfl 29 (sc xs) (0, 0) _ hG6 Tryd.underlying29 rfl hi ?_)
        | (refine wpList_load_row rfl 29 _ rfl g rfl 29 (sc xs) (0, 0) _ hG7 Tryd.underlying29 rfl hi ?_)
        | (go_at_call 10; (with_reducible refine Calls.mono (hB1.out _) ?_); rintro e w6 ⟨rfl, hb6⟩; have hG6 := (hG.ext hb6).alloc (.cells #[.int .i64 Q1.a, .int .i64 Q1.b, .int .i64 Q1.c, .int .i64 Q1.d] 27); have hA6 := Blk.new' (w := w6) (t := 27) (cs := #[.int .i64 Q1.a, .int .i64 Q1.b, .int .i64 Q1.c, .int .i64 Q1.d]) rfl; have hX6 := (hX5.trans hb6).alloc (.cells #[.int .i64 Q1.a, .int .i64 Q1.b, .int .i64 Q1.c, .int .i64 Q1.d] 27); clear hG hX5 hb6)
        | (go_at_call 10; (with_reducible refine Calls.mono (hB2.out _) ?_); rintro e w7 ⟨rfl, hb7⟩; have hG7 := (hG6.ext hb7).alloc (.cells #[.int .i64 Q2.a, .int .i64 Q2.b, .int .i64 Q2.c, .int .i64 Q2.d] 27); have hA7 := (hA6.ext hb7).alloc (.cells #[.int .i64 Q2.a, .int .i64 Q2.b, .int .i64 Q2.c, .int .i64 Q2.d] 27); have hB7 := Blk.new' (w := w7) (t := 27) (cs := #[.int .i64 Q2.a, .int .i64 Q2.b, .int .i64 Q2.c, .int .i64 Q2.d]) rfl; have hX7 := (hX6.trans hb7).alloc (.cells #[.int .i64 Q2.a, .int .i64 Q2.b, .int .i64 Q2.c, .int .i64 Q2.d] 27); clear hG6 hA6 hX6 hb7)
        | (go_at_call 10; (with_reducible refine Calls.mono (hB3.out _) ?_); rintro e w8 ⟨rfl, hb8⟩; have hA8 := (hA7.ext hb8).alloc (.cells #[.int .i64 Q3.a, .int .i64 Q3.b, .int .i64 Q3.c, .int .i64 Q3.d] 27); have hB8 := (hB7.ext hb8).alloc (.cells #[.int .i64 Q3.a, .int .i64 Q3.b, .int .i64 Q3.c, .int .i64 Q3.d] 27); have hC8 := Blk.new' (w := w8) (t := 27) (cs := #[.int .i64 Q3.a, .int .i64 Q3.b, .int .i64 Q3.c, .int .i64 Q3.d]) rfl; have hX8 := (hX7.trans hb8).alloc (.cells #[.int .i64 Q3.a, .int .i64 Q3.b, .int .i64 Q3.c, .int .i64 Q3.d] 27); clear hG7 hA7 hB7 hX7 hb8))
      obtain ⟨a1, a2⟩ := hA8.walk
      obtain ⟨b1, b2⟩ := hB8.walk
      obtain ⟨c1, c2⟩ := hC8.walk
      rcases f1.out with rfl | rfl
      · rcases f2.out with rfl | rfl
        · rcases f3.out with rfl | rfl
          · have hsc : ∀ u, Calls Tryd.prog 11 #[.agg #[.int .i64 Q1.a, .int .i64 Q1.b, .int .i64 Q1.c, .int .i64 Q1.d], .agg #[.int .i64 Q2.a, .int .i64 Q2.b, .int .i64 Q2.c, .int .i64 Q2.d]] u fun e w' =>
                e = .returned (.tuple #[.agg #[.int .i64 Q3.a, .int .i64 Q3.b, .int .i64 Q3.c, .int .i64 Q3.d], .int .i64 0]) ∧ Ext u w' := fun u => by
              have := sum1_any P1 P2 u (by unfold bothB; rw [r1.out rfl, r2.out rfl]; rfl)
              rw [hsum.out, hq3.out, hv3.out] at this
              rw [o1.out rfl, o2.out rfl]
              exact this
            replace hsc := Lib.hid hsc
            go_wp2_with (first
              | (go_at_call 11; (with_reducible refine Calls.mono (hsc.out _) ?_); rintro e w9 ⟨rfl, hb9⟩; have hC9 := (hC8.ext hb9).alloc (.cells #[.int .i64 Q3.a, .int .i64 Q3.b, .int .i64 Q3.c, .int .i64 Q3.d] 27); have hX9 := (hX8.trans hb9).alloc (.cells #[.int .i64 Q3.a, .int .i64 Q3.b, .int .i64 Q3.c, .int .i64 Q3.d] 27); clear a1 a2 b1 b2 c1 c2; obtain ⟨c1, c2⟩ := hC9.walk)
              | (go_at_call 7; refine (ready_any B _ (by exact ht.ext hX9)).mono ?_; rintro e wz ⟨rfl, hz⟩))
            go_ret
            exact ⟨rfl, hX9.trans hz⟩
          · go_wp2_with (go_at_call 7; refine (ready_any B _ (by exact ht.ext hX8)).mono ?_; rintro e wz ⟨rfl, hz⟩)
            go_ret
            exact ⟨rfl, hX8.trans hz⟩
        · go_wp2_with (go_at_call 7; refine (ready_any B _ (by exact ht.ext hX8)).mono ?_; rintro e wz ⟨rfl, hz⟩)
          go_ret
          exact ⟨rfl, hX8.trans hz⟩
      · go_wp2_with (go_at_call 7; refine (ready_any B _ (by exact ht.ext hX8)).mono ?_; rintro e wz ⟨rfl, hz⟩)
        go_ret
        exact ⟨rfl, hX8.trans hz⟩
end Go.Proofs.YtkfdolnnkbhlhaaDoor
