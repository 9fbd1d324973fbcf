/- Each group rides once, no bus is too full, and no two buses could be one: the property answers true. Conditions: the argument is a list of ints that lies in memory; the table of the powers of ten stands. -/
import Derived.Test.YtlmbpgjdepmlcaaDoorBusH
import Derived.Test.YtlmbpgjdepmlcaaDoorReadyK
import Derived.Test.YtlmbpgjdepmlcaaDoorRowKit
namespace Go.Proofs.YtlmbpgjdepmlcaaDoor
open Go Go.RowKit

def sumsTo (b : Nat) (L : List GrpV) (bs : List Nat) : List Int := (List.range b).map fun c => sumAt c (manyL L) bs
theorem sumsTo_succ (b : Nat) (L : List GrpV) (bs : List Nat) : sumsTo (b + 1) L bs = sumsTo b L bs ++ [sumAt b (manyL L) bs] := by
  unfold sumsTo
  rw [List.range_succ, List.map_append]
  rfl
theorem sumsTo_len (b : Nat) (L : List GrpV) (bs : List Nat) : (sumsTo b L bs).length = b := by simp [sumsTo]
theorem sumsTo_at {b m : Nat} {L : List GrpV} {bs : List Nat} (h : b < m) : (sumsTo m L bs)[b]? = some (sumAt b (manyL L) bs) := by
  unfold sumsTo
  rw [List.getElem?_map, List.getElem?_range h]
  rfl

set_option maxRecDepth 100000 in
set_option maxHeartbeats 6400000 in
theorem lawBH_any (B : Nat) (w : World) (p : Option Addr) (n c : Nat) (h : Lst w w.heap.size p n) (ht : Tab B w) :
    Calls Tryd.prog 4 #[.slice p n c] w fun e w' => e = .returned (.bool true) ∧ Ext w w' := by
  have hS0 : Str (w.alloc (.cells #[.slice p n c, .int .i64 0] 25)) w.heap.size 0 := ⟨p, n, c, 0, Nat.le_refl _, Blk.new' rfl, h.low fun j hj => Below.heap_alloc w _ j hj⟩
  have hB := ht.1
  clear h
  have hback : ∀ u, ExtS w.heap.size (w.alloc (.cells #[.slice p n c, .int .i64 0] 25)) u → Ext w u := fun u hu => ExtS.back ((Ext.refl w).alloc _) (by simp) hu
  have hX0 := ExtS.refl w.heap.size (w.alloc (.cells #[.slice p n c, .int .i64 0] 25))
  have hsz0 : (w.alloc (.cells #[.slice p n c, .int .i64 0] 25)).heap.size = w.heap.size + 1 := by simp
  go_enter Tryd.func4, Tryd.ntmps4
  go_upto_region 2 with fail
  generalize w.alloc (.cells #[.slice p n c, .int .i64 0] 25) = W0 at hback hX0 hsz0 hS0 ⊢
  go_upto_region 3 with (first
    | (go_at_call 13; (with_reducible refine Calls.mono (groupList_any w.heap.size 0 _ (by omega) hS0) ?_); rintro e w1 ⟨p1, n1, c1, L, rfl, hn1, hSl1, hpa, hsm, hS1, hE1⟩; have hX1 := hX0.trans hE1; replace hpa : ∀ a, p1 = some a → a.block ≠ w.heap.size := (fun a ha => by have := hpa a ha; omega); replace hpa := Lib.hid hpa; replace hsm := Lib.hid hsm; clear hX0 hE1 hS0)
    | (go_at_call 14; (with_reducible refine Calls.mono (range_any w.heap.size (0 + 20) 4 10 _ (by omega) (by omega) (by omega) (by omega) (by omega) hS1) ?_); rintro e w2 ⟨seat, rfl, hs0, hs1, hS2, hE2⟩; have hX2 := hX1.trans hE2; have hSl2 := hSl1.extS hE2 hpa.out; clear hX1 hE2 hS1 hSl1))
  have hE2 := hback _ hX2
  clear hback hX2 hS2 hpa hsz0
  have hlt := faultGroups_any p1 n1 c1 L w2 hSl2.1 hsm.out (by omega)
  by_cases hz : groupsF L = 0
  · rw [hz] at hlt
    go_upto_region 5 with (go_at_call 15; (with_reducible refine Calls.mono hlt ?_); rintro e w3 ⟨rfl, hb3⟩)
    have hE3 := hE2.trans hb3
    have hSl3 := hSl2.ext hb3
    clear hlt hb3 hSl2 hE2
    have hbu := buses_any p1 n1 c1 L seat w3 hSl3 hsm.out (by omega) (by omega) (by omega)
    replace hbu := Lib.hid hbu
    have hok := groupsF_ok hz
    have hin : outB seat 1 100 = false := by rw [outB_inB]; unfold inB; simp; omega
    replace hok := Lib.hid hok
    replace hz := Lib.hid hz
    replace hin := Lib.hid hin
    go_upto_region 6 with (go_at_call 16; (with_reducible refine Calls.mono hbu.out ?_); rintro e w4 (⟨hq, _⟩ | ⟨_, hq, _⟩ | ⟨_, _, _, rfl, hb4⟩ | ⟨_, _, hov, most, bs, og, vs, hfew, rfl, hO⟩) <;> (first | exact absurd hz.out hq | (rw [hin.out] at hq; cases hq) | skip))
    · go_wp2_with (go_at_call 9; refine (ready_any B _ (by exact ht.ext (hE3.trans hb4))).mono ?_; rintro e wz ⟨rfl, hzz⟩)
      go_ret
      exact ⟨rfl, (hE3.trans hb4).trans hzz⟩
    · have hall := over_all hok.out hov
      have hex := ld_each (seat := seat) (ns := manyL L) (by omega) fun n hn => ⟨by have := (hall n hn).1; omega, (hall n hn).2⟩
      rw [manyL_len] at hex
      have hml : most ≤ L.length := by
        rcases Nat.lt_or_ge L.length most with h1 | h1
        · rw [hfew.2 _ h1] at hex; cases hex
        · exact h1
      obtain ⟨hbl, hbm, hsum, hpair⟩ := buses_tight (by omega) (fun n hn => (hall n hn).1) hfew.1 hfew.2
      rw [manyL_len] at hbl
      have hL12 := hok.out.len
      have hone := hok.out.one
      have hE4 := hE3.trans hO.ext
      have hSl4 := hSl3.ext hO.ext
      obtain ⟨hn1L, hG⟩ := slcC hSl4
      subst hn1L
      have hog := hO.blk.lt
      clear hex hall hfew hov hSl3 hE3 hbu hn1
      replace hbl := Lib.hid hbl
      replace hbm := Lib.hid hbm
      replace hsum := Lib.hid hsum
      replace hpair := Lib.hid hpair
      replace hone := Lib.hid hone
      replace hG := Lib.hid hG
      replace hO := Lib.hid hO
      replace hSl4 := Lib.hid hSl4
      go_wp2
      go_loopw [9, 10, 52] (fun v9 v10 v52 wr => ∃ (b : Nat) (lp : Option Addr) (lc : Nat), v9 = .slice lp b lc ∧ v10 = .int .i64 (cntTo b L bs) ∧ v52 = .int .i64 b ∧ b ≤ most ∧ wr.ownsRow w4.heap.size 3 1 (.slice lp b lc) b ((sumsTo b L bs).flatMap intC) ∧ Ext w4 wr) (fun _ _ v52 _ => most - (intOf v52).toNat)
      case atStart => exact ⟨0, none, 0, rfl, by rw [cntTo_zero]; rfl, rfl, Nat.zero_le _, World.ownsRow_nil _ _ _ _, Ext.refl _⟩
      case round =>
        obtain ⟨b, lp, lc, rfl, rfl, rfl, hb, hown, hE⟩ := hrel
        have hsz4 := hE.size
        by_cases hlt : b < most
        · obtain ⟨pp, cc, -, hcx, hox⟩ := (hO.out.more hE).at_ (rowsN_at (ss := nameL L) (bs := bs) hlt)
          have hsb := hsum.out b hlt
          rw [pickG_sum] at hsb
          have hgm := pickG_mem b L bs
          have hcs := cntTo_succ b L bs
          have hcl := cntTo_le (b + 1) L bs
          have hcb := cntTo_le b L bs
          have hsp := pickG_sum b L bs
          rw [pickG_names, List.length_map] at hcx hox
          generalize pickG b L bs = G at *
          have hogw := Nat.lt_of_lt_of_le hog hE.size
          have hbI : (b : Int) < most := by omega
          replace hgm := Lib.hid hgm
          replace hcs := Lib.hid hcs
          replace hsp := Lib.hid hsp
          replace hown := Lib.hid hown
          replace hox := Lib.hid hox
          go_wp2
          try rw [show decide ((b : Int) < (most : Int)) = true from decide_eq_true hbI]
          have hEr := hE
          have hsum4 := hsz4
          go_loopw [10, 13, 58] (fun v10 v13 v58 wq => ∃ k : Nat, v10 = .int .i64 ((cntTo b L bs : Int) + k) ∧ v13 = .int .i64 ((G.take k).map (·.many)).sum ∧ v58 = .int .i64 k ∧ k ≤ G.length ∧ Ext wr wq) (fun _ _ v58 _ => G.length - (intOf v58).toNat)
          case atStart => exact ⟨0, by simp, by simp, rfl, Nat.zero_le _, Ext.refl _⟩
          case round =>
            obtain ⟨k, rfl, rfl, rfl, hk, hEq⟩ := hrel
            have hGl : G.length ≤ 12 := by have := hcs.out; omega
            by_cases hkl : k < G.length
            · obtain ⟨g, hg⟩ := getD_some (rfl : G.length = G.length) hkl
              have hgL := hgm.out g (List.mem_of_getElem? hg)
              have hg1 := hone.out g hgL
              have hoq := own_ext hEq hox.out
              obtain ⟨pb, cc', hpe, hpb, hpbw⟩ := hoq.form (by omega)
              cases hpe
              have c0 : wr.cell? ⟨pb, k, none⟩ = some (.string g.name) := by
                have := own_cell (enc := strC) (fun _ => rfl) hoq (i := k) (x := g.name) (by rw [List.getElem?_map, hg]; rfl) 0 (v := .string g.name) rfl hkl
                simpa using this
              have hEw := hEr.trans hEq
              rcases hG.out with ⟨-, hLn⟩ | ⟨bb, off, rfl, hbb, hEl⟩
              · rw [hLn] at hgL; cases hgL
              have hkI : (k : Int) < G.length := by omega
              have hsb2 := sum_many_bound (G.take k) fun y hy => hone.out y (hgm.out y (List.mem_of_mem_take hy))
              have htk : (G.take k).length ≤ 12 := by rw [List.length_take]; omega
              have hst := sum_take_snoc hg
              have hidx := holdIdx g.name wr.heap.size bb off L.length c1 L (wr.alloc (.cells #[.string g.name] 9)) (Blk.new' rfl) rfl (by omega) (by have := hEw.size; simp; omega) (hEl.ext (hEw.alloc _) hbb)
              replace hst := Lib.hid hst
              replace hg := Lib.hid hg
              replace hidx := Lib.hid hidx
              generalize ((G.take k).map (·.many)).sum = su at *
              go_upto_region 18 with (go_at_call 17; (with_reducible refine Calls.mono hidx.out ?_); rintro e w9 ⟨ii, rfl, hb9, hor⟩)
              obtain ⟨j, hj, rfl⟩ : ∃ j : Nat, L[j]? = some g ∧ ii = (j : Int) := by
                obtain ⟨i', hi', e'⟩ := List.getElem_of_mem hgL
                have hgi : L[i']? = some g := by rw [List.getElem?_eq_getElem hi', e']
                rcases hor with ⟨_, h2⟩ | ⟨j, x', hj, hpx, e⟩
                · have := h2 g hgL
                  unfold isNm at this
                  rw [bytesB.2 rfl] at this
                  cases this
                · unfold isNm at hpx
                  have := hok.out.names hj hgi (bytesB.1 hpx)
                  subst this
                  rw [hj] at hgi
                  cases hgi
                  exact ⟨j, hj, e⟩
              have hj1 : (j : Int) < L.length := by have := (List.getElem?_eq_some_iff.1 hj).1; omega
              have hE9 := hEw.trans (((Ext.refl _).alloc _).trans hb9)
              have hbw := Nat.lt_of_lt_of_le hbb hE9.size
              have c1' := ((hEl.ext hE9 hbb).grp hj).2
              have hEq9 := hEq.trans (((Ext.refl _).alloc _).trans hb9)
              clear hor hidx hb9 c0
              go_wp2
              go_roundw
              case rel => exact ⟨k + 1, by go_num, by rw [hst.out], by go_num, by omega, hEq9⟩
              case measure => simp [intOf]; omega
            · obtain rfl : k = G.length := by omega
              have hsT : ((G.take G.length).map (·.many)).sum = (G.map (·.many)).sum := by rw [List.take_length]
              rw [hsT]
              clear hsT
              generalize hsu : (G.map (·.many)).sum = su at *
              have hEw := hEr.trans hEq
              have hoq := own_ext hEq hown.out
              have hszq := hEw.size
              replace hsu := Lib.hid hsu
              go_wp2_with (at_builtin; go_loud (refine wp_appL _ (.tmp 84) (.tmp 86) 22 3 1 8 (.int .i64 0) rfl rfl Tryd.underlying22 intInfo rfl (by decide) (by decide) w4.heap.size lp b lc _ rfl (hoq.alloc _) wr.heap.size (intC su) rfl rfl (Blk.new' rfl) (by simp [intC, Value.oneCell']) (by omega) (by simp; omega) ?_; intro b1 c1 w6 hown6 hgrow6 hloc6))
              · exfalso
                rcases ‹seat < su ∨ (su == 0) = true› with h1 | h1
                · omega
                · have := eq_of_beq h1
                  omega
              go_roundw
              case rel => exact ⟨b + 1, _, _, by go_num, by rw [hcs.out]; go_num, by go_num, by omega, by rw [sumsTo_succ, flat_snoc, hsp.out]; exact hown6, (hEw.alloc _).grown hgrow6 fun j e => (hoq.lt j e).1⟩
              case measure => simp [intOf]; omega
        · obtain rfl : b = most := by omega
          have hcall := cntTo_all hbl.out hbm.out
          rw [hcall]
          have hpr : ∀ a d, a < b → d < b → a ≠ d → seat < sumAt a (manyL L) bs + sumAt d (manyL L) bs := hpair.out
          have hsr : ∀ a, a < b → 1 ≤ sumAt a (manyL L) bs ∧ sumAt a (manyL L) bs ≤ seat := hsum.out
          replace hpr := Lib.hid hpr
          replace hsr := Lib.hid hsr
          replace hown := Lib.hid hown
          clear hcall
          have hE9 := hE
          go_wp2
          go_loopw [91] (fun v91 wq => ∃ i : Nat, v91 = .int .i64 i ∧ i ≤ b ∧ Ext wr wq) (fun v91 _ => b - (intOf v91).toNat)
          case atStart => exact ⟨0, rfl, Nat.zero_le _, Ext.refl _⟩
          case round =>
            obtain ⟨i, rfl, hi, hEq⟩ := hrel
            by_cases hib : i < b
            · have hoq := own_ext hEq hown.out
              obtain ⟨fb, fc, hfe, hfb, hfbw⟩ := hoq.form (by omega)
              cases hfe
              have c0 : wr.cell? ⟨fb, i, none⟩ = some (.int .i64 (sumAt i (manyL L) bs)) := by
                have := own_cell intC_len hoq (sumsTo_at hib) 0 (v := .int .i64 (sumAt i (manyL L) bs)) rfl hib
                simpa using this
              have hiI : (i : Int) < b := by omega
              have hsi := hsr.out i hib
              have hbf : b ≤ lc := by
                rcases hoq.2 with ⟨h3, _⟩ | ⟨g, cap, cur, h3, _, _, h4, _⟩
                · cases h3
                · cases h3
                  exact h4
              by_cases hfc : lc = i + 1
              · obtain rfl : b = i + 1 := by omega
                subst hfc
                go_wp2
                go_loopw [101] (fun v101 wq => v101 = .int .i64 0 ∧ Ext wr wq) (fun _ _ => 0)
                case atStart => exact ⟨rfl, Ext.refl _⟩
                case round =>
                  obtain ⟨rfl, hEz⟩ := hrel
                  go_wp2
                  go_roundw
                  case rel => exact ⟨i + 1, by go_num, by omega, hEq.trans hEz⟩
                  case measure => simp [intOf]
              · have hfi : (i : Int) + 1 ≤ b := by omega
                have hff : (b : Int) ≤ lc := by omega
                have hfn : ¬ (lc : Int) = (i : Int) + 1 := by omega
                go_wp2
                obtain ⟨m, hm⟩ : ∃ m, b - (i + 1) = m := ⟨_, rfl⟩
                rw [hm]
                go_loopw [101] (fun v101 wq => ∃ q : Nat, v101 = .int .i64 q ∧ q ≤ m ∧ Ext wr wq) (fun v101 _ => m - (intOf v101).toNat)
                case atStart => exact ⟨0, rfl, Nat.zero_le _, Ext.refl _⟩
                case round =>
                  obtain ⟨q, rfl, hq, hEz⟩ := hrel
                  by_cases hqm : q < m
                  · have hqb : i + 1 + q < b := by omega
                    have c1 : wr.cell? ⟨fb, i + 1 + q, none⟩ = some (.int .i64 (sumAt (i + 1 + q) (manyL L) bs)) := by
                      have := own_cell intC_len (own_ext hEz hoq) (sumsTo_at hqb) 0 (v := .int .i64 (sumAt (i + 1 + q) (manyL L) bs)) rfl hqb
                      simpa using this
                    have hpq := hpr.out i (i + 1 + q) hib hqb (by omega)
                    have hsq := hsr.out (i + 1 + q) hqb
                    have hfbz := Nat.lt_of_lt_of_le hfbw hEz.size
                    have hqI : (q : Int) < m := by omega
                    generalize sumAt (i + 1 + q) (manyL L) bs = sq at *
                    generalize sumAt i (manyL L) bs = si at *
                    go_wp2
                    go_roundw
                    case rel => exact ⟨q + 1, by go_num, by omega, hEz⟩
                    case measure => simp [intOf]; omega
                  · obtain rfl : q = m := by omega
                    go_wp2
                    go_roundw
                    case rel => exact ⟨i + 1, by go_num, by omega, hEq.trans hEz⟩
                    case measure => simp [intOf]; omega
            · obtain rfl : i = b := by omega
              go_wp2_with (go_at_call 9; refine (ready_any B _ (by exact ht.ext ((hE4.trans hE9).trans hEq))).mono ?_; rintro e wz ⟨rfl, hzz⟩)
              go_ret
              exact ⟨by simp, ((hE4.trans hE9).trans hEq).trans hzz⟩
  · replace hz := Lib.hid hz
    go_wp2_with (first
      | (go_at_call 15; (with_reducible refine Calls.mono hlt ?_); rintro e w5 ⟨rfl, hb5⟩; have hz9 : ¬ groupsF L = 0 := hz.out; have hE5 := hE2.trans hb5)
      | (go_at_call 9; refine (ready_any B _ (by exact ht.ext hE5)).mono ?_; rintro e wz ⟨rfl, hzz⟩))
    go_ret
    exact ⟨rfl, hE5.trans hzz⟩
end Go.Proofs.YtlmbpgjdepmlcaaDoor
