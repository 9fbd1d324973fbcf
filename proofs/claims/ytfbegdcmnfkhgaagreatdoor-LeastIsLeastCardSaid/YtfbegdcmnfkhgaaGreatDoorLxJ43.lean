/- How many are hidden, counted by their names: plain mathematics, and the law's own count. Conditions: the stands are right. People sorted by their height, by both texts: the walks. Conditions: people are right. -/
import Derived.Test.YtfbegdcmnfkhgaaGreatDoorLxLlA
import Derived.Test.YtfbegdcmnfkhgaaGreatDoorLxJ23
import Derived.Test.YtfbegdcmnfkhgaaGreatDoorLxJ30
import Derived.Test.YtfbegdcmnfkhgaaGreatDoorLxJ38
import Derived.Test.YtfbegdcmnfkhgaaGreatDoorLxJ26
import Derived.Test.YtfbegdcmnfkhgaaGreatDoorLxJ25
import Derived.Test.YtfbegdcmnfkhgaaGreatDoorLxJ6
import Derived.Shelf.SlicesE.Clone
import Derived.Shelf.SlSortCmp.NoneTotal
import Derived.Shelf.SlSortCmp.InsertionK
set_option linter.unusedSimpArgs false
set_option linter.unusedVariables false
namespace Go.Proofs.YtfbegdcmnfkhgaaGreatDoor
open Go Go.RowKit Go.Sort

theorem nd_le {α : Type} : ∀ {l m : List α}, l.Nodup → (∀ x ∈ l, x ∈ m) → l.length ≤ m.length
  | [], _, _, _ => Nat.zero_le _
  | x :: l, m, h, k => by
    obtain ⟨m1, m2, rfl⟩ := List.append_of_mem (k x List.mem_cons_self)
    have := nd_le (l := l) (m := m1 ++ m2) (List.nodup_cons.1 h).2 (fun y hy => by
      have h9 := k y (List.mem_cons_of_mem _ hy)
      rw [List.mem_append, List.mem_cons] at h9
      rw [List.mem_append]
      rcases h9 with h1 | rfl | h1
      · exact .inl h1
      · exact absurd hy (List.nodup_cons.1 h).1
      · exact .inr h1)
    simp at this ⊢
    omega
theorem compact_upto {zs : List (List UInt8)} (hs : zs.Pairwise (· ≤ ·)) : ∀ m, m ≤ zs.length → (Lib.compactUpTo zs.toArray m).Nodup ∧ ∀ x, x ∈ Lib.compactUpTo zs.toArray m ↔ x ∈ zs.take m
  | 0, _ => by simp [Lib.compactUpTo]
  | m + 1, hm => by
    obtain ⟨i1, i2⟩ := compact_upto hs m (by omega)
    have hml : m < zs.length := by omega
    have e1 : zs.toArray[m]! = zs[m] := by simp [getElem!_pos, hml]
    have et : zs.take (m + 1) = zs.take m ++ [zs[m]] := by rw [List.take_succ_eq_append_getElem hml]
    rw [Lib.compactUpTo_succ, et]
    cases hk : Lib.keeps zs.toArray m
    · simp only [Bool.false_eq_true, if_false, List.append_nil]
      refine ⟨i1, fun x => ?_⟩
      rw [i2 x, List.mem_append, List.mem_singleton]
      refine ⟨.inl, fun h => ?_⟩
      rcases h with h | rfl
      · exact h
      · unfold Lib.keeps at hk
        simp only [decide_eq_false_iff_not, not_or, Classical.not_not] at hk
        obtain ⟨h0, h1⟩ := hk
        have hm1 : m - 1 < zs.length := by omega
        have e2 : zs.toArray[m - 1]! = zs[m - 1] := by simp [getElem!_pos, hm1]
        rw [e1, e2] at h1
        rw [h1]
        exact List.mem_take_iff_getElem.2 ⟨m - 1, by omega, rfl⟩
    · simp only [if_true]
      rw [e1]
      refine ⟨?_, fun x => by rw [List.mem_append, List.mem_append, i2 x]⟩
      rw [List.nodup_append]
      refine ⟨i1, by simp, fun a ha b hb e => ?_⟩
      rw [List.mem_singleton.1 hb] at e
      subst e
      rw [i2] at ha
      obtain ⟨j, hj, ej⟩ := List.mem_take_iff_getElem.1 ha
      have hjm : j < m := by omega
      unfold Lib.keeps at hk
      simp only [decide_eq_true_eq] at hk
      rcases hk with h0 | h1
      · omega
      · have hm1 : m - 1 < zs.length := by omega
        have e2 : zs.toArray[m - 1]! = zs[m - 1] := by simp [getElem!_pos, hm1]
        rw [e1, e2] at h1
        rw [List.pairwise_iff_getElem] at hs
        apply h1
        have k1 : zs[m - 1] ≤ zs[m] := hs (m - 1) m hm1 hml (by omega)
        have k2 : zs[m] ≤ zs[m - 1] := by
          rw [← ej]
          rcases Nat.lt_or_ge j (m - 1) with h3 | h3
          · exact hs j (m - 1) (by omega) hm1 h3
          · have : j = m - 1 := by omega
            subst this
            exact List.le_refl _
        exact le_as k2 k1
theorem compact_card {ss D : List (List UInt8)} (hd : D.Nodup) (h : ∀ x, x ∈ D ↔ x ∈ ss) : (Lib.compact (ss.mergeSort fun x y => decide (x ≤ y))).length = D.length := by
  obtain ⟨h1, h2⟩ := compact_upto (srt ss) _ (Nat.le_refl _)
  rw [List.take_length] at h2
  have e : ∀ x, x ∈ Lib.compact (ss.mergeSort fun x y => decide (x ≤ y)) ↔ x ∈ D := fun x => (h2 x).trans (List.mem_mergeSort.trans (h x).symm)
  exact Nat.le_antisymm (nd_le h1 fun x hx => (e x).1 hx) (nd_le hd fun x hx => (e x).2 hx)
def whoL (P : List PersonV) (wide high : List Int) (S : List StandV) : List ByteArray := (hiddenL P wide high S).map (·.1)
theorem who_card {P : List PersonV} {wide high : List Int} {S : List StandV} (hn : (namesS S).Nodup) :
    (Lib.compact (((whoL P wide high S).map fun x => x.data.toList).mergeSort fun x y => decide (x ≤ y))).length = hidN P wide high S S := by
  have hD : (((S.filter fun b => hidAny P wide high S b).map (·.name)).map fun x => x.data.toList).Nodup := by
    rw [nodup_bytes]
    exact hn.sublist (List.filter_sublist.map _)
  rw [compact_card hD fun x => ?_]
  · simp [hidN]
  · rw [List.mem_map, List.mem_map]
    have e : ∀ a : ByteArray, a ∈ (S.filter fun b => hidAny P wide high S b).map (·.name) ↔ a ∈ whoL P wide high S := fun a => by
      unfold whoL hiddenL
      rw [List.mem_map, List.mem_map]
      constructor
      · rintro ⟨b, hb, rfl⟩
        obtain ⟨hb1, hb2⟩ := List.mem_filter.1 hb
        unfold hidAny at hb2
        obtain ⟨c, hc, hh⟩ := List.any_eq_true.1 hb2
        exact ⟨(b.name, c.name), List.mem_flatMap.2 ⟨b, hb1, List.mem_map.2 ⟨c, List.mem_filter.2 ⟨hc, hh⟩, rfl⟩⟩, rfl⟩
      · rintro ⟨y, hy, rfl⟩
        obtain ⟨b, hb, hy⟩ := List.mem_flatMap.1 hy
        obtain ⟨c, hc, rfl⟩ := List.mem_map.1 hy
        obtain ⟨hc1, hc2⟩ := List.mem_filter.1 hc
        exact ⟨b, List.mem_filter.2 ⟨hb, List.any_eq_true.2 ⟨c, hc1, hc2⟩⟩, rfl⟩
    exact ⟨fun ⟨a, ha, h⟩ => ⟨a, (e a).1 ha, h⟩, fun ⟨a, ha, h⟩ => ⟨a, (e a).2 ha, h⟩⟩
section
variable {w : World} {pp : Option Addr} {pc : Nat} {P : List PersonV} {wp : Option Addr} {wcap : Nat} {wide : List Int} {hp : Option Addr} {hc : Nat} {high : List Int} {lp : Option Addr} {lc : Nat} {S : List StandV}
set_option maxRecDepth 100000 in
set_option maxHeartbeats 3200000 in
theorem llHidden_any (h : PsM w pp pc P wp wcap wide hp hc high lp lc S) (hz : standsF P wide high S = 0) {gP gS : Nat} (hP : Blk w gP 26 #[.slice pp P.length pc]) (hS : Blk w gS 29 #[.slice wp wide.length wcap, .slice hp high.length hc]) :
    Calls Tryz.prog 29 #[.slice lp S.length lc, .pointer (some ⟨gP, 0, none⟩), .pointer (some ⟨gS, 0, none⟩)] w fun e w' => e = .returned (.int .i64 (hidT P wide high S)) ∧ Ext w w' := by
  have hhi := hides_good h hz
  have hwc := who_card (P := P) (wide := wide) (high := high) (standsF_right hz).2.2.2.2
  have hTv : hidT P wide high S = (hidN P wide high S S : Nat) := rfl
  rw [hTv, ← hwc]
  have hlen : (hiddenL P wide high S).length ≤ 40000 := by
    have hl := (standsF_ok hz).1.len
    have hb1 := hidTo_len P wide high S S.length (Nat.le_refl _)
    have hb2 : S.length * S.length ≤ 200 * 200 := Nat.mul_le_mul hl hl
    rw [hidTo_all] at hb1
    omega
  have hwho : whoL P wide high S = (hiddenL P wide high S).map (·.1) := rfl
  generalize whoL P wide high S = N at *
  generalize hiddenL P wide high S = H at *
  subst hwho
  obtain ⟨p0, -⟩ := hP.walk
  obtain ⟨s0, -⟩ := hS.walk
  have pl := hP.lt
  have sl := hS.lt
  clear hwc hTv h hz hP hS
  replace hhi := Lib.hid hhi
  go_enter Tryz.func29, Tryz.ntmps29
  go_wp2_with (go_at_call 30; (with_reducible refine Calls.mono hhi.out ?_); rintro e w1 ⟨q, c, rfl, hQ, hb1⟩)
  have hws := hb1.size
  clear hhi p0 s0
  go_loopw [7, 21] (fun v7 v21 wr => ∃ (k : Nat) (v : Value), v7 = v ∧ v21 = .int .i64 k ∧ k ≤ H.length ∧ wr.ownsRow w1.heap.size 9 1 v k (((H.take k).map (·.1)).flatMap strC) ∧ Ext w1 wr) (fun _ v21 _ => H.length - (intOf v21).toNat)
  case atStart => exact ⟨0, _, rfl, rfl, Nat.zero_le _, by simpa using World.ownsRow_nil _ _ _ _, Ext.refl _⟩
  case round =>
    obtain ⟨k, v, rfl, rfl, hk, hown, hE⟩ := hrel
    have hsz := hE.size
    by_cases hlt : k < H.length
    · obtain ⟨x, hx⟩ := getD_some (rfl : H.length = H.length) hlt
      have hkI : (k : Int) < H.length := by omega
      rcases (slcC hQ).2 with ⟨-, e⟩ | ⟨b, off, rfl, hb, hEl⟩
      · rw [e] at hx; cases hx
      obtain ⟨c0, c1⟩ := (hEl.ext hE hb).hid hx
      have lb := Nat.lt_of_lt_of_le hb hE.size
      have hst : (H.take (k + 1)).map (·.1) = (H.take k).map (·.1) ++ [x.1] := by rw [take_snocL hx, List.map_append]; rfl
      replace hst := Lib.hid hst
      replace hown := Lib.hid hown
      clear hx hEl
      go_wp2_with (at_builtin; go_loud (refine wp_app1 _ (.tmp 25) (.tmp 28) 48 9 1 16 _ rfl rfl Tryz.underlying48 strInfo rfl (by decide) (by decide) w1.heap.size _ _ _ rfl ((hown.out.alloc _).alloc _) (wr.heap.size + 1) (strC x.1) rfl rfl (Blk.new' (by simp)) (by simp [strC, Value.oneCell']) (by omega) (by simp; omega) ?_; intro v' w6 hown6 hgrow6 _))
      go_roundw
      case rel => exact ⟨k + 1, v', rfl, by go_num, by omega, by rw [hst.out, flat_snoc]; exact hown6, ((hE.alloc _).alloc _).grown hgrow6 fun j e => (hown.out.lt j e).1⟩
      case measure => simp [intOf]; omega
    · obtain rfl : k = H.length := by omega
      rw [List.take_length] at hown
      by_cases h0 : H.length = 0
      · have hH : H = [] := List.eq_nil_of_length_eq_zero h0
        subst hH
        obtain ⟨p7, c7, rfl, -⟩ := slc_of_own (xs := ([] : List ByteArray)) (enc := strC) (fun _ => rfl) hown (by decide) (by decide)
        clear hown
        have hE9 := hb1.trans hE
        go_wp2_with (first
          | (go_at_call 31; refine (Tryz.slices_Sort_string_none _ _ _).mono ?_; rintro e w2 ⟨rfl, rfl⟩)
          | (go_at_call 32; refine (Tryz.slices_Compact_string_empty _ _ _).mono ?_; rintro e w3 ⟨rfl, rfl⟩))
        go_ret
        exact ⟨ret_int (by simp [Lib.compact, Lib.compactUpTo]), hE9⟩
      · have e : ∀ l : List ByteArray, l.flatMap strC = l.map Value.string := fun l => by
          induction l with
          | nil => rfl
          | cons a l ih => rw [List.flatMap_cons, ih]; rfl
        have hown2 := hown
        rw [e, ← map_enc] at hown2
        obtain ⟨g, cap, rfl, hbg, hgl, hncap, hcm, hln, hH⟩ := Lib.holds_of_ownsRow hown2 fun e => by
          rw [e] at hown
          rcases hown.2 with ⟨-, h1⟩ | ⟨g, cap, cur, h1, _⟩
          · exact h0 h1
          · cases h1
        clear hown hown2 e
        generalize hss : ((H.map (·.1)).map fun x => x.data.toList) = ss at *
        have hE9 := hb1.trans hE
        have hsort := Tryz.slices_Sort_string g 0 cap ss wr hH hgl (by omega)
        rw [hln] at hsort
        replace hsort := Lib.hid hsort
        replace hH := Lib.hid hH
        replace hln := Lib.hid hln
        replace hss := Lib.hid hss
        replace h0 := Lib.hid h0
        have hws9 := hE9.size
        go_wp2_with (first
          | (go_at_call 31; refine (hsort.out).mono ?_; rintro e w2 ⟨rfl, nn, os, rfl⟩
             have hl2 : (ss.mergeSort fun x y => decide (x ≤ y)).length = H.length := by rw [List.length_mergeSort]; exact hln.out
             have hH2 : Holds encStr (grow (putRow encStr (Sort.ahead wr nn) g 0 (ss.mergeSort fun x y => decide (x ≤ y)).toArray) os) g 0 (ss.mergeSort fun x y => decide (x ≤ y)).toArray :=
               holds_grow encStr _ os g 0 _ (by simpa [putRow, mapBlock, Sort.ahead] using hgl) (holds_putRow encStr _ g 0 _ _ (holds_ahead encStr wr nn g 0 _ hH.out) (by simp))
             have hcomp := Tryz.slices_Compact_string g 0 cap (ss.mergeSort fun x y => decide (x ≤ y)) _ hH2 (by omega) (by omega)
             rw [hl2] at hcomp
             replace hcomp := Lib.hid hcomp
             have hbel2 : Ext w (grow (putRow encStr (Sort.ahead wr nn) g 0 (ss.mergeSort fun x y => decide (x ≤ y)).toArray) os) := hE9.grown (grownBy_sorted _) (fun j hj => by cases hj; omega)
             clear hH2
             generalize grow (putRow encStr (Sort.ahead wr nn) g 0 (ss.mergeSort fun x y => decide (x ≤ y)).toArray) os = w2 at *)
          | (go_at_call 32; refine (hcomp.out).mono ?_; rintro e w3 ⟨rfl, q, rfl⟩))
        go_ret
        exact ⟨ret_int (by rw [hss.out]), Lib.below_putRow hbel2 (by omega)⟩
end
end Go.Proofs.YtfbegdcmnfkhgaaGreatDoor

namespace Go.Proofs.YtfbegdcmnfkhgaaGreatDoor
open Go Go.RowKit Go.Sort

theorem per_flat_lenK (xs : List PersonV) : (xs.flatMap perC).length = xs.length * 3 := flat_lenK perC_len xs
theorem clonePer_any (p : Option Addr) (n c : Nat) (xs : List PersonV) (w : World) (h : Slc 3 perC w p n c xs) (hn : n ≤ 1000) :
    Calls Tryz.prog 28 #[.slice p n c] w fun e w' => ∃ v, e = .returned v ∧ w'.ownsRow w.heap.size 59 3 v n (xs.flatMap perC) ∧ Ext w w' := by
  obtain ⟨hS, hnc, hp0, hp⟩ := h
  cases p with
  | none =>
    obtain rfl := hp0 rfl
    have hx : xs = [] := List.eq_nil_of_length_eq_zero hS.1
    subst hx
    exact (AnyE.slices_Clone_nil Tryz.lecPer 0 c w).mono fun e w' ⟨he, hw⟩ => by
      subst hw
      exact ⟨_, he, World.ownsRow_nil _ _ _ _, Ext.refl _⟩
  | some a =>
    obtain ⟨b, off, rfl, hb⟩ := hp a rfl
    obtain ⟨i0, hi, hz0, hz1, hz2⟩ := info_parts (P := Tryz.prog) (e := 59) (z := .agg #[.string ⟨#[]⟩, .int .i64 0, .string ⟨#[]⟩]) (size := 3) (bytes := 40) (by kernel_rfl)
    refine (AnyE.slices_Clone Tryz.lecPer i0 _ 3 40 hi hz0 hz1 hz2 rfl (by decide) Tryz.sizeOf59 b off n c (xs.flatMap perC) w (by rw [per_flat_lenK, hS.1]) (by unfold maxLen; omega) (by omega) (fun j u hj => ?_) (fun u hu => ?_)).mono fun e w' ⟨v', he, ho, _, hb'⟩ => ⟨v', he, ho, hb'⟩
    · have hj' : j < xs.length * 3 := by rw [← per_flat_lenK]; exact (List.getElem?_eq_some_iff.1 hj).1
      have hn0 : n ≠ 0 := by have := hS.1; omega
      obtain ⟨b', off', hpe, hb', hE⟩ := hS.2.2 hn0
      cases hpe
      obtain ⟨x, hx⟩ : ∃ x, xs[j / 3]? = some x := ⟨_, List.getElem?_eq_getElem (by omega)⟩
      have hjm : j % 3 < 3 := Nat.mod_lt _ (by omega)
      obtain ⟨u', hu'⟩ : ∃ u', (perC x)[j % 3]? = some u' := ⟨_, List.getElem?_eq_getElem (by rw [perC_len]; exact hjm)⟩
      have h2 := hE _ x hx _ u' hu'
      have h3 := flat_at perC_len xs (j / 3) x hx (j % 3) u' hu'
      rw [Nat.div_add_mod' j 3] at h3
      rw [h3] at hj
      cases hj
      have h4 : (⟨b, off, none⟩ : Addr).add j = ⟨b, off + j, none⟩ := by unfold Addr.add; split <;> simp_all
      rw [show off + j = off + j / 3 * 3 + j % 3 by omega]
      exact h2
    · obtain ⟨x, -, hx⟩ := List.mem_flatMap.1 hu
      exact per_one x u hx

theorem cmpSE_any (a b : ByteArray) (w : World) :
    Calls Tryz.prog 92 #[.string a, .string b] w fun e w' => e = .returned (.int .i64 (cmpS a b)) ∧ Drw w w' :=
  (Tryz.strings_Compare a b w).mono fun _ _ h => ⟨h.1, h.2 ▸ Drw.refl _⟩
set_option maxRecDepth 100000 in
set_option maxHeartbeats 1600000 in
theorem heightG_any (a b : PersonV) (w : World) :
    Calls Tryz.prog 91 #[.agg #[.string a.name, .int .i64 a.high, .string a.sect], .agg #[.string b.name, .int .i64 b.high, .string b.sect]] w fun e w' => e = .returned (.int .i64 (cmpPer a b)) ∧ ∃ q os', w' = grow (w.drewN q) os' := by
  have hF : cmpPer a b = orF [cmpZ a.high b.high, cmpS a.name b.name] := rfl
  rw [hF]
  clear hF
  have hX : Blk ((w.alloc (.cells #[.string a.name, .int .i64 a.high, .string a.sect] 59)).alloc (.cells #[.string b.name, .int .i64 b.high, .string b.sect] 59)) w.heap.size 59 #[.string a.name, .int .i64 a.high, .string a.sect] := (Blk.new' rfl).alloc _
  have hY : Blk ((w.alloc (.cells #[.string a.name, .int .i64 a.high, .string a.sect] 59)).alloc (.cells #[.string b.name, .int .i64 b.high, .string b.sect] 59)) (w.heap.size + 1) 59 #[.string b.name, .int .i64 b.high, .string b.sect] := Blk.new' (by simp)
  go_enter Tryz.func91, Tryz.ntmps91
  go_upto_region 1 with fail
  refine wp_region_planS [(0, true), (1, true), (2, true), (3, true), (4, true), (5, true), (6, true), (7, true), (8, true), (9, true)] 10 (fun w' => Blk w' w.heap.size 59 #[.string a.name, .int .i64 a.high, .string a.sect] ∧ Blk w' (w.heap.size + 1) 59 #[.string b.name, .int .i64 b.high, .string b.sect]) Drw (by kernel_rfl) (by kernel_rfl) Drw.refl (fun _ _ _ => Drw.trans) (fun _ _ h he => ⟨h.1.drw he, h.2.drw he⟩) ⟨(by (repeat (with_reducible first | assumption | exact Blk.new' (by simp) | refine Blk.drew ?_ | refine Blk.alloc ?_ _ | exact Drw.refl _ | refine Ext.drew ?_ | refine Ext.alloc ?_ _))), (by (repeat (with_reducible first | assumption | exact Blk.new' (by simp) | refine Blk.drew ?_ | refine Blk.alloc ?_ _ | exact Drw.refl _ | refine Ext.drew ?_ | refine Ext.alloc ?_ _)))⟩ ?_
  repeat
    first
      | (refine plan_quiet rfl rfl (fun _ _ _ _ h => h) ?_
         apply Exists.intro
         refine ⟨fun w' hw' => ?_, ?_⟩
         · obtain ⟨hH0, hH1⟩ := hw'
           unfold Blk at hH0 hH1
           simp [go_sem, quietTo, World.cell?, hH0, hH1, Drw.refl, ↓IntWalk.iteOmega]
           first
             | rfl
             | (exact cmpIntE_any _ _ _)
             | (exact cmpSE_any _ _ _)
         simp only [Act.put, List.setIfInBounds_toArray, List.set_cons_succ, List.set_cons_zero])
      | (refine plan_skip rfl rfl (fun _ _ _ _ h => h) ?_
         simp only [Act.put, List.setIfInBounds_toArray, List.set_cons_succ, List.set_cons_zero])
  refine plan_nil fun wr her hwr => ?_
  obtain ⟨hH0, hH1⟩ := hwr
  obtain ⟨hC0, hF0⟩ := hH0.walk
  obtain ⟨hC1, hF1⟩ := hH1.walk
  simp only [List.drop_succ_cons, List.drop_zero, List.drop_nil]
  go_wp2_with (go_at_call 82; refine (orInt_blk _ _ 2 [cmpZ a.high b.high, cmpS a.name b.name] _ (by simp) (Blk.new' rfl)).mono ?_; rintro e w2 ⟨rfl, rfl⟩)
  go_ret
  refine ⟨rfl, ?_⟩
  obtain ⟨q, rfl⟩ := her
  exact ⟨q + 1, _, grow_three _ _ _ _ _⟩
set_option maxRecDepth 100000 in
theorem sortPer_any {w : World} {base g n cap : Nat} {L : List PersonV} (h : w.ownsRow base 59 3 (.slice (some ⟨g, 0, none⟩) n cap) n (L.flatMap perC)) (hn : L.length = n) (hn1 : n ≤ 1000) (hok : PeopleOk L) :
    Calls Tryz.prog 90 #[.slice (some ⟨g, 0, none⟩) n cap, .func (.func 91) #[] #[]] w fun e w' => e = .returned (.tuple #[]) ∧ ∃ M : List PersonV, ByH L M ∧ w'.ownsRow base 59 3 (.slice (some ⟨g, 0, none⟩) n cap) n (M.flatMap perC) ∧ ∀ a : World, Ext a w → a.heap.size ≤ g → Ext a w' := by
  have hgl := (h.lt g rfl).2
  subst hn
  have hs := AnyQ.slices_SortFunc Tryz.lsfPer 3 Tryz.isAgg59 Tryz.sizeOf59 perC perC_len per_one cmpPer per_swo 91 #[] g 0 cap L.toArray w (fun args u => by rfl) (fun m os dk _ x y => heightG_any x y _) (holdsK_own perC_len h) hgl (by simp; omega)
  refine hs.mono fun e w' ⟨he, d', q, os, hp, hso, hw⟩ => ?_
  have hby : ByH L d'.toList := byH_of hok (by simpa using hp) (by simpa using hso)
  refine ⟨he, d'.toList, hby, ?_, ?_⟩
  · rw [hw]
    exact own_sortK perC_len h hby.1.length_eq
  · intro a ha hg
    rw [hw]
    exact ext_sortK ha hg
set_option maxRecDepth 100000 in
set_option maxHeartbeats 1600000 in
theorem byHeight_any (p : Option Addr) (c : Nat) (L : List PersonV) (w : World) (h : Slc 3 perC w p L.length c L) (hn : L.length ≤ 19) (hok : PeopleOk L) :
    Calls Tryz.prog 51 #[.slice p L.length c] w fun e w' => ∃ (q : Option Addr) (d : Nat) (M : List PersonV), e = .returned (.slice q L.length d) ∧ ByH L M ∧ Slc 3 perC w' q L.length d M ∧ Ext w w' := by
  have hcl := clonePer_any p L.length c L w h (by omega)
  replace hcl := Lib.hid hcl
  by_cases h0 : L.length = 0
  · have hx : L = [] := List.eq_nil_of_length_eq_zero h0
    subst hx
    clear h0 hok h
    have hno := fun (q : Option Addr) (d : Nat) (fv : Value) (u : World) => (show Calls Tryz.prog 90 #[.slice q 0 d, fv] u fun e w' => e = .returned (.tuple #[]) ∧ u = w' from (AnyF.slices_SortFunc_none Tryz.lsfPer _ _ _ _).mono (fun _ _ h => And.intro h.1 h.2.symm))
    replace hno := Lib.hid hno
    go_enter Tryz.func51, Tryz.ntmps51
    go_wp2_with (first
      | (go_at_call 28; (with_reducible refine Calls.mono hcl.out ?_); rintro e w2 ⟨v, rfl, hown, hb2⟩; obtain ⟨q, d, rfl, hS'⟩ := slc_of_own perC_len hown (by decide) (by decide))
      | (go_at_call 90; refine (hno.out _ _ _ _).mono ?_; rintro e w3 ⟨rfl, rfl⟩))
    go_ret
    exact ⟨q, d, [], rfl, ⟨List.Perm.refl _, List.Pairwise.nil⟩, hS', hb2⟩
  · have hso := fun (u : World) (g d : Nat) (ho : u.ownsRow w.heap.size 59 3 (.slice (some ⟨g, 0, none⟩) L.length d) L.length (L.flatMap perC)) => sortPer_any ho rfl (by omega) hok
    replace hso := Lib.hid hso
    have h0' : 0 < L.length := by omega
    replace h0 := Lib.hid h0
    clear h hok
    go_enter Tryz.func51, Tryz.ntmps51
    go_wp2_with (first
      | (go_at_call 28; (with_reducible refine Calls.mono hcl.out ?_); rintro e w2 ⟨v, rfl, hown, hb2⟩; obtain ⟨g, d, rfl, hgk, hgl⟩ := hown.form h0')
      | (go_at_call 90; (with_reducible refine Calls.mono (hso.out _ _ _ hown) ?_); rintro e w3 ⟨rfl, M, hM, ho3, hx3⟩))
    obtain ⟨q, d', e9, hS9⟩ := slc_of_own perC_len ho3 (by decide) (by omega)
    cases e9
    go_ret
    exact ⟨_, d, M, rfl, hM, hS9, hx3 _ hb2 hgk⟩
end Go.Proofs.YtfbegdcmnfkhgaaGreatDoor
