/- Numbers, by kit. Conditions: sizes. -/
import Derived.Test.YtachmdaiecbenaaGreatDoorSbSlF
set_option linter.unusedSimpArgs false
set_option linter.unusedVariables false
namespace Go.Proofs.YtachmdaiecbenaaGreatDoor
open Go Go.RowKit

theorem intI : (Tryz.prog.info? 3).map (fun i => (i.zero, i.size, i.bytes)) = some (some (.int .i64 0), 1, 8) := by kernel_rfl
set_option maxRecDepth 100000 in
set_option maxHeartbeats 1600000 in
theorem nums_good (g n c : Nat) (W : List ByteArray) (w : World) (hc : ∀ (j : Nat) x, W[j]? = some x → w.cell? ⟨g, 0 + j, none⟩ = some (.string x)) (hg : g < w.heap.size) (hn : W.length = n) (hn1 : n ≤ 1000) (hs : ∀ x ∈ W, x.size ≤ 1000000) (hw : ∀ x ∈ W, numOk 15 x = true) :
    Calls Tryz.prog 58 #[.slice (some ⟨g, 0, none⟩) n c] w fun e w' => (∃ p c', e = .returned (.tuple #[.slice p n c', .bool true]) ∧ Slc 1 intC w' p n c' (W.map numV)) ∧ Ext w w' := by
  have hl := Lib.hid hn
  replace hc := Lib.hid hc
  replace hs := Lib.hid hs
  replace hw := Lib.hid hw
  clear hn
  go_enter Tryz.func58, Tryz.ntmps58
  go_wp2
  go_loopw [4, 11] (fun v4 i wr => ∃ (k : Nat) (v : Value), k ≤ n ∧ i = .int .i64 k ∧ v4 = v ∧ wr.ownsRow w.heap.size 3 1 v k (((W.take k).map numV).flatMap intC) ∧ Ext w wr) (fun _ i _ => n - (intOf i).toNat)
  case atStart => exact ⟨0, _, Nat.zero_le _, rfl, rfl, World.ownsRow_nil _ _ _ _, Ext.refl _⟩
  case round =>
    obtain ⟨k, v, hk, rfl, rfl, ho, he⟩ := hrel
    by_cases hlt : k < n
    · obtain ⟨x, hx⟩ := getD_some hl.out hlt
      obtain ⟨hce, -, -⟩ := he.walk
      have c0 := (hce _ (0 + k) hg).trans (hc.out k x hx)
      rw [Nat.zero_add] at c0
      have hxm := List.mem_of_getElem? hx
      have hnum := fun u => number_any x 15 u (by have := hs.out x hxm; omega) (by decide) (by decide)
      have hok := hw.out x hxm
      have hR : numR 15 x = numV x := by unfold numR; rw [if_pos hok]
      rw [hok, hR] at hnum
      have hkI : (k : Int) < n := by omega
      have hst : ((W.take (k + 1)).map numV).flatMap intC = ((W.take k).map numV).flatMap intC ++ intC (numV x) := by
        obtain ⟨hk9, e9⟩ := List.getElem?_eq_some_iff.1 hx
        rw [List.take_succ_eq_append_getElem hk9, e9, List.map_append, List.flatMap_append]
        simp
      replace hnum := Lib.hid hnum
      replace hst := Lib.hid hst
      have hsz := he.size
      replace ho := Lib.hid ho
      clear hx hce hok hR hxm
      generalize hV : numV x = V at *
      clear hV
      go_wp2_with (first
        | (go_at_call 89; (with_reducible refine Calls.mono (hnum.out _) ?_); rintro e w1 ⟨rfl, hb1⟩; have ho1 := own_ext hb1 ho.out; have hs1 := hb1.size)
        | (at_builtin; go_loud (refine wp_app1 _ (.tmp 22) (.tmp 24) 22 3 1 8 (.int .i64 0) rfl rfl Tryz.underlying22 intI rfl (by decide) (by decide) w.heap.size _ k _ rfl (ho1.alloc _) w1.heap.size (intC V) rfl rfl (Blk.new' rfl) (by simp [intC, Value.oneCell']) (by omega) (by simp; omega) ?_; intro v' w6 hown6 hgrow6 _)))
      go_roundw
      case rel => exact ⟨k + 1, v', by omega, by go_num, rfl, by rw [hst.out]; exact hown6, ((he.trans hb1).alloc _).grown hgrow6 fun j e => (ho1.lt j e).1⟩
      case measure => simp [intOf]; omega
    · obtain rfl : k = n := by omega
      have hW : W.take k = W := by rw [← hl.out, List.take_length]
      rw [hW] at ho
      obtain ⟨p, c', rfl, hS⟩ := slc_of_own intC_len ho (by decide) (by omega)
      clear ho
      replace hS := Lib.hid hS
      go_wp2
      go_ret2
      exact ⟨⟨p, c', rfl, hS.out⟩, he⟩
set_option maxRecDepth 100000 in
set_option maxHeartbeats 1600000 in
theorem nums_bad (g n c : Nat) (W : List ByteArray) (w : World) (hc : ∀ (j : Nat) x, W[j]? = some x → w.cell? ⟨g, 0 + j, none⟩ = some (.string x)) (hg : g < w.heap.size) (hn : W.length = n) (hn1 : n ≤ 1000) (hs : ∀ x ∈ W, x.size ≤ 1000000) (hw : ∃ x ∈ W, numOk 15 x = false) :
    Calls Tryz.prog 58 #[.slice (some ⟨g, 0, none⟩) n c] w fun e w' => e = .returned (.tuple #[.slice none 0 0, .bool false]) ∧ Ext w w' := by
  have hl := Lib.hid hn
  replace hc := Lib.hid hc
  replace hs := Lib.hid hs
  replace hw := Lib.hid hw
  clear hn
  go_enter Tryz.func58, Tryz.ntmps58
  go_wp2
  go_loopw [4, 11] (fun v4 i wr => ∃ (k : Nat) (v : Value) (L : List Int), k ≤ n ∧ i = .int .i64 k ∧ v4 = v ∧ wr.ownsRow w.heap.size 3 1 v k (L.flatMap intC) ∧ (∀ j x, j < k → W[j]? = some x → numOk 15 x = true) ∧ Ext w wr) (fun _ i _ => n - (intOf i).toNat)
  case atStart => exact ⟨0, _, [], Nat.zero_le _, rfl, rfl, World.ownsRow_nil _ _ _ _, fun j x hj => by omega, Ext.refl _⟩
  case round =>
    obtain ⟨k, v, L, hk, rfl, rfl, ho, hz, he⟩ := hrel
    by_cases hlt : k < n
    · obtain ⟨x, hx⟩ := getD_some hl.out hlt
      obtain ⟨hce, -, -⟩ := he.walk
      have c0 := (hce _ (0 + k) hg).trans (hc.out k x hx)
      rw [Nat.zero_add] at c0
      have hxm := List.mem_of_getElem? hx
      have hnum := fun u => number_any x 15 u (by have := hs.out x hxm; omega) (by decide) (by decide)
      have hkI : (k : Int) < n := by omega
      have hsz := he.size
      have hz2 : numOk 15 x = true → ∀ j y, j < k + 1 → W[j]? = some y → numOk 15 y = true := fun hok j y hj hy => by
        rcases Nat.lt_or_ge j k with h | h
        · exact hz j y h hy
        · obtain rfl : j = k := by omega
          rw [hx] at hy
          cases hy
          exact hok
      replace ho := Lib.hid ho
      replace hz2 := Lib.hid hz2
      clear hx hce hxm hz
      cases hok : numOk 15 x
      · rw [hok] at hnum
        generalize numR 15 x = V at *
        replace hnum := Lib.hid hnum
        clear hok hz2
        go_wp2_with (go_at_call 89; (with_reducible refine Calls.mono (hnum.out _) ?_); rintro e w1 ⟨rfl, hb1⟩)
        go_ret2
        exact ⟨rfl, he.trans hb1⟩
      · rw [hok] at hnum
        replace hz2 := Lib.hid (hz2.out hok)
        generalize numR 15 x = V at *
        replace hnum := Lib.hid hnum
        clear hok
        go_wp2_with (first
          | (go_at_call 89; (with_reducible refine Calls.mono (hnum.out _) ?_); rintro e w1 ⟨rfl, hb1⟩; have ho1 := own_ext hb1 ho.out; have hs1 := hb1.size)
          | (at_builtin; go_loud (refine wp_app1 _ (.tmp 22) (.tmp 24) 22 3 1 8 (.int .i64 0) rfl rfl Tryz.underlying22 intI rfl (by decide) (by decide) w.heap.size _ k _ rfl (ho1.alloc _) w1.heap.size (intC V) rfl rfl (Blk.new' rfl) (by simp [intC, Value.oneCell']) (by omega) (by simp; omega) ?_; intro v' w6 hown6 hgrow6 _)))
        go_roundw
        case rel => exact ⟨k + 1, v', L ++ [V], by omega, by go_num, rfl, by rw [List.flatMap_append]; simpa using hown6, hz2.out, ((he.trans hb1).alloc _).grown hgrow6 fun j e => (ho1.lt j e).1⟩
        case measure => simp [intOf]; omega
    · exfalso
      obtain ⟨x, hx, e⟩ := hw.out
      obtain ⟨j, hj, rfl⟩ := List.getElem_of_mem hx
      have := hz j _ (by have := hl.out; omega) (List.getElem?_eq_getElem hj)
      rw [e] at this
      cases this
end Go.Proofs.YtachmdaiecbenaaGreatDoor
