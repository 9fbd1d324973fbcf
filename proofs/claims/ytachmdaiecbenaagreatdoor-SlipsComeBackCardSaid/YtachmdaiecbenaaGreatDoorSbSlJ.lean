/- A text of slips is read: the walk of copies.Read. Conditions: sizes. -/
import Derived.Test.YtachmdaiecbenaaGreatDoorSbSlI
set_option linter.unusedSimpArgs false
set_option linter.unusedVariables false
namespace Go.Proofs.YtachmdaiecbenaaGreatDoor
open Go Go.RowKit

set_option maxRecDepth 100000 in
set_option maxHeartbeats 6400000 in
theorem read_any (B : Nat) (s : ByteArray) (w : World) (hs : s.size ≤ 1000000) (hm : MaxL B w) :
    Calls Tryz.prog 7 #[.string s] w (ReadR s.data.toList w) := by
  have hsl : s.data.toList.length = s.size := Array.length_toList
  by_cases hbig : 200000 < s.size
  · have hres := readR_none (t := s.data.toList) (i := 0) (f := 2) (by unfold readT; rw [if_pos (by omega)]) (Ext.refl w)
    replace hres := Lib.hid hres
    clear hsl hm
    go_enter Tryz.func7, Tryz.ntmps7
    go_wp2
    go_ret3
    exact hres.out
  have hln := lines_uni s B w (by omega) hm
  have hbadE : ∀ k x, (linesB s.data.toList)[k]? = some x → badL (linesF s.data.toList) (endedF s.data.toList) k = ((lineF x.data.toList).isNone || (!endedF s.data.toList && decide (k + 1 = (linesB s.data.toList).length))) := fun k x hx => bad_of hx _
  have hsz : ∀ (k : Nat) (x : ByteArray), (linesB s.data.toList)[k]? = some x → x.size ≤ 200000 := fun k x hx => by
    have h1 := linesF_size (List.mem_of_getElem? (linesB_at hx))
    have h2 : x.data.toList.length = x.size := Array.length_toList
    omega
  have hfm : ∀ k x y, (linesB s.data.toList)[k]? = some x → lineF x.data.toList = some y → ((linesF s.data.toList).take (k + 1)).filterMap lineF = ((linesF s.data.toList).take k).filterMap lineF ++ [y] := fun k x y hx hy => by
    rw [take_snocL (linesB_at hx), List.filterMap_append, List.filterMap_cons, hy]
    rfl
  have hLl := linesB_len s.data.toList
  have hLm := linesF_len s.data.toList
  have hnone : ∀ k w', k < (linesF s.data.toList).length → (∀ i, i < k → badL (linesF s.data.toList) (endedF s.data.toList) i = false) → badL (linesF s.data.toList) (endedF s.data.toList) k = true → Ext w w' → ReadR s.data.toList w (.returned (.tuple #[.slice none 0 0, .int .i64 (k : Int), .int .i64 9])) w' := fun k w' hk hz hb he =>
    readR_none (by unfold readT; rw [if_neg (by omega), badAt_some hk hz hb]) he
  have hall : (∀ i, i < (linesF s.data.toList).length → badL (linesF s.data.toList) (endedF s.data.toList) i = false) → readT s.data.toList = if slipsF ((linesF s.data.toList).filterMap lineF) = 0 then ((linesF s.data.toList).filterMap lineF, 0, 0) else ([], 0, slipsF ((linesF s.data.toList).filterMap lineF)) := fun h => by
    unfold readT
    rw [if_neg (by omega), badAt_none.2 h]
  obtain ⟨L, hL⟩ : ∃ L, L = linesB s.data.toList := ⟨_, rfl⟩
  obtain ⟨E, hE⟩ : ∃ E, E = endedF s.data.toList := ⟨_, rfl⟩
  rw [← hL, ← hE] at hln
  rw [← hL] at hLl
  simp only [← hL] at hbadE hsz hfm
  replace hln := Lib.hid hln
  replace hbadE := Lib.hid hbadE
  replace hsz := Lib.hid hsz
  replace hfm := Lib.hid hfm
  replace hnone := Lib.hid hnone
  replace hall := Lib.hid hall
  replace hE := Lib.hid hE
  have hLb : L.length ≤ 200001 := by omega
  replace hLl := Lib.hid hLl
  replace hL := Lib.hid hL
  clear hLm
  go_enter Tryz.func7, Tryz.ntmps7
  go_wp2_with (go_at_call 27; (with_reducible refine Calls.mono hln.out ?_); rintro e w1 ⟨p, rfl, hb1, hB1⟩)
  replace hB1 := Lib.hid hB1
  have hsz1 := hb1.size
  go_loopw [7, 23] (fun v7 v23 wr => ∃ (k : Nat) (X : List SlipV) (v : Value), k ≤ L.length ∧ v7 = v ∧ v23 = .int .i64 k ∧ X.length = k ∧ wr.ownsRow w1.heap.size 35 7 v k (X.flatMap slipC) ∧ (∀ x ∈ X, x.Small) ∧ X = ((linesF s.data.toList).take k).filterMap lineF ∧ (∀ i, i < k → badL (linesF s.data.toList) (endedF s.data.toList) i = false) ∧ Ext w1 wr) (fun _ i _ => L.length - (intOf i).toNat)
  case atStart => exact ⟨0, [], _, Nat.zero_le _, rfl, rfl, rfl, World.ownsRow_nil _ _ _ _, (fun x hx => by cases hx), by simp, (fun i hi => absurd hi (Nat.not_lt_zero _)), Ext.refl _⟩
  case round =>
    obtain ⟨k, X, v, hk, rfl, rfl, hX, hown, hsm, hXe, hgood, he⟩ := hrel
    replace hXe := Lib.hid hXe
    replace hsm := Lib.hid hsm
    replace hgood := Lib.hid hgood
    by_cases hlt : k < L.length
    · obtain ⟨x, hx⟩ := getD_some (rfl : L.length = L.length) hlt
      obtain ⟨rfl, hB⟩ := hB1.out (by omega)
      have hBr := hB.ext he
      have hc := cell_of_row hBr hx
      have hxs := hsz.out k x hx
      have hbe := hbadE.out k x hx
      have hmr := hm.ext (hb1.trans he)
      have hgw : w.heap.size < wr.heap.size := hBr.lt
      replace hx := Lib.hid hx
      replace hbe := Lib.hid hbe
      replace hBr := Lib.hid hBr
      cases hlf : lineF x.data.toList with
      | none =>
        have hrl := line_bad (by omega) hmr hlf
        have hbad : badL (linesF s.data.toList) (endedF s.data.toList) k = true := by rw [hbe.out, hlf]; rfl
        have hres := fun w' hw' => hnone.out k w' (by have := hLl.out; omega) hgood.out hbad hw'
        replace hrl := Lib.hid hrl
        replace hres := Lib.hid hres
        replace hlf := Lib.hid hlf
        clear hbad hown
        go_wp2_with (go_at_call 28; (with_reducible refine Calls.mono hrl.out ?_); rintro e w2 ⟨y, rfl, hb2⟩)
        go_ret3
        exact hres.out _ ((((hb1.trans he).trans hb2)).alloc _)
      | some y =>
        have hrl := line_good (by omega) hmr hlf
        have hysm := line_small hlf (by have : x.data.toList.length = x.size := Array.length_toList; omega)
        have hfk := hfm.out k x y hx.out hlf
        replace hrl := Lib.hid hrl
        replace hfk := Lib.hid hfk
        by_cases hend : E = false ∧ k + 1 = L.length
        · obtain ⟨hE0, hk1⟩ := hend
          have hbad : badL (linesF s.data.toList) (endedF s.data.toList) k = true := by rw [hbe.out, ← hE.out, hE0, hlf]; simpa using hk1
          have hres := fun w' hw' => hnone.out k w' (by have := hLl.out; omega) hgood.out hbad hw'
          have hd1 : decide ((k : Int) = (L.length : Int) - 1) = true := by simp; omega
          have hd2 : ((k : Int) == (L.length : Int) - 1) = true := by simp; omega
          replace hk1 := Lib.hid hk1
          replace hres := Lib.hid hres
          replace hlf := Lib.hid hlf
          replace hE := Lib.hid hE
          subst hE0
          clear hbad hown
          go_wp2_with (go_at_call 28; (with_reducible refine Calls.mono hrl.out ?_); rintro e w2 ⟨rfl, hb2⟩)
          go_ret3
          exact hres.out _ ((((hb1.trans he).trans hb2)).alloc _)
        · have hgk : badL (linesF s.data.toList) (endedF s.data.toList) k = false := by
            rw [hbe.out, ← hE.out, hlf]
            cases E
            · simpa using fun h => hend ⟨rfl, h⟩
            · rfl
          have hgood2 : ∀ i, i < k + 1 → badL (linesF s.data.toList) (endedF s.data.toList) i = false := fun i hi => by
            rcases Nat.lt_succ_iff_lt_or_eq.1 hi with h | rfl
            · exact hgood.out i h
            · exact hgk
          replace hlf := Lib.hid hlf
          replace hgood2 := Lib.hid hgood2
          replace hown := Lib.hid hown
          have hstep : ∀ v' w', w'.ownsRow w1.heap.size 35 7 v' (k + 1) (X.flatMap slipC ++ slipC y) → Ext w1 w' → ∃ (k' : Nat) (X' : List SlipV) (v9 : Value), k' ≤ L.length ∧ v' = v9 ∧ (Value.int .i64 ((k : Int) + 1)) = .int .i64 k' ∧ X'.length = k' ∧ w'.ownsRow w1.heap.size 35 7 v9 k' (X'.flatMap slipC) ∧ (∀ x ∈ X', x.Small) ∧ X' = ((linesF s.data.toList).take k').filterMap lineF ∧ (∀ i, i < k' → badL (linesF s.data.toList) (endedF s.data.toList) i = false) ∧ Ext w1 w' := fun v' w' ho he' =>
            ⟨k + 1, X ++ [y], v', by omega, rfl, by simp, by simp [hX], by rw [flat_snoc]; exact ho, (fun z hz => by
              rcases List.mem_append.1 hz with h | h
              · exact hsm.out z h
              · obtain rfl := List.mem_singleton.1 h; exact hysm), by rw [hfk.out, ← hXe.out], hgood2.out, he'⟩
          replace hstep := Lib.hid hstep
          replace hysm := Lib.hid hysm
          have hkb : k ≤ 200001 := by omega
          cases hEE : E
          · have hk1 : ¬ k + 1 = L.length := fun h => hend ⟨hEE, h⟩
            have hd1 : decide ((k : Int) = (L.length : Int) - 1) = false := by simp; omega
            have hd2 : ((k : Int) == (L.length : Int) - 1) = false := by simp; omega
            have hd3 : ¬ (k : Int) = (L.length : Int) - 1 := by omega
            subst hEE
            go_wp2_with (first
              | (go_at_call 28; (with_reducible refine Calls.mono hrl.out ?_); rintro e w2 ⟨rfl, hb2⟩; have hown2 := ((own_ext hb2 hown.out).alloc (.cells (slipC y).toArray 35)).alloc (.cells (slipC y).toArray 35); have he2 := ((he.trans hb2).alloc (.cells (slipC y).toArray 35)).alloc (.cells (slipC y).toArray 35))
              | (at_builtin; go_loud (refine wp_app1 _ (.tmp 47) (.tmp 49) 26 35 7 80 _ rfl rfl Tryz.underlying26 sliInfo rfl (by decide) (by decide) w1.heap.size _ k _ rfl hown2 _ (slipC y) rfl rfl (Blk.new' (by simp)) (slipC_one _) (by omega) (by exact he2.size) ?_; intro v' w6 hown6 hgrow6 _; have he6 := he2.app hown2 (Nat.le_refl _) hgrow6)))
            go_roundw
            case rel => exact hstep.out _ _ hown6 he6
            case measure => simp [intOf]; omega
          · subst hEE
            go_wp2_with (first
              | (go_at_call 28; (with_reducible refine Calls.mono hrl.out ?_); rintro e w2 ⟨rfl, hb2⟩; have hown2 := ((own_ext hb2 hown.out).alloc (.cells (slipC y).toArray 35)).alloc (.cells (slipC y).toArray 35); have he2 := ((he.trans hb2).alloc (.cells (slipC y).toArray 35)).alloc (.cells (slipC y).toArray 35))
              | (at_builtin; go_loud (refine wp_app1 _ (.tmp 47) (.tmp 49) 26 35 7 80 _ rfl rfl Tryz.underlying26 sliInfo rfl (by decide) (by decide) w1.heap.size _ k _ rfl hown2 _ (slipC y) rfl rfl (Blk.new' (by simp)) (slipC_one _) (by omega) (by exact he2.size) ?_; intro v' w6 hown6 hgrow6 _; have he6 := he2.app hown2 (Nat.le_refl _) hgrow6)))
            go_roundw
            case rel => exact hstep.out _ _ hown6 he6
            case measure => simp [intOf]; omega
    · obtain rfl : k = L.length := by omega
      have htk : X = (linesF s.data.toList).filterMap lineF := by rw [hXe.out, hLl.out, List.take_length]
      have hR := hall.out (fun i hi => hgood.out i (by rw [hLl.out]; exact hi))
      rw [← htk] at hR
      obtain ⟨q, c, rfl, hS⟩ := slc_of_own slipC_len hown (by decide) (by omega)
      have hck := checkSlips_any q L.length c X wr hS.1 hsm.out (by omega)
      have hend : ∀ w', Ext wr w' → Ext w w' := fun w' h => hb1.trans (he.trans h)
      replace hend := Lib.hid hend
      clear htk
      by_cases hq : slipsF X = 0
      · rw [if_pos hq] at hR
        rw [hq] at hck
        have hres : ∀ w', Ext wr w' → ReadR s.data.toList w (.returned (.tuple #[.slice q L.length c, .int .i64 0, .int .i64 0])) w' := fun w' h => by
          unfold ReadR
          rw [hR]
          exact ⟨q, L.length, c, rfl, hX, hLb, own_low (own_ext h hown) hsz1, hsm.out, hend.out w' h⟩
        replace hres := Lib.hid hres
        replace hck := Lib.hid hck
        replace hR := Lib.hid hR
        replace hown := Lib.hid hown
        replace hX := Lib.hid hX
        replace hq := Lib.hid hq
        go_wp2_with (go_at_call 20; (with_reducible refine Calls.mono hck.out ?_); rintro e w2 ⟨rfl, hb2⟩)
        go_ret3
        exact hres.out _ hb2
      · rw [if_neg hq] at hR
        have hres := fun w' (h : Ext wr w') => readR_none hR (hend.out w' h)
        generalize slipsF X = f at *
        replace hres := Lib.hid hres
        replace hck := Lib.hid hck
        replace hR := Lib.hid hR
        replace hown := Lib.hid hown
        replace hX := Lib.hid hX
        go_wp2_with (go_at_call 20; (with_reducible refine Calls.mono hck.out ?_); rintro e w2 ⟨rfl, hb2⟩)
        go_ret3
        exact hres.out _ hb2
end Go.Proofs.YtachmdaiecbenaaGreatDoor
