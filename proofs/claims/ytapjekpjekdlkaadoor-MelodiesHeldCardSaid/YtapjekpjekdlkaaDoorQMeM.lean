/- All intervals that the last note can have, by tune's text. Conditions: steps and notes lie in memory, no more than 40 steps. -/
import Derived.Test.YtapjekpjekdlkaaDoorQMeL
import Derived.Test.YtapjekpjekdlkaaDoorQJ40
set_option linter.unusedSimpArgs false
set_option linter.unusedVariables false
namespace Go.Proofs.YtapjekpjekdlkaaDoor
open Go Go.RowKit Go.Maps

theorem ivInfo : (Tryd.prog.info? 30).map (fun i => (i.zero, i.size, i.bytes)) = some (some (.agg #[.int .i64 0, .int .i64 0, .int .i64 0, .int .i64 0]), 4, 32) := by kernel_rfl
/-- What Ends answers. -/
def EndsPost (w : World) (X : List StepV) (m : List Int) (ex : Ending) (w' : World) : Prop :=
  Ext w w' ∧ ((melF X m ≠ 0 ∧ ex = .returned (.tuple #[.slice none 0 0, .int .i64 (melF X m)])) ∨ (melF X m = 0 ∧ Crowd (melC X m) ∧ ex = .returned (.tuple #[.slice none 0 0, .int .i64 12])) ∨
    (melF X m = 0 ∧ ∃ (v : Value) (L : List I4), ex = .returned (.tuple #[v, .int .i64 0]) ∧ w'.ownsRow w.heap.size 30 4 v L.length (L.flatMap i4C) ∧ RiseI L ∧ (∀ x, x ∈ L ↔ Rch (melC X m) (melC X m).length x) ∧ L.length ≤ 20000))
set_option maxRecDepth 100000 in
set_option maxHeartbeats 6400000 in
theorem ends_any {p : Option Addr} {n c : Nat} {X : List StepV} {w : World} (h : StpM w p n c X) {np : Option Addr} {nn nc : Nat} {m : List Int} (hm : Slc 1 intC w np nn nc m) (hm40 : m.length ≤ 40) :
    Calls Tryd.prog 12 #[.slice p n c, .slice np nn nc] w (EndsPost w X m) := by
  have hmo := melodyOf_any h hm
  replace hmo := Lib.hid hmo
  go_enter Tryd.func12, Tryd.ntmps12
  go_upto_region 2 with (go_at_call 32; (with_reducible refine Calls.mono hmo.out ?_); rintro ex w1 ⟨hb1, hcs⟩; rcases hcs with ⟨hme, rfl⟩ | ⟨hme, v, rfl, hC⟩)
  · go_wp2
    go_ret2
    exact ⟨hb1, .inl ⟨hme, rfl⟩⟩
  · have hs0 := mel_steps hme
    obtain ⟨hCR, hC4⟩ := melC_right (m := m) hs0
    have hCl : (melC X m).length ≤ 40 := by rw [melC_len]; omega
    obtain ⟨cp, cc, rfl, hRows⟩ := hC.rows hb1 (by omega)
    clear hC hmo
    generalize hCC : melC X m = C at *
    have hways := ways_any hRows (by omega) (fun r hr => Nat.le_trans (hC4 r hr) (by decide))
    replace hways := Lib.hid hways
    go_upto_region 8 with (first
      | (go_at_call 34; (with_reducible refine Calls.mono (longFault_any _ _ _ _ hCl) ?_); rintro ex w3 ⟨rfl, rfl⟩)
      | (go_at_call 35; (with_reducible refine Calls.mono hways.out ?_); rintro ex w4 ⟨hb4, hcw⟩; rcases hcw with ⟨vb, vc, vs, rfl, hM⟩ | ⟨rfl, hcr⟩))
    · have hE4 := hb1.trans hb4
      obtain ⟨b, ks, f, hvs, hO, hT, hn⟩ := hM.at_ C.length (Nat.lt_succ_self _)
      have cm := hM.cell (Nat.lt_succ_self C.length)
      rw [hvs] at cm
      have hvb := hM.lt
      have hCI : (C.length : Int) < C.length + 1 := by omega
      clear hways hRows hb4
      go_wp2_with (at_range; go_loud (refine wpList_range_X (M := ivB) _ rfl _ rfl b ks.length f rfl hO.1 ?_; intro w6 hr6 hg6 hs6))
      go_frame
      have hE6 : Ext w4 w6 := (Ext.refl w4).grown hg6 fun k e => by cases e
      replace hr6 := Lib.hid hr6
      replace hE6 := Lib.hid hE6
      clear hg6 hs6
      go_loopw [10] (fun v10 wr => ∃ (seen : List I4) (cnt : Nat), RngX ivB wr b w4.heap.size ks.length f seen cnt ∧ wr.ownsRow (w4.heap.size + 1) 30 4 v10 seen.length (seen.flatMap i4C) ∧ seen.Nodup ∧ Ext w4 wr) (fun _ wr => wr.rangeLeft b w4.heap.size)
      case atStart => exact ⟨[], ks.length, hr6.out, World.ownsRow_nil _ _ _ _, List.nodup_nil, hE6.out⟩
      case round =>
        clear hr6 hE6
        obtain ⟨seen, cnt, hR, hown, hnd, hE⟩ := hrel
        obtain ⟨hoks, hcn⟩ := hR.oks
        have hRl0 := hR.left_eq
        have hbw := hO.lt
        go_wp2_with (at_next; go_loud (refine wpList_next_X (M := ivB) _ rfl _ rfl boolRd_shape datB_inj b w4.heap.size ks.length f seen cnt rfl hR ?_ ?_))
        · intro hc0 hall
          have hsome : ∀ i, (f i).isSome = true ↔ Rch C C.length i := fun i => by
            rw [← (hT i).1]
            rcases (hT i).2 with h | h <;> simp [h]
          have hs : ∀ x, x ∈ seen ↔ Rch C C.length x := fun x => ⟨fun hx => (hsome x).1 ((hall x (hoks x hx)).1 hx), fun hx => (hall x (okK_right (rch_right hx))).2 ((hsome x).2 hx)⟩
          have hrt : ∀ x ∈ seen, rightB x = true := fun x hx => rch_right ((hs x).1 hx)
          have hE9 := hE4.trans hE
          by_cases h0 : seen.length = 0
          · obtain rfl : seen = [] := List.eq_nil_of_length_eq_zero h0
            have hv : u10 = .slice none 0 0 ∨ ∃ g cap, u10 = .slice (some ⟨g, 0, none⟩) 0 cap := by
              rcases hown.2 with ⟨hv, _⟩ | ⟨g, cap, cur, hv, _⟩
              · exact .inl hv
              · exact .inr ⟨g, cap, hv⟩
            have hfin := own_low hown (Nat.le_succ_of_le hE4.size)
            have hso : ∀ u fv, Calls Tryd.prog 29 #[u10, fv] u fun e w' => e = .returned (.tuple #[]) ∧ u = w' := fun u fv => by
              rcases hv with rfl | ⟨g, cap, rfl⟩
              · exact sortNone_any _ _ _ _
              · exact sortNone_any _ _ _ _
            replace hso := Lib.hid hso
            go_wp2_with (go_at_call 29; (with_reducible refine Calls.mono (hso.out _ _) ?_); rintro ex w9 ⟨rfl, rfl⟩)
            go_ret2
            exact ⟨hE9, .inr (.inr ⟨hme, _, [], rfl, hfin, List.Pairwise.nil, by rw [hCC]; exact hs, by simp⟩)⟩
          · obtain ⟨g, cap, rfl, hgb, -⟩ := hown.form (by omega)
            have hso := sortI_any hown rfl (by omega) hrt hnd
            replace hso := Lib.hid hso
            go_wp2_with (go_at_call 29; (with_reducible refine Calls.mono hso.out ?_); rintro ex w9 ⟨rfl, M, hp, hri, ho9, hx9⟩)
            go_ret2
            have hMl : M.length = seen.length := hp.length_eq
            exact ⟨hx9 w hE9 (Nat.le_trans hE4.size (by omega)), .inr (.inr ⟨hme, _, M, rfl, own_low (by rw [hMl]; exact ho9) (Nat.le_succ_of_le hE4.size), hri, fun x => by rw [hCC, hp.mem_iff]; exact hs x, by omega⟩)⟩
        · intro i u w7 cnt2 hio his hin hrg2 hlt2 hg2 hs2 hen
          rw [show ivB.kv i = Value.agg #[.int .i64 i.a, .int .i64 i.b, .int .i64 i.c, .int .i64 i.d] from rfl] at hen ⊢
          have hgr : u10.ownBlock ≠ some w4.heap.size := fun e => by have := (hown.lt _ e).1; omega
          have hrl := hrg2.lt.1
          have hown7 := hown.kept hg2 (.inr hgr)
          have hE7 : Ext w4 w7 := hE.grown hg2 fun k e => by cases e; exact Nat.le_refl _
          have hEa : Ext w7 ((w7.alloc (.cells #[.int .i64 i.a, .int .i64 i.b, .int .i64 i.c, .int .i64 i.d] 30)).alloc (.cells #[.int .i64 i.a, .int .i64 i.b, .int .i64 i.c, .int .i64 i.d] 30)) := ((Ext.refl _).alloc _).alloc _
          have ho8 := own_ext hEa hown7
          have hR8 := hrg2.ext hEa
          have hE8 := hE7.trans hEa
          have hz8 := hR8.lt.1
          have hsl := hrg2.oks.2
          rw [List.length_append, List.length_singleton] at hsl
          clear hR hown hE hg2 hs2 hown7 hE7 hrg2 hEa
          go_wp2_with (at_builtin; go_loud (refine wp_app1 _ (.tmp 44) (.tmp 46) 35 30 4 32 _ rfl rfl Tryd.underlying35 ivInfo rfl (by decide) (by decide) (w4.heap.size + 1) _ seen.length _ rfl ho8 (w7.heap.size + 1) (i4C i) rfl rfl (Blk.new' (by simp)) (i4C_one i) (by omega) hz8 ?_; intro v9 w9 hown9 hgrow9 _))
          have hsn : (seen ++ [i]).flatMap i4C = seen.flatMap i4C ++ i4C i := by rw [List.flatMap_append]; rfl
          have hnd2 : (seen ++ [i]).Nodup := List.nodup_append.2 ⟨hnd, by simp, fun a ha b hb e => by rw [List.mem_singleton] at hb; subst hb; subst e; exact hin ha⟩
          have hgr9 : ∀ row, row = (u10).ownBlock → row ≠ some b ∧ row ≠ some w4.heap.size := fun row e => by
            subst e
            refine ⟨own_mapX_ne hR8.owns ho8, fun e => ?_⟩
            have := (ho8.lt _ e).1
            omega
          have hR9 := hR8.kept hgrow9 (fun e => (hgr9 _ rfl).1 e.symm) (fun e => (hgr9 _ rfl).2 e.symm)
          have hRl9 := hR9.left_eq
          have hE9 := hE8.grown hgrow9 fun j e => by have := (ho8.lt j e).1; omega
          go_roundw
          case rel => exact ⟨seen ++ [i], cnt2, hR9, by rw [hsn, List.length_append, List.length_singleton]; exact hown9, hnd2, hE9⟩
          case measure => omega
    · go_wp2
      go_ret2
      exact ⟨hb1.trans hb4, .inr (.inl ⟨hme, by rw [hCC]; exact hcr, rfl⟩)⟩
end Go.Proofs.YtapjekpjekdlkaaDoor
