/- Stands the other way round: the program's walk. Conditions: people, a stage and stands are right. -/
import Derived.Test.YtfcoeikekbjgpaaGreatDoorSxJ33
import Derived.Test.YtfcoeikekbjgpaaGreatDoorSxJ21
import Derived.Shelf.SlSortCmp.NoneTotal
set_option linter.unusedSimpArgs false
set_option linter.unusedVariables false
namespace Go.Proofs.YtfcoeikekbjgpaaGreatDoor
open Go Go.RowKit Go.Sort

theorem mir_apart {P : List PersonV} {wide high : List Int} {S : List StandV} (h : standsF P wide high S = 0) : (S.map (mirS wide)).Pairwise Apart := by
  rw [List.pairwise_map]
  refine (standsF_right h).2.2.2.1.imp fun {a b} hab k => ?_
  obtain ⟨k1, k2⟩ := k
  have k1 : a.row = b.row := k1
  have k2 : wide.getD a.row.toNat 0 - 1 - a.place = wide.getD b.row.toNat 0 - 1 - b.place := k2
  rw [k1] at k2
  unfold ltV at hab
  simp at hab
  omega
set_option maxRecDepth 100000 in
set_option maxHeartbeats 3200000 in
theorem mirror_own (pp : Option Addr) (pc : Nat) (P : List PersonV) (wp : Option Addr) (wc : Nat) (wide : List Int) (hp : Option Addr) (hc : Nat) (high : List Int) (lp : Option Addr) (lc : Nat) (S : List StandV) (w : World) (hM : PsM w pp pc P wp wc wide hp hc high lp lc S) (hz : standsF P wide high S = 0) :
    Calls Tryz.prog 25 #[.slice pp P.length pc, .agg #[.slice wp wide.length wc, .slice hp high.length hc], .slice lp S.length lc] w fun e w' => ∃ (v : Value) (T : List StandV), e = .returned (.tuple #[v, .int .i64 0]) ∧ T.Perm (S.map (mirS wide)) ∧ T.Pairwise (fun a b => ltV a b = true) ∧ w'.ownsRow w.heap.size 48 3 v S.length (T.flatMap staC) ∧ Ext w w' := by
  have hnS := hM.nS
  have hE0 : Ext w (w.alloc (.cells #[.slice wp wide.length wc, .slice hp high.length hc] 29)) := (Ext.refl _).alloc _
  have hB0 : Blk (w.alloc (.cells #[.slice wp wide.length wc, .slice hp high.length hc] 29)) w.heap.size 29 #[.slice wp wide.length wc, .slice hp high.length hc] := Blk.new' rfl
  have hck := hM.check hz _ hE0
  have hcl := fun u (hu : Ext w u) => cloneSta_any lp S.length lc S u (hM.sta.ext hu) hnS
  obtain ⟨-, -, hAt, hSr, -⟩ := standsF_right hz
  have hap := mir_apart hz
  have hwo := (standsF_ok hz).1.wo
  have hon := (standsF_ok hz).1.on
  have hL := hM.wid
  replace hck := Lib.hid hck
  replace hcl := Lib.hid hcl
  by_cases h0 : S.length = 0
  · have hx : S = [] := List.eq_nil_of_length_eq_zero h0
    subst hx
    clear h0 hM hz hAt hSr hap hon hwo hL
    go_enter Tryz.func25, Tryz.ntmps25
    go_wp2_with (first
      | (go_at_call 62; (with_reducible refine Calls.mono hck.out ?_); rintro e w1 ⟨rfl, hb1⟩)
      | (go_at_call 63; (with_reducible refine Calls.mono (hcl.out _ (by exact hE0.trans hb1)) ?_); rintro e w2 ⟨v, rfl, hown, hb2⟩; obtain ⟨q, c, rfl, hS'⟩ := slc_of_own staC_len hown (by decide) (by omega)))
    refine wp_loop_rounds 1 ?_
    rw [rounds_succ]
    go_wp2_with (go_at_call 64; refine (AnyF.slices_SortFunc_none Tryz.lsfStand _ _ _ _).mono ?_; rintro e w3 ⟨rfl, rfl⟩)
    go_ret2
    exact ⟨_, [], rfl, List.Perm.refl _, List.Pairwise.nil, ⟨hown.1, hown.2.imp id fun ⟨g, cap, cur, hv, hg, r⟩ => ⟨g, cap, cur, hv, Nat.le_trans (hE0.trans hb1).size hg, r⟩⟩, hE0.trans (hb1.trans hb2)⟩
  · have hn0 : 0 < S.length := by omega
    replace h0 := Lib.hid h0
    replace hap := Lib.hid hap
    replace hSr := Lib.hid hSr
    go_enter Tryz.func25, Tryz.ntmps25
    go_wp2_with (first
      | (go_at_call 62; (with_reducible refine Calls.mono hck.out ?_); rintro e w1 ⟨rfl, hb1⟩; have hB1 := hB0.ext hb1; have hE1 := hE0.trans hb1; obtain ⟨y1, -⟩ := hB1.walk; have yl := hB1.lt)
      | (go_at_call 63; (with_reducible refine Calls.mono (hcl.out _ (by exact hE1)) ?_); rintro e w2 ⟨v, rfl, hown, hb2⟩; obtain ⟨g, cap, rfl, -, -⟩ := hown.form hn0))
    have hB2 := hB1.ext hb2
    have hE2 := hE1.trans hb2
    have hgw : w.heap.size + 1 ≤ g := by have := (hown.lt g rfl).1; have := hb1.size; simp at this; omega
    have hne : g ≠ w.heap.size := by omega
    replace hown := Lib.hid hown
    clear hck hcl hB0 hB1 hE0 hE1 hb1 hb2 y1 yl
    generalize hbase : w1.heap.size = base at *
    go_loopw [23] (fun v23 wr => ∃ k : Nat, v23 = .int .i64 k ∧ k ≤ S.length ∧ wr.ownsRow base 48 3 (.slice (some ⟨g, 0, none⟩) S.length cap) S.length (((S.map (mirS wide)).take k ++ S.drop k).flatMap staC) ∧ Blk wr w.heap.size 29 #[.slice wp wide.length wc, .slice hp high.length hc] ∧ Ext w wr) (fun v23 _ => S.length - (intOf v23).toNat)
    case atStart => exact ⟨0, rfl, Nat.zero_le _, by simpa using hown.out, hB2, hE2⟩
    case round =>
      clear hown hB2 hE2
      obtain ⟨k, rfl, hk, ho, hB, hE⟩ := hrel
      by_cases hlt : k < S.length
      · obtain ⟨x, hx⟩ := getD_some (rfl : S.length = S.length) hlt
        have hxm := List.mem_of_getElem? hx
        obtain ⟨a1, a2, a3, a4⟩ := hon x hxm
        obtain ⟨r, hr⟩ : ∃ r : Nat, x.row = r := ⟨x.row.toNat, by omega⟩
        obtain ⟨v, hv⟩ := getD_some (rfl : wide.length = wide.length) (show r < wide.length by omega)
        have hvb := hwo.2 v (List.mem_of_getElem? hv)
        have hmx : mirS wide x = ⟨x.name, x.row, v - 1 - x.place⟩ := by
          unfold mirS
          rw [hr, Int.toNat_natCast, List.getD_eq_getElem?_getD, hv]
          rfl
        have hkI : (k : Int) < S.length := by omega
        have hrI : (r : Int) < wide.length := by omega
        have hmid : ((S.map (mirS wide)).take k ++ S.drop k)[k]? = some x := by
          have h1 : ((S.map (mirS wide)).take k).length = k := by rw [List.length_take, List.length_map]; omega
          rw [List.getElem?_append_right (by omega), h1, Nat.sub_self, List.getElem?_drop]
          simpa using hx
        have hst := set_take_drop (xs := S) (ys := S.map (mirS wide)) (k := k) (y := mirS wide x) (by simp) (by rw [List.getElem?_map, hx]; rfl)
        have c0 : wr.cell? ⟨g, k * 3, none⟩ = some (.string x.name) := own_cell staC_len ho hmid 0 rfl hlt
        have c1 : wr.cell? ⟨g, k * 3 + 1, none⟩ = some (.int .i64 r) := by rw [← hr]; exact own_cell staC_len ho hmid 1 rfl hlt
        have c2 : wr.cell? ⟨g, k * 3 + 2, none⟩ = some (.int .i64 x.place) := own_cell staC_len ho hmid 2 rfl hlt
        have hgl := (ho.lt g rfl).2
        rcases (slcC hL).2 with ⟨-, e⟩ | ⟨wb, wo, rfl, hwb, hwE⟩
        · rw [e] at hv; cases hv
        have hY := Blk.new' (w := wr) (t := 48) (cs := #[.string x.name, .int .i64 r, .int .i64 x.place]) rfl
        have hE3 := hE.alloc (.cells #[.string x.name, .int .i64 r, .int .i64 x.place] 48)
        have hB3 := hB.alloc (.cells #[.string x.name, .int .i64 r, .int .i64 x.place] 48)
        have ho3 := ho.alloc (.cells #[.string x.name, .int .i64 r, .int .i64 x.place] 48)
        have d1 := (hwE.ext hE3 hwb).int hv
        have hwb3 := Nat.lt_of_lt_of_le hwb hE3.size
        have hw1 : IntKind.i64.wrap (v - 1) = v - 1 := IntWalk.i64_in _ (by omega)
        have hw2 : IntKind.i64.wrap (v - 1 - x.place) = v - 1 - x.place := IntWalk.i64_in _ (by omega)
        replace hmid := Lib.hid hmid
        replace hst := Lib.hid hst
        replace ho3 := Lib.hid ho3
        replace hmx := Lib.hid hmx
        replace hr := Lib.hid hr
        clear ho hx hwE hv
        go_upto_region 8 with fail
        clear c0 c1 c2
        generalize wr.alloc (.cells #[.string x.name, .int .i64 r, .int .i64 x.place] 48) = W at *
        generalize wr.heap.size = gy at *
        refine wp_region_facts [] [([], false, false), ([], false, false), ([], false, false), ([2], false, false), ([], false, false), ([4], false, false), ([2, 3, 4, 5], false, false), ([2, 3, 4, 5, 6], false, false), ([2, 3, 4, 5, 6, 7], false, false), ([], false, false), ([9], false, false), ([2, 3, 4, 5, 6, 7, 8, 9, 10], false, false), ([0, 1], false, false), ([0, 1, 12], false, false)] (Ext) Ext (fun _ => True) (by kernel_rfl) (by kernel_rfl) Ext.refl (fun _ _ _ => Ext.trans) (fun _ _ h => h) (fun _ _ h => h.size) (fun _ _ h _ => h) trivial ?_
        dsimp only [List.length_cons, List.length_nil, List.drop_succ_cons, List.drop_zero, List.drop_nil]
        refine fac_quiet 0 rfl rfl rfl (fun _ _ h _ => h) rfl rfl ?_
        apply Exists.intro
        refine ⟨fun sv w' hw' hfa => ?_, ?_⟩
        · refine ⟨rfl, ?_⟩
          simp only [putsL]
          change quietTo _ _ _ _ (Sem.run _ (execOp (Act.eval _) _) _)
          try simp only [Act.put, List.setIfInBounds_toArray, List.set_cons_succ, List.set_cons_zero]
          simp [go_sem, quietTo, Ext.refl]
          all_goals first
            | rfl
        refine fac_quiet 1 rfl rfl rfl (fun _ _ h _ => h) rfl rfl ?_
        apply Exists.intro
        refine ⟨fun sv w' hw' hfa => ?_, ?_⟩
        · refine ⟨rfl, ?_⟩
          simp only [putsL]
          change quietTo _ _ _ _ (Sem.run _ (execOp (Act.eval _) _) _)
          try simp only [Act.put, List.setIfInBounds_toArray, List.set_cons_succ, List.set_cons_zero]
          simp [go_sem, quietTo, Ext.refl]
          all_goals first
            | rfl
        refine fac_quiet 2 rfl rfl rfl (fun _ _ h _ => h) rfl rfl ?_
        apply Exists.intro
        refine ⟨fun sv w' hw' hfa => ?_, ?_⟩
        · refine ⟨rfl, ?_⟩
          simp only [putsL]
          change quietTo _ _ _ _ (Sem.run _ (execOp (Act.eval _) _) _)
          try simp only [Act.put, List.setIfInBounds_toArray, List.set_cons_succ, List.set_cons_zero]
          simp [go_sem, quietTo, Ext.refl]
          all_goals first
            | rfl
        refine fac_quiet 3 rfl rfl rfl (fun _ _ h _ => h) rfl rfl ?_
        apply Exists.intro
        refine ⟨fun sv w' hw' hfa => ?_, ?_⟩
        · obtain ⟨f2, -⟩ := hfa
          replace f2 : sv 2 = _ := f2
          try dsimp only at f2
          have hk9 := (Ext.refl W).drew.trans hw'; obtain ⟨y1, -⟩ := (hB3.ext hk9).walk; obtain ⟨y2, -⟩ := (hY.ext hk9).walk; obtain ⟨hc9, hff, hz9⟩ := hk9.walk; have y3 := (hc9 _ _ hwb3).trans d1
          refine ⟨rfl, ?_⟩
          simp only [putsL]
          change quietTo _ _ _ _ (Sem.run _ (execOp (Act.eval (Act.put _ (some 30) (sv 2))) _) _)
          try simp only [Act.put, List.setIfInBounds_toArray, List.set_cons_succ, List.set_cons_zero]
          simp [go_sem, quietTo, Ext.refl, ↓IntWalk.iteOmega, f2, y1]
          all_goals try simp (disch := omega) only [IntWalk.i64_in]
          all_goals first
            | rfl
        refine fac_quiet 4 rfl rfl rfl (fun _ _ h _ => h) rfl rfl ?_
        apply Exists.intro
        refine ⟨fun sv w' hw' hfa => ?_, ?_⟩
        · refine ⟨rfl, ?_⟩
          simp only [putsL]
          change quietTo _ _ _ _ (Sem.run _ (execOp (Act.eval _) _) _)
          try simp only [Act.put, List.setIfInBounds_toArray, List.set_cons_succ, List.set_cons_zero]
          simp [go_sem, quietTo, Ext.refl]
          all_goals first
            | rfl
        refine fac_quiet 5 rfl rfl rfl (fun _ _ h _ => h) rfl rfl ?_
        apply Exists.intro
        refine ⟨fun sv w' hw' hfa => ?_, ?_⟩
        · obtain ⟨f4, -⟩ := hfa
          replace f4 : sv 4 = _ := f4
          try dsimp only at f4
          have hk9 := (Ext.refl W).drew.trans hw'; obtain ⟨y1, -⟩ := (hB3.ext hk9).walk; obtain ⟨y2, -⟩ := (hY.ext hk9).walk; obtain ⟨hc9, hff, hz9⟩ := hk9.walk; have y3 := (hc9 _ _ hwb3).trans d1
          refine ⟨rfl, ?_⟩
          simp only [putsL]
          change quietTo _ _ _ _ (Sem.run _ (execOp (Act.eval (Act.put _ (some 32) (sv 4))) _) _)
          try simp only [Act.put, List.setIfInBounds_toArray, List.set_cons_succ, List.set_cons_zero]
          simp [go_sem, quietTo, Ext.refl, ↓IntWalk.iteOmega, f4, y2]
          all_goals try simp (disch := omega) only [IntWalk.i64_in]
          all_goals first
            | rfl
        refine fac_quiet 6 rfl rfl rfl (fun _ _ h _ => h) rfl rfl ?_
        apply Exists.intro
        refine ⟨fun sv w' hw' hfa => ?_, ?_⟩
        · obtain ⟨_, f3, _, f5, -⟩ := hfa
          replace f3 : sv 3 = _ := f3
          try dsimp only at f3
          replace f5 : sv 5 = _ := f5
          try dsimp only at f5
          have hk9 := (Ext.refl W).drew.trans hw'; obtain ⟨y1, -⟩ := (hB3.ext hk9).walk; obtain ⟨y2, -⟩ := (hY.ext hk9).walk; obtain ⟨hc9, hff, hz9⟩ := hk9.walk; have y3 := (hc9 _ _ hwb3).trans d1
          refine ⟨rfl, ?_⟩
          simp only [putsL]
          change quietTo _ _ _ _ (Sem.run _ (execOp (Act.eval (Act.put (Act.put (Act.put (Act.put _ (some 33) (sv 5)) (some 32) (sv 4)) (some 31) (sv 3)) (some 30) (sv 2))) _) _)
          try simp only [Act.put, List.setIfInBounds_toArray, List.set_cons_succ, List.set_cons_zero]
          simp [go_sem, quietTo, Ext.refl, ↓IntWalk.iteOmega, f3, f5, hrI]
          all_goals try simp (disch := omega) only [IntWalk.i64_in]
          all_goals first
            | rfl
        refine fac_quiet 7 rfl rfl rfl (fun _ _ h _ => h) rfl rfl ?_
        apply Exists.intro
        refine ⟨fun sv w' hw' hfa => ?_, ?_⟩
        · obtain ⟨_, _, _, _, f6, -⟩ := hfa
          replace f6 : sv 6 = _ := f6
          try dsimp only at f6
          have hk9 := (Ext.refl W).drew.trans hw'; obtain ⟨y1, -⟩ := (hB3.ext hk9).walk; obtain ⟨y2, -⟩ := (hY.ext hk9).walk; obtain ⟨hc9, hff, hz9⟩ := hk9.walk; have y3 := (hc9 _ _ hwb3).trans d1
          refine ⟨rfl, ?_⟩
          simp only [putsL]
          change quietTo _ _ _ _ (Sem.run _ (execOp (Act.eval (Act.put (Act.put (Act.put (Act.put (Act.put _ (some 34) (sv 6)) (some 33) (sv 5)) (some 32) (sv 4)) (some 31) (sv 3)) (some 30) (sv 2))) _) _)
          try simp only [Act.put, List.setIfInBounds_toArray, List.set_cons_succ, List.set_cons_zero]
          simp [go_sem, quietTo, Ext.refl, ↓IntWalk.iteOmega, f6, y3]
          all_goals try simp (disch := omega) only [IntWalk.i64_in]
          all_goals first
            | rfl
        refine fac_quiet 8 rfl rfl rfl (fun _ _ h _ => h) rfl rfl ?_
        apply Exists.intro
        refine ⟨fun sv w' hw' hfa => ?_, ?_⟩
        · obtain ⟨_, _, _, _, _, f7, -⟩ := hfa
          replace f7 : sv 7 = _ := f7
          try dsimp only at f7
          have hk9 := (Ext.refl W).drew.trans hw'; obtain ⟨y1, -⟩ := (hB3.ext hk9).walk; obtain ⟨y2, -⟩ := (hY.ext hk9).walk; obtain ⟨hc9, hff, hz9⟩ := hk9.walk; have y3 := (hc9 _ _ hwb3).trans d1
          refine ⟨rfl, ?_⟩
          simp only [putsL]
          change quietTo _ _ _ _ (Sem.run _ (execOp (Act.eval (Act.put (Act.put (Act.put (Act.put (Act.put (Act.put _ (some 35) (sv 7)) (some 34) (sv 6)) (some 33) (sv 5)) (some 32) (sv 4)) (some 31) (sv 3)) (some 30) (sv 2))) _) _)
          try simp only [Act.put, List.setIfInBounds_toArray, List.set_cons_succ, List.set_cons_zero]
          simp [go_sem, quietTo, Ext.refl, ↓IntWalk.iteOmega, f7, hw1]
          all_goals try simp (disch := omega) only [IntWalk.i64_in]
          all_goals first
            | rfl
        refine fac_quiet 9 rfl rfl rfl (fun _ _ h _ => h) rfl rfl ?_
        apply Exists.intro
        refine ⟨fun sv w' hw' hfa => ?_, ?_⟩
        · refine ⟨rfl, ?_⟩
          simp only [putsL]
          change quietTo _ _ _ _ (Sem.run _ (execOp (Act.eval _) _) _)
          try simp only [Act.put, List.setIfInBounds_toArray, List.set_cons_succ, List.set_cons_zero]
          simp [go_sem, quietTo, Ext.refl]
          all_goals first
            | rfl
        refine fac_quiet 10 rfl rfl rfl (fun _ _ h _ => h) rfl rfl ?_
        apply Exists.intro
        refine ⟨fun sv w' hw' hfa => ?_, ?_⟩
        · obtain ⟨f9, -⟩ := hfa
          replace f9 : sv 9 = _ := f9
          try dsimp only at f9
          have hk9 := (Ext.refl W).drew.trans hw'; obtain ⟨y1, -⟩ := (hB3.ext hk9).walk; obtain ⟨y2, -⟩ := (hY.ext hk9).walk; obtain ⟨hc9, hff, hz9⟩ := hk9.walk; have y3 := (hc9 _ _ hwb3).trans d1
          refine ⟨rfl, ?_⟩
          simp only [putsL]
          change quietTo _ _ _ _ (Sem.run _ (execOp (Act.eval (Act.put _ (some 37) (sv 9))) _) _)
          try simp only [Act.put, List.setIfInBounds_toArray, List.set_cons_succ, List.set_cons_zero]
          simp [go_sem, quietTo, Ext.refl, ↓IntWalk.iteOmega, f9, y2]
          all_goals try simp (disch := omega) only [IntWalk.i64_in]
          all_goals first
            | rfl
        refine fac_quiet 11 rfl rfl rfl (fun _ _ h _ => h) rfl rfl ?_
        apply Exists.intro
        refine ⟨fun sv w' hw' hfa => ?_, ?_⟩
        · obtain ⟨_, _, _, _, _, _, f8, _, f10, -⟩ := hfa
          replace f8 : sv 8 = _ := f8
          try dsimp only at f8
          replace f10 : sv 10 = _ := f10
          try dsimp only at f10
          have hk9 := (Ext.refl W).drew.trans hw'; obtain ⟨y1, -⟩ := (hB3.ext hk9).walk; obtain ⟨y2, -⟩ := (hY.ext hk9).walk; obtain ⟨hc9, hff, hz9⟩ := hk9.walk; have y3 := (hc9 _ _ hwb3).trans d1
          refine ⟨rfl, ?_⟩
          simp only [putsL]
          change quietTo _ _ _ _ (Sem.run _ (execOp (Act.eval (Act.put (Act.put (Act.put (Act.put (Act.put (Act.put (Act.put (Act.put (Act.put _ (some 38) (sv 10)) (some 37) (sv 9)) (some 36) (sv 8)) (some 35) (sv 7)) (some 34) (sv 6)) (some 33) (sv 5)) (some 32) (sv 4)) (some 31) (sv 3)) (some 30) (sv 2))) _) _)
          try simp only [Act.put, List.setIfInBounds_toArray, List.set_cons_succ, List.set_cons_zero]
          simp [go_sem, quietTo, Ext.refl, ↓IntWalk.iteOmega, f8, f10, hw2]
          all_goals try simp (disch := omega) only [IntWalk.i64_in]
          all_goals first
            | rfl
        refine fac_quiet 12 rfl rfl rfl (fun _ _ h _ => h) rfl rfl ?_
        apply Exists.intro
        refine ⟨fun sv w' hw' hfa => ?_, ?_⟩
        · obtain ⟨f0, f1, -⟩ := hfa
          replace f0 : sv 0 = _ := f0
          try dsimp only at f0
          replace f1 : sv 1 = _ := f1
          try dsimp only at f1
          have hk9 := (Ext.refl W).drew.trans hw'; obtain ⟨y1, -⟩ := (hB3.ext hk9).walk; obtain ⟨y2, -⟩ := (hY.ext hk9).walk; obtain ⟨hc9, hff, hz9⟩ := hk9.walk; have y3 := (hc9 _ _ hwb3).trans d1
          refine ⟨rfl, ?_⟩
          simp only [putsL]
          change quietTo _ _ _ _ (Sem.run _ (execOp (Act.eval (Act.put (Act.put _ (some 29) (sv 1)) (some 28) (sv 0))) _) _)
          try simp only [Act.put, List.setIfInBounds_toArray, List.set_cons_succ, List.set_cons_zero]
          simp [go_sem, quietTo, Ext.refl, ↓IntWalk.iteOmega, f0, f1, hkI]
          all_goals try simp (disch := omega) only [IntWalk.i64_in]
          all_goals first
            | rfl
        refine fac_quiet 13 rfl rfl rfl (fun _ _ h _ => h) rfl rfl ?_
        apply Exists.intro
        refine ⟨fun sv w' hw' hfa => ?_, ?_⟩
        · obtain ⟨_, _, f12, -⟩ := hfa
          replace f12 : sv 12 = _ := f12
          try dsimp only at f12
          refine ⟨rfl, ?_⟩
          simp only [putsL]
          change quietTo _ _ _ _ (Sem.run _ (execOp (Act.eval (Act.put (Act.put (Act.put _ (some 40) (sv 12)) (some 29) (sv 1)) (some 28) (sv 0))) _) _)
          try simp only [Act.put, List.setIfInBounds_toArray, List.set_cons_succ, List.set_cons_zero]
          simp [go_sem, quietTo, Ext.refl, f12]
          all_goals first
            | rfl
        refine fac_nil fun xq wrq herq hfrq hcrq holdq hapq => ?_
        obtain ⟨f0, f1, f2, f3, f4, f5, f6, f7, f8, f9, f10, f11, f12, f13, -⟩ := hfrq
        replace f0 : xq 0 = _ := f0
        try dsimp only at f0
        replace f1 : xq 1 = _ := f1
        try dsimp only at f1
        replace f2 : xq 2 = _ := f2
        try dsimp only at f2
        replace f3 : xq 3 = _ := f3
        try dsimp only at f3
        replace f4 : xq 4 = _ := f4
        try dsimp only at f4
        replace f5 : xq 5 = _ := f5
        try dsimp only at f5
        replace f6 : xq 6 = _ := f6
        try dsimp only at f6
        replace f7 : xq 7 = _ := f7
        try dsimp only at f7
        replace f8 : xq 8 = _ := f8
        try dsimp only at f8
        replace f9 : xq 9 = _ := f9
        try dsimp only at f9
        replace f10 : xq 10 = _ := f10
        try dsimp only at f10
        replace f11 : xq 11 = _ := f11
        try dsimp only at f11
        replace f12 : xq 12 = _ := f12
        try dsimp only at f12
        replace f13 : xq 13 = _ := f13
        try dsimp only at f13
        change wpList _ _ _ _ (Act.put (Act.put (Act.put (Act.put (Act.put (Act.put (Act.put (Act.put (Act.put (Act.put (Act.put (Act.put (Act.put (Act.put _ (some 28) (xq 0)) (some 29) (xq 1)) (some 30) (xq 2)) (some 31) (xq 3)) (some 32) (xq 4)) (some 33) (xq 5)) (some 34) (xq 6)) (some 35) (xq 7)) (some 36) (xq 8)) (some 37) (xq 9)) (some 38) (xq 10)) (some 39) (xq 11)) (some 40) (xq 12)) (some 41) (xq 13)) _
        simp only [putsL, Nat.reduceAdd, List.drop_succ_cons, List.drop_zero, List.drop_nil, Act.put, List.setIfInBounds_toArray, List.set_cons_succ, List.set_cons_zero]
        try simp only [f0, f1, f2, f3, f4, f5, f6, f7, f8, f9, f10, f11, f12, f13]
        clear f0 f1 f2 f3 f4 f5 f6 f7 f8 f9 f10 f11 f12 f13
        clear holdq hapq
        have hkq := (Ext.refl W).drew.trans herq
        have hoq := own_ext hkq ho3.out
        have hBq := hB3.ext hkq
        have hEq := hE3.trans hkq
        have e2 : wrq.cell? ⟨g, k * 3 + 2, none⟩ = some (.int .i64 x.place) := own_cell staC_len hoq hmid.out 2 rfl hlt
        have hfz : wrq.frozen? ⟨g, k * 3 + 2, none⟩ = false := hoq.frozenAt _
        have hset := own_set1 staC_len hoq (mirS wide x) hmid.out 2 (by decide) (.int .i64 (v - 1 - x.place)) (by rw [hmx.out]; rfl)
        rw [hst.out] at hset
        have hBs := hBq.far (p := ⟨g, k * 3 + 2, none⟩) (Ne.symm hne) (.int .i64 (v - 1 - x.place))
        have hEs := hEq.setCell (p := ⟨g, k * 3 + 2, none⟩) (by simp only; omega) (.int .i64 (v - 1 - x.place))
        clear hoq hBq hEq hkq herq ho3 hE hB hE3 hB3 hY
        replace hset := Lib.hid hset
        go_wp2
        go_roundw
        case rel => exact ⟨k + 1, by go_num, by omega, hset.out, hBs, hEs⟩
        case measure => simp [intOf]; omega
      · obtain rfl : k = S.length := by omega
        rw [List.take_of_length_le (by simp), List.drop_eq_nil_of_le (Nat.le_refl _), List.append_nil] at ho
        have hso := sortSta_any ho (by simp) hnS hap.out 65 (fun a b u => compareG_any a b u) (fun args u => by rfl)
        replace hso := Lib.hid hso
        go_wp2_with (go_at_call 64; (with_reducible refine Calls.mono hso.out ?_); rintro e w3 ⟨rfl, M, hMp, hMs, hMo, hMe⟩)
        have hres : w3.ownsRow w.heap.size 48 3 (.slice (some ⟨g, 0, none⟩) S.length cap) S.length (M.flatMap staC) := ⟨hMo.1, hMo.2.imp id fun ⟨g', cap', cur, hv, hg, r⟩ => ⟨g', cap', cur, hv, by cases hv; omega, r⟩⟩
        replace hres := Lib.hid hres
        go_ret2
        exact ⟨_, M, rfl, hMp, hMs, hres.out, hMe _ hE (by omega)⟩

end Go.Proofs.YtfcoeikekbjgpaaGreatDoor
