/- How many copies of each title are in: the walk of Stock. Conditions: sizes; at most 19 slips; the table of the powers of ten stands. -/
import Derived.Test.YtjggcofjgeiapaaGreatDoorCiJ38
set_option linter.unusedSimpArgs false
set_option linter.unusedVariables false
namespace Go.Proofs.YtjggcofjgeiapaaGreatDoor
open Go Go.RowKit Go.Maps

theorem slc_str1 {w : World} {g : Nat} {t : TypeId} {s : ByteArray} (h : Blk w g t #[.string s]) : Slc 1 strC w (some ⟨g, 0, none⟩) 1 1 [s] := by
  refine ⟨⟨rfl, by omega, fun _ => ⟨g, 0, rfl, h.lt, fun i x hx j u hu => ?_⟩⟩, by omega, (fun e => by cases e), (fun a ha => by cases ha; exact ⟨g, 0, rfl, h.lt⟩)⟩
  have hi := (List.getElem?_eq_some_iff.1 hx).1
  have hj := (List.getElem?_eq_some_iff.1 hu).1
  simp only [List.length_singleton, strC] at hi hj
  obtain rfl : i = 0 := by omega
  obtain rfl : j = 0 := by omega
  cases hx
  cases hu
  exact h.cell 0
/-- What Stock answers when all is right. -/
def StockR (T : List TitleV) (r : LendR) (d : List SlipV) (t : Int) (w : World) (e : Ending) (w' : World) : Prop :=
  ∃ (v : Value), e = .returned (.tuple #[v, .int .i64 0]) ∧ w'.ownsRow w.heap.size 57 2 v T.length ((stockL T (libAt T r d t).1).flatMap lpC) ∧ Ext w w'
theorem stock_take {T : List TitleV} {L : LibS} {k : Nat} {x : TitleV} (hx : T[k]? = some x) : (stockL T L).take (k + 1) = (stockL T L).take k ++ [(x.piece, itoaL (cntT L x [inW]))] :=
  take_snocL (by unfold stockL; rw [List.getElem?_map, hx]; rfl)
set_option maxRecDepth 100000 in
set_option maxHeartbeats 6400000 in
theorem stock_any (B : Nat) (tp : Option Addr) (tn tc : Nat) (T : List TitleV) (r : LendR) (dp : Option Addr) (dn dc : Nat) (d : List SlipV) (t : Int) (w : World) (h : ListsM w tp tn tc T r dp dn dc d) (ht : outB t 0 345686399999 = false) (hB : Tab B w) :
    Calls Tryz.prog 18 #[.slice tp tn tc, lendVal r, .slice dp dn dc, .int .i64 t] w (StockR T r d t w) := by
  have hat := fun u (hu : Ext w u) => atN_any tp tn tc T r dp dn dc d t u (h.ext hu) ht
  have hTo := titlesF_ok (libF_zero h.ok).1
  have hTl := h.ti.1.1
  have hTT := h.ti
  have htl := h.tl
  have hts := h.ts
  unfold lendVal at hat ⊢
  have hE : Ext w (w.alloc (.cells #[.int .i64 r.days, .int .i64 r.late, .int .i64 r.most, .int .i64 r.each] 28)) := (Ext.refl w).alloc _
  clear h
  replace hat := Lib.hid hat
  replace hE := Lib.hid hE
  replace hTo := Lib.hid hTo
  replace hTT := Lib.hid hTT
  go_enter Tryz.func18, Tryz.ntmps18
  go_wp2_with (go_at_call 55; (with_reducible refine Calls.mono (hat.out _ hE.out) ?_); rintro e w1 ⟨base, bb, ms, ml, mh, q, rfl, hL, hb1⟩)
  have hEw := hE.out.trans hb1
  have hw1s := hEw.size
  obtain ⟨L, hLe⟩ : ∃ L, L = (libAt T r d t).1 := ⟨_, rfl⟩
  rw [← hLe] at hL
  have hres : ∀ v w', w'.ownsRow w1.heap.size 57 2 v T.length ((stockL T L).flatMap lpC) → Ext w1 w' → StockR T r d t w (.returned (.tuple #[v, .int .i64 0])) w' := fun v w' ho hx => ⟨v, rfl, by rw [← hLe]; exact own_low ho hw1s, hEw.trans hx⟩
  replace hres := Lib.hid hres
  have hmn := fun u (hu : Ext w1 u) (x : TitleV) (hx : x ∈ T) (g : Nat) (hg : Blk u g 9 #[.string ⟨#[105, 110]⟩]) => many_any (hL.ext hu) x (by have := (hts x hx).1; omega) (by have := (hTo.out.one x hx).2.1; omega) (hTo.out.one x hx).2.2.1 (some ⟨g, 0, none⟩) 1 1 [inW] (slc_str1 hg) (by omega)
  have htb := fun u (hu : Ext w1 u) => hB.ext (hEw.trans hu)
  replace hmn := Lib.hid hmn
  replace htb := Lib.hid htb
  clear hLe hat hL hB hb1 hE
  go_loopw [12, 28] (fun v12 v28 wr => ∃ (k : Nat) (v : Value), v28 = .int .i64 k ∧ v = v12 ∧ k ≤ tn ∧ wr.ownsRow w1.heap.size 57 2 v k (((stockL T L).take k).flatMap lpC) ∧ Ext w1 wr) (fun _ v28 _ => tn - (intOf v28).toNat)
  case atStart => exact ⟨0, _, rfl, rfl, Nat.zero_le _, World.ownsRow_nil _ _ _ _, Ext.refl _⟩
  case round =>
    obtain ⟨k, v, rfl, rfl, hk, hown, he⟩ := hrel
    by_cases hlt : k < tn
    · obtain ⟨x, hx⟩ := getD_some hTl hlt
      obtain ⟨b, off, rfl, hb, hEl⟩ := hTT.out.1.2.2 (by omega)
      obtain ⟨d0, d1, d2⟩ := (hEl.ext (hEw.trans he) hb).title hx
      have hkI : (k : Int) < (tn : Int) := by omega
      have hszr := he.size
      have htk := stock_take (L := L) hx
      have hxm := List.mem_of_getElem? hx
      have hcl : cntT L x [inW] ≤ x.owned.toNat := cntN_le _ _ _ _
      have ho5 := (hTo.out.one x hxm).2.2.1
      have hm1 := fun u (hu : Ext wr u) g hg => hmn.out u (he.trans hu) x hxm g hg
      unfold titleVal at hm1
      generalize cntT L x [inW] = cn at *
      replace hx := Lib.hid hx
      replace hEl := Lib.hid hEl
      replace htk := Lib.hid htk
      replace hm1 := Lib.hid hm1
      have hX := Blk.new' (w := wr) (g := wr.heap.size) (t := 77) (cs := #[.string x.piece, .int .i64 x.owned, .int .i64 x.cost]) rfl
      have hEx : Ext wr (wr.alloc (.cells #[.string x.piece, .int .i64 x.owned, .int .i64 x.cost] 77)) := (Ext.refl wr).alloc _
      have hown1 := hown.alloc (.cells #[.string x.piece, .int .i64 x.owned, .int .i64 x.cost] 77)
      have lx := hX.lt
      have x0 := hX.cell 0
      have x1 := hX.cell 1
      have x2 := hX.cell 2
      replace hX := Lib.hid hX
      replace hEx := Lib.hid hEx
      go_upto_region 8 with fail
      clear hX
      generalize wr.heap.size = gx at *
      generalize (wr.alloc (.cells #[.string x.piece, .int .i64 x.owned, .int .i64 x.cost] 77)) = W2 at *
      refine wp_region_facts [0] [([], false, false), ([], false, false), ([1], false, false), ([], false, false), ([], false, false), ([], false, true), ([3, 4, 5], false, false), ([3, 4, 5, 6], false, false), ([1, 2, 3, 4, 5, 6, 7], false, false), ([1, 2, 3, 4, 5, 6, 7, 8], false, true)] (Ext) Ext (fun _ => True) (by kernel_rfl) (by kernel_rfl) Ext.refl (fun _ _ _ => Ext.trans) (fun _ _ h => h) (fun _ _ h => h.size) (fun _ _ h _ => h) trivial ?_
      dsimp only [List.length_cons, List.length_nil, List.drop_succ_cons, List.drop_zero, List.drop_nil]
      refine fac_late 0 rfl rfl Ext.refl (fun _ _ h _ => h) rfl rfl (fun _ _ _ _ h => h) ?_
      apply Exists.intro
      refine ⟨fun sv w' hw' hfa => ?_, ?_⟩
      · refine ⟨rfl, fun w2 => ?_⟩
        simp only [putsL]
        change pureTo _ _ (Sem.run _ (execOp (Act.eval _) _) _)
        try simp only [Act.put, List.setIfInBounds_toArray, List.set_cons_succ, List.set_cons_zero]
        simp [go_sem, pureTo]
        all_goals try simp (disch := omega) only [IntWalk.i64_in]
        all_goals first
          | rfl
      refine fac_quiet 1 rfl rfl rfl (fun _ _ h _ => h) rfl rfl ?_
      apply Exists.intro
      refine ⟨fun sv w' hw' hfa => ?_, ?_⟩
      · refine ⟨rfl, ?_⟩
        simp only [putsL]
        change quietTo _ _ _ _ (Sem.run _ (execOp (Act.eval _) _) _)
        try simp only [Act.put, List.setIfInBounds_toArray, List.set_cons_succ, List.set_cons_zero]
        simp [go_sem, quietTo, Ext.refl]
        all_goals first
          | rfl
      refine fac_quiet 2 rfl rfl rfl (fun _ _ h _ => h) rfl rfl ?_
      apply Exists.intro
      refine ⟨fun sv w' hw' hfa => ?_, ?_⟩
      · obtain ⟨f1, -⟩ := hfa
        replace f1 : sv 1 = _ := f1
        try dsimp only at f1
        have hk9 := (Ext.refl W2).drew.trans hw'; obtain ⟨hc, -, -⟩ := hk9.walk; have y0 := (hc gx 0 lx).trans x0; have y1 := (hc gx 1 lx).trans x1; have y2 := (hc gx 2 lx).trans x2
        refine ⟨rfl, ?_⟩
        simp only [putsL]
        change quietTo _ _ _ _ (Sem.run _ (execOp (Act.eval (Act.put _ (some 33) (sv 1))) _) _)
        try simp only [Act.put, List.setIfInBounds_toArray, List.set_cons_succ, List.set_cons_zero]
        simp [go_sem, quietTo, Ext.refl, ↓IntWalk.iteOmega, f1, y0]
        all_goals try simp (disch := omega) only [IntWalk.i64_in]
        all_goals first
          | rfl
      refine fac_quiet 3 rfl rfl rfl (fun _ _ h _ => h) rfl rfl ?_
      apply Exists.intro
      refine ⟨fun sv w' hw' hfa => ?_, ?_⟩
      · refine ⟨rfl, ?_⟩
        simp only [putsL]
        change quietTo _ _ _ _ (Sem.run _ (execOp (Act.eval _) _) _)
        try simp only [Act.put, List.setIfInBounds_toArray, List.set_cons_succ, List.set_cons_zero]
        simp [go_sem, quietTo, Ext.refl]
        all_goals first
          | rfl
      refine fac_quiet 4 rfl rfl rfl (fun _ _ h _ => h) rfl rfl ?_
      apply Exists.intro
      refine ⟨fun sv w' hw' hfa => ?_, ?_⟩
      · have hk9 := (Ext.refl W2).drew.trans hw'; obtain ⟨hc, -, -⟩ := hk9.walk; have y0 := (hc gx 0 lx).trans x0; have y1 := (hc gx 1 lx).trans x1; have y2 := (hc gx 2 lx).trans x2
        refine ⟨rfl, ?_⟩
        simp only [putsL]
        change quietTo _ _ _ _ (Sem.run _ (execOp (Act.eval _) _) _)
        try simp only [Act.put, List.setIfInBounds_toArray, List.set_cons_succ, List.set_cons_zero]
        simp [go_sem, quietTo, Ext.refl, ↓IntWalk.iteOmega, y0, y1, y2]
        all_goals try simp (disch := omega) only [IntWalk.i64_in]
        all_goals first
          | rfl
      refine fac_row 5 rfl rfl rfl (fun _ _ h _ => h) (fun _ _ h => h.size) (fun _ _ _ _ _ he _ hb => hb.ext he) ?_
      apply Exists.intro
      apply Exists.intro
      apply Exists.intro
      apply Exists.intro
      refine ⟨fun sv w' hw' hfa => ?_, ?_⟩
      · refine ⟨rfl, ?_⟩
        simp only [putsL]
        change rowTo _ _ _ _ _ (Sem.run _ (execOp (Act.eval _) _) _)
        try simp only [Act.put, List.setIfInBounds_toArray, List.set_cons_succ, List.set_cons_zero]
        simp [go_sem, rowTo, Ext.refl]
        all_goals try simp (disch := omega) only [IntWalk.i64_in]
        all_goals first
          | rfl
          | exact ⟨rfl, rfl⟩
          | exact ⟨⟨rfl, rfl⟩, rfl⟩
      refine fac_quiet 6 rfl rfl rfl (fun _ _ h _ => h) rfl rfl ?_
      apply Exists.intro
      refine ⟨fun sv w' hw' hfa => ?_, ?_⟩
      · obtain ⟨f3, f4, f5, -⟩ := hfa
        replace f3 : sv 3 = _ := f3
        try dsimp only at f3
        replace f4 : sv 4 = _ := f4
        try dsimp only at f4
        obtain ⟨g5, f5, l5, b5⟩ := f5
        replace f5 : sv 5 = _ := f5
        obtain ⟨p5, q5⟩ := b5.walk
        have hk9 := (Ext.refl W2).drew.trans hw'; obtain ⟨hc, -, -⟩ := hk9.walk; have y0 := (hc gx 0 lx).trans x0; have y1 := (hc gx 1 lx).trans x1; have y2 := (hc gx 2 lx).trans x2
        refine ⟨rfl, ?_⟩
        simp only [putsL]
        change quietTo _ _ _ _ (Sem.run _ (execOp (Act.eval (Act.put (Act.put (Act.put _ (some 37) (sv 5)) (some 36) (sv 4)) (some 35) (sv 3))) _) _)
        try simp only [Act.put, List.setIfInBounds_toArray, List.set_cons_succ, List.set_cons_zero]
        simp [go_sem, quietTo, Ext.refl, ↓IntWalk.iteOmega, f3, f4, f5, p5, q5]
        all_goals try simp (disch := omega) only [IntWalk.i64_in]
        all_goals first
          | rfl
          | (exact hm1.out _ (hEx.out.trans hk9) _ b5)
      refine fac_quiet 7 rfl rfl rfl (fun _ _ h _ => h) rfl rfl ?_
      apply Exists.intro
      refine ⟨fun sv w' hw' hfa => ?_, ?_⟩
      · obtain ⟨f3, f4, f5, f6, -⟩ := hfa
        replace f3 : sv 3 = _ := f3
        try dsimp only at f3
        replace f4 : sv 4 = _ := f4
        try dsimp only at f4
        obtain ⟨g5, f5, l5, b5⟩ := f5
        replace f5 : sv 5 = _ := f5
        obtain ⟨p5, q5⟩ := b5.walk
        replace f6 : sv 6 = _ := f6
        try dsimp only at f6
        have hk9 := (Ext.refl W2).drew.trans hw'; obtain ⟨hc, -, -⟩ := hk9.walk; have y0 := (hc gx 0 lx).trans x0; have y1 := (hc gx 1 lx).trans x1; have y2 := (hc gx 2 lx).trans x2
        refine ⟨rfl, ?_⟩
        simp only [putsL]
        change quietTo _ _ _ _ (Sem.run _ (execOp (Act.eval (Act.put (Act.put (Act.put (Act.put _ (some 38) (sv 6)) (some 37) (sv 5)) (some 36) (sv 4)) (some 35) (sv 3))) _) _)
        try simp only [Act.put, List.setIfInBounds_toArray, List.set_cons_succ, List.set_cons_zero]
        simp [go_sem, quietTo, Ext.refl, ↓IntWalk.iteOmega, f6, p5, q5]
        all_goals try simp (disch := omega) only [IntWalk.i64_in]
        all_goals first
          | rfl
          | (exact itoa_any _ (by omega) (by omega) B _ (htb.out _ ((he.trans hEx.out).trans hk9)))
      refine fac_quiet 8 rfl rfl rfl (fun _ _ h _ => h) rfl rfl ?_
      apply Exists.intro
      refine ⟨fun sv w' hw' hfa => ?_, ?_⟩
      · obtain ⟨_, f2, _, _, _, _, f7, -⟩ := hfa
        replace f2 : sv 2 = _ := f2
        try dsimp only at f2
        replace f7 : sv 7 = _ := f7
        try dsimp only at f7
        refine ⟨rfl, ?_⟩
        simp only [putsL]
        change quietTo _ _ _ _ (Sem.run _ (execOp (Act.eval (Act.put (Act.put (Act.put (Act.put (Act.put (Act.put (Act.put _ (some 39) (sv 7)) (some 38) (sv 6)) (some 37) (sv 5)) (some 36) (sv 4)) (some 35) (sv 3)) (some 34) (sv 2)) (some 33) (sv 1))) _) _)
        try simp only [Act.put, List.setIfInBounds_toArray, List.set_cons_succ, List.set_cons_zero]
        simp [go_sem, quietTo, Ext.refl, f2, f7]
        all_goals first
          | rfl
      refine fac_row 9 rfl rfl rfl (fun _ _ h _ => h) (fun _ _ h => h.size) (fun _ _ _ _ _ he _ hb => hb.ext he) ?_
      apply Exists.intro
      apply Exists.intro
      apply Exists.intro
      apply Exists.intro
      refine ⟨fun sv w' hw' hfa => ?_, ?_⟩
      · obtain ⟨_, _, _, _, _, _, _, f8, -⟩ := hfa
        replace f8 : sv 8 = _ := f8
        try dsimp only at f8
        refine ⟨rfl, ?_⟩
        simp only [putsL]
        change rowTo _ _ _ _ _ (Sem.run _ (execOp (Act.eval (Act.put (Act.put (Act.put (Act.put (Act.put (Act.put (Act.put (Act.put _ (some 40) (sv 8)) (some 39) (sv 7)) (some 38) (sv 6)) (some 37) (sv 5)) (some 36) (sv 4)) (some 35) (sv 3)) (some 34) (sv 2)) (some 33) (sv 1))) _) _)
        try simp only [Act.put, List.setIfInBounds_toArray, List.set_cons_succ, List.set_cons_zero]
        simp [go_sem, rowTo, Ext.refl, f8]
        all_goals try simp (disch := omega) only [IntWalk.i64_in]
        all_goals first
          | rfl
          | exact ⟨rfl, rfl⟩
          | exact ⟨⟨rfl, rfl⟩, rfl⟩
      refine fac_nil fun xa wra hera hfra hcra holda hapa => ?_
      obtain ⟨f0, f1, f2, f3, f4, f5, f6, f7, f8, f9, -⟩ := hfra
      replace f0 : xa 0 = _ := f0
      try dsimp only at f0
      replace f1 : xa 1 = _ := f1
      try dsimp only at f1
      replace f2 : xa 2 = _ := f2
      try dsimp only at f2
      replace f3 : xa 3 = _ := f3
      try dsimp only at f3
      replace f4 : xa 4 = _ := f4
      try dsimp only at f4
      obtain ⟨g5, f5, l5, b5⟩ := f5
      replace f5 : xa 5 = _ := f5
      obtain ⟨p5, q5⟩ := b5.walk
      replace f6 : xa 6 = _ := f6
      try dsimp only at f6
      replace f7 : xa 7 = _ := f7
      try dsimp only at f7
      replace f8 : xa 8 = _ := f8
      try dsimp only at f8
      obtain ⟨g9, f9, l9, b9⟩ := f9
      replace f9 : xa 9 = _ := f9
      obtain ⟨p9, q9⟩ := b9.walk
      change wpList _ _ _ _ (Act.put (Act.put (Act.put (Act.put (Act.put (Act.put (Act.put (Act.put (Act.put (Act.put _ (some 32) (xa 0)) (some 33) (xa 1)) (some 34) (xa 2)) (some 35) (xa 3)) (some 36) (xa 4)) (some 37) (xa 5)) (some 38) (xa 6)) (some 39) (xa 7)) (some 40) (xa 8)) (some 41) (xa 9)) _
      simp only [putsL, Nat.reduceAdd, List.drop_succ_cons, List.drop_zero, List.drop_nil, Act.put, List.setIfInBounds_toArray, List.set_cons_succ, List.set_cons_zero]
      try simp only [f0, f1, f2, f3, f4, f5, f6, f7, f8, f9]
      clear f0 f1 f2 f3 f4 f6 f7 f8
      clear holda hapa
      have hka := (Ext.refl W2).drew.trans hera
      have hown2 := own_ext hka hown1
      have hE2 := (he.trans hEx.out).trans hka
      have hE2s := hE2.size
      clear hown hown1 hera hka x0 x1 x2 lx hcra
      go_wp2_with (at_builtin; go_loud (refine wp_app1 _ (.tmp 32) (.tmp 41) 51 57 2 32 _ rfl rfl Tryz.underlying51 lpInfo rfl (by decide) (by decide) w1.heap.size _ k _ rfl hown2 _ (lpC (x.piece, itoaL cn)) rfl rfl b9 (lpC_one _) (by omega) (by omega) ?_; intro v' w6 hown6 hgrow6 _))
      go_roundw
      case rel => exact ⟨k + 1, v', by go_num, rfl, by omega, by rw [htk.out, flat_snoc]; exact hown6, hE2.app hown2 (Nat.le_refl _) hgrow6⟩
      case measure => simp [intOf]; omega
    · obtain rfl : tn = k := by omega
      rw [List.take_of_length_le (by unfold stockL; simp; omega)] at hown
      have hr := hres.out _ _ (by rw [hTl]; exact hown) he
      replace hr := Lib.hid hr
      go_wp2
      go_ret2
      exact hr.out
end Go.Proofs.YtjggcofjgeiapaaGreatDoor
