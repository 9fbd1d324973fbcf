/- The document's search for divisions, walked. Conditions: its variables lie in memory. -/
import Derived.Test.YtcdjkgfdhngmeaaGreatDoorSdJ43
set_option linter.unusedSimpArgs false
set_option linter.unusedVariables false
namespace Go.Proofs.YtcdjkgfdhngmeaaGreatDoor
open Go Go.RowKit

set_option maxRecDepth 100000 in
set_option maxHeartbeats 12800000 in
theorem try_any {w0 : World} {z bw bl bt bp bc bm bb : Nat} {vp pp : Option Addr} {vc pc : Nat} {V : List VoiceV} {P : List PartV} {t : Int} (hVP : VpM w0 vp vc V pp pc P) (hP4 : P.length ≤ 4) (hl : Blk w0 bl 26 #[.slice vp V.length vc]) (ht : Blk w0 bt 3 #[.int .i64 t]) (hp : Blk w0 bp 28 #[.slice pp P.length pc])
    {sp : Option Addr} {sc : Nat} (hSn : Slc 1 strC w0 sp (singersL V t).length sc (singersL V t)) (hC12 : (singersL V t).length ≤ 12) (hbt : bt ≠ bm) :
    ∀ (m i : Nat) (g : List Nat) (st : List (List Nat) × Int) (w : World) (gp : Option Addr) (gc : Nat), i + m = (comL V t P).length → g.length = i → (∀ x ∈ g, x < P.length) → (-2000 * (i : Int) ≤ sumG (comL V t P) g ∧ sumG (comL V t P) g ≤ 2000 * i) → st.1.length + 4 ^ m ≤ 100000000 →
      TryD w0 z bw bc bm bb (.slice sp (singersL V t).length sc) (.func (.func 56) #[] #[.pointer (some ⟨bw, 0, none⟩), .pointer (some ⟨bl, 0, none⟩), .pointer (some ⟨bt, 0, none⟩), .pointer (some ⟨bp, 0, none⟩), .pointer (some ⟨bc, 0, none⟩), .pointer (some ⟨bm, 0, none⟩), .pointer (some ⟨bb, 0, none⟩)]) st w →
      w.ownsRow z 3 1 (.slice gp g.length gc) g.length (g.flatMap natC) →
      Calls Tryz.prog 56 #[.slice gp g.length gc, .int .i64 (sumG (comL V t P) g), .pointer (some ⟨bw, 0, none⟩), .pointer (some ⟨bl, 0, none⟩), .pointer (some ⟨bt, 0, none⟩), .pointer (some ⟨bp, 0, none⟩), .pointer (some ⟨bc, 0, none⟩), .pointer (some ⟨bm, 0, none⟩), .pointer (some ⟨bb, 0, none⟩)] w (TryRes w0 z bw bc bm bb (.slice sp (singersL V t).length sc) (.func (.func 56) #[] #[.pointer (some ⟨bw, 0, none⟩), .pointer (some ⟨bl, 0, none⟩), .pointer (some ⟨bt, 0, none⟩), .pointer (some ⟨bp, 0, none⟩), .pointer (some ⟨bc, 0, none⟩), .pointer (some ⟨bm, 0, none⟩), .pointer (some ⟨bb, 0, none⟩)]) (foldG P (comL V t P) i g st) w) := by
  intro m
  induction m with
  | zero =>
    intro i g st w gp gc hi hgl hgx hs hbig h hgo
    obtain rfl : i = (comL V t P).length := by omega
    have hCS := comL_len V t P
    exact try_end h hp hVP.par hVP.sP hP4 hCS hgl (by omega) (fun x hx => by have := hgx x hx; omega) hgo (by omega) (by omega)
  | succ m ih =>
    intro i g st w gp gc hi hgl hgx hs hbig h hgo
    have hCS := comL_len V t P
    obtain ⟨nm, hnm⟩ := getD_some (rfl : (singersL V t).length = (singersL V t).length) (show i < (singersL V t).length by omega)
    have hro := fun u (hu : Ext w0 u) => rangeOf_any vp V.length vc V nm t u ((hVP.more hu).voi).1 hVP.sV hVP.nV (singers_small hVP.sV t nm (List.mem_of_getElem? hnm))
    obtain ⟨hr1, hr2⟩ := rg_bounds hVP.sV t nm
    have hrow : (comL V t P).getD i [] = comRow V t P nm := by rw [List.getD_eq_getElem?_getD, comL_at hnm]; rfl
    obtain ⟨rr, hrr⟩ : ∃ r, (rgS V t V.length nm).getD (0, 0) = r := ⟨_, rfl⟩
    have hcom : ∀ k x, P[k]? = some x → ((comL V t P).getD i []).getD k (-1) = comF rr (x.lo, x.hi) := fun k x hx => by
      rw [hrow, List.getD_eq_getElem?_getD, comRow_at hx, hrr]; rfl
    obtain ⟨sm, hsm⟩ : ∃ b, (rgS V t V.length nm).isSome = b := ⟨_, rfl⟩
    rw [hrr, hsm] at hro
    rw [hrr] at hr1 hr2
    obtain ⟨ra, rb⟩ := rr
    simp only at hr1 hr2
    replace hro : ∀ u, Ext w0 u → Calls Tryz.prog 57 #[.slice vp V.length vc, .string nm, .int .i64 t] u fun e w' => e = .returned (.tuple #[.agg #[.int .i64 ra, .int .i64 rb], .bool sm]) ∧ Ext u w' := hro
    have hlw := hl.ext h.ext
    have htw := ht.ext h.ext
    have hpw := hp.ext h.ext
    have hSw := hSn.ext h.ext
    obtain ⟨-, ⟨_, e9⟩ | ⟨nb, noff, rfl, hnb, hnE⟩⟩ := slcC hSw
    · rw [e9] at hnm; cases hnm
    have e1 := hnE.str hnm
    have hlI : (g.length : Int) < (singersL V t).length := by omega
    obtain ⟨z1, -⟩ := h.who.walk
    have z1l := h.who.lt
    have hwho := h.who
    have hex := h.ext
    subst hgl
    replace h := Lib.hid h
    replace ih := Lib.hid ih
    replace hro := Lib.hid hro
    go_enter Tryz.func56, Tryz.ntmps56
    go_upto_region 1 with fail
    refine wp_region_facts [10] [([], false, false), ([], false, false), ([], false, false), ([2], false, false), ([1, 2, 3], false, false), ([1, 2, 3, 4], false, false), ([], false, false), ([0, 1, 2, 3, 4, 5, 6], false, false), ([0, 1, 2, 3, 4, 5, 6, 7], false, false), ([0, 1, 2, 3, 4, 5, 6, 7, 8], false, false), ([0, 1, 2, 3, 4, 5, 6, 7, 8], false, false), ([], false, true)] (Ext) Ext (fun _ => True) (by kernel_rfl) (by kernel_rfl) Ext.refl (fun _ _ _ => Ext.trans) (fun _ _ h => h) (fun _ _ h => h.size) (fun _ _ h _ => h) trivial ?_
    dsimp only [List.length_cons, List.length_nil, List.drop_succ_cons, List.drop_zero, List.drop_nil]
    refine fac_quiet 0 rfl rfl rfl (fun _ _ h _ => h) rfl rfl ?_
    apply Exists.intro
    refine ⟨fun sv w' hw' hfa => ?_, ?_⟩
    · have hk9 := (Ext.refl w).drew.trans hw'; obtain ⟨y1, -⟩ := (hlw.ext hk9).walk; obtain ⟨y2, -⟩ := (hwho.ext hk9).walk; obtain ⟨y3, -⟩ := (htw.ext hk9).walk; have y4 := (hk9.walk.1 _ _ hnb).trans e1
      refine ⟨rfl, ?_⟩
      simp only [putsL]
      change quietTo _ _ _ _ (Sem.run _ (execOp (Act.eval _) _) _)
      try simp only [Act.put, List.setIfInBounds_toArray, List.set_cons_succ, List.set_cons_zero]
      simp [go_sem, quietTo, Ext.refl, ↓IntWalk.iteOmega, y1]
      all_goals try simp (disch := omega) only [IntWalk.i64_in]
      all_goals first
        | rfl
    refine fac_quiet 1 rfl rfl rfl (fun _ _ h _ => h) rfl rfl ?_
    apply Exists.intro
    refine ⟨fun sv w' hw' hfa => ?_, ?_⟩
    · have hk9 := (Ext.refl w).drew.trans hw'; obtain ⟨y1, -⟩ := (hlw.ext hk9).walk; obtain ⟨y2, -⟩ := (hwho.ext hk9).walk; obtain ⟨y3, -⟩ := (htw.ext hk9).walk; have y4 := (hk9.walk.1 _ _ hnb).trans e1
      refine ⟨rfl, ?_⟩
      simp only [putsL]
      change quietTo _ _ _ _ (Sem.run _ (execOp (Act.eval _) _) _)
      try simp only [Act.put, List.setIfInBounds_toArray, List.set_cons_succ, List.set_cons_zero]
      simp [go_sem, quietTo, Ext.refl, ↓IntWalk.iteOmega, y2]
      all_goals try simp (disch := omega) only [IntWalk.i64_in]
      all_goals first
        | rfl
    refine fac_quiet 2 rfl rfl rfl (fun _ _ h _ => h) rfl rfl ?_
    apply Exists.intro
    refine ⟨fun sv w' hw' hfa => ?_, ?_⟩
    · refine ⟨rfl, ?_⟩
      simp only [putsL]
      change quietTo _ _ _ _ (Sem.run _ (execOp (Act.eval _) _) _)
      try simp only [Act.put, List.setIfInBounds_toArray, List.set_cons_succ, List.set_cons_zero]
      simp [go_sem, quietTo, Ext.refl]
      all_goals first
        | rfl
    refine fac_quiet 3 rfl rfl rfl (fun _ _ h _ => h) rfl rfl ?_
    apply Exists.intro
    refine ⟨fun sv w' hw' hfa => ?_, ?_⟩
    · obtain ⟨f2, -⟩ := hfa
      replace f2 : sv 2 = _ := f2
      try dsimp only at f2
      refine ⟨rfl, ?_⟩
      simp only [putsL]
      change quietTo _ _ _ _ (Sem.run _ (execOp (Act.eval (Act.put _ (some 29) (sv 2))) _) _)
      try simp only [Act.put, List.setIfInBounds_toArray, List.set_cons_succ, List.set_cons_zero]
      simp [go_sem, quietTo, Ext.refl, ↓IntWalk.iteOmega, f2]
      all_goals try simp (disch := omega) only [IntWalk.i64_in]
      all_goals first
        | rfl
    refine fac_quiet 4 rfl rfl rfl (fun _ _ h _ => h) rfl rfl ?_
    apply Exists.intro
    refine ⟨fun sv w' hw' hfa => ?_, ?_⟩
    · obtain ⟨f1, _, f3, -⟩ := hfa
      replace f1 : sv 1 = _ := f1
      try dsimp only at f1
      replace f3 : sv 3 = _ := f3
      try dsimp only at f3
      have hk9 := (Ext.refl w).drew.trans hw'; obtain ⟨y1, -⟩ := (hlw.ext hk9).walk; obtain ⟨y2, -⟩ := (hwho.ext hk9).walk; obtain ⟨y3, -⟩ := (htw.ext hk9).walk; have y4 := (hk9.walk.1 _ _ hnb).trans e1
      refine ⟨rfl, ?_⟩
      simp only [putsL]
      change quietTo _ _ _ _ (Sem.run _ (execOp (Act.eval (Act.put (Act.put (Act.put _ (some 30) (sv 3)) (some 29) (sv 2)) (some 28) (sv 1))) _) _)
      try simp only [Act.put, List.setIfInBounds_toArray, List.set_cons_succ, List.set_cons_zero]
      simp [go_sem, quietTo, Ext.refl, ↓IntWalk.iteOmega, f1, f3, hlI]
      all_goals try simp (disch := omega) only [IntWalk.i64_in]
      all_goals first
        | rfl
    refine fac_quiet 5 rfl rfl rfl (fun _ _ h _ => h) rfl rfl ?_
    apply Exists.intro
    refine ⟨fun sv w' hw' hfa => ?_, ?_⟩
    · obtain ⟨_, _, _, f4, -⟩ := hfa
      replace f4 : sv 4 = _ := f4
      try dsimp only at f4
      have hk9 := (Ext.refl w).drew.trans hw'; obtain ⟨y1, -⟩ := (hlw.ext hk9).walk; obtain ⟨y2, -⟩ := (hwho.ext hk9).walk; obtain ⟨y3, -⟩ := (htw.ext hk9).walk; have y4 := (hk9.walk.1 _ _ hnb).trans e1
      refine ⟨rfl, ?_⟩
      simp only [putsL]
      change quietTo _ _ _ _ (Sem.run _ (execOp (Act.eval (Act.put (Act.put (Act.put (Act.put _ (some 31) (sv 4)) (some 30) (sv 3)) (some 29) (sv 2)) (some 28) (sv 1))) _) _)
      try simp only [Act.put, List.setIfInBounds_toArray, List.set_cons_succ, List.set_cons_zero]
      simp [go_sem, quietTo, Ext.refl, ↓IntWalk.iteOmega, f4, y4]
      all_goals try simp (disch := omega) only [IntWalk.i64_in]
      all_goals first
        | rfl
    refine fac_quiet 6 rfl rfl rfl (fun _ _ h _ => h) rfl rfl ?_
    apply Exists.intro
    refine ⟨fun sv w' hw' hfa => ?_, ?_⟩
    · have hk9 := (Ext.refl w).drew.trans hw'; obtain ⟨y1, -⟩ := (hlw.ext hk9).walk; obtain ⟨y2, -⟩ := (hwho.ext hk9).walk; obtain ⟨y3, -⟩ := (htw.ext hk9).walk; have y4 := (hk9.walk.1 _ _ hnb).trans e1
      refine ⟨rfl, ?_⟩
      simp only [putsL]
      change quietTo _ _ _ _ (Sem.run _ (execOp (Act.eval _) _) _)
      try simp only [Act.put, List.setIfInBounds_toArray, List.set_cons_succ, List.set_cons_zero]
      simp [go_sem, quietTo, Ext.refl, ↓IntWalk.iteOmega, y3]
      all_goals try simp (disch := omega) only [IntWalk.i64_in]
      all_goals first
        | rfl
    refine fac_quiet 7 rfl rfl rfl (fun _ _ h _ => h) rfl rfl ?_
    apply Exists.intro
    refine ⟨fun sv w' hw' hfa => ?_, ?_⟩
    · obtain ⟨f0, f1, f2, f3, f4, f5, f6, -⟩ := hfa
      replace f0 : sv 0 = _ := f0
      try dsimp only at f0
      replace f1 : sv 1 = _ := f1
      try dsimp only at f1
      replace f2 : sv 2 = _ := f2
      try dsimp only at f2
      replace f3 : sv 3 = _ := f3
      try dsimp only at f3
      replace f4 : sv 4 = _ := f4
      try dsimp only at f4
      replace f5 : sv 5 = _ := f5
      try dsimp only at f5
      replace f6 : sv 6 = _ := f6
      try dsimp only at f6
      have hk9 := (Ext.refl w).drew.trans hw'; obtain ⟨y1, -⟩ := (hlw.ext hk9).walk; obtain ⟨y2, -⟩ := (hwho.ext hk9).walk; obtain ⟨y3, -⟩ := (htw.ext hk9).walk; have y4 := (hk9.walk.1 _ _ hnb).trans e1
      refine ⟨rfl, ?_⟩
      simp only [putsL]
      change quietTo _ _ _ _ (Sem.run _ (execOp (Act.eval (Act.put (Act.put (Act.put (Act.put (Act.put (Act.put (Act.put _ (some 33) (sv 6)) (some 32) (sv 5)) (some 31) (sv 4)) (some 30) (sv 3)) (some 29) (sv 2)) (some 28) (sv 1)) (some 27) (sv 0))) _) _)
      try simp only [Act.put, List.setIfInBounds_toArray, List.set_cons_succ, List.set_cons_zero]
      simp [go_sem, quietTo, Ext.refl, ↓IntWalk.iteOmega, f0, f5, f6]
      all_goals try simp (disch := omega) only [IntWalk.i64_in]
      all_goals first
        | rfl
        | (exact hro.out _ (hex.trans hk9))
    refine fac_quiet 8 rfl rfl rfl (fun _ _ h _ => h) rfl rfl ?_
    apply Exists.intro
    refine ⟨fun sv w' hw' hfa => ?_, ?_⟩
    · obtain ⟨_, _, _, _, _, _, _, f7, -⟩ := hfa
      replace f7 : sv 7 = _ := f7
      try dsimp only at f7
      refine ⟨rfl, ?_⟩
      simp only [putsL]
      change quietTo _ _ _ _ (Sem.run _ (execOp (Act.eval (Act.put (Act.put (Act.put (Act.put (Act.put (Act.put (Act.put (Act.put _ (some 34) (sv 7)) (some 33) (sv 6)) (some 32) (sv 5)) (some 31) (sv 4)) (some 30) (sv 3)) (some 29) (sv 2)) (some 28) (sv 1)) (some 27) (sv 0))) _) _)
      try simp only [Act.put, List.setIfInBounds_toArray, List.set_cons_succ, List.set_cons_zero]
      simp [go_sem, quietTo, Ext.refl, f7]
      all_goals first
        | rfl
    refine fac_quiet 9 rfl rfl rfl (fun _ _ h _ => h) rfl rfl ?_
    apply Exists.intro
    refine ⟨fun sv w' hw' hfa => ?_, ?_⟩
    · obtain ⟨_, _, _, _, _, _, _, _, f8, -⟩ := hfa
      replace f8 : sv 8 = _ := f8
      try dsimp only at f8
      refine ⟨rfl, ?_⟩
      simp only [putsL]
      change quietTo _ _ _ _ (Sem.run _ (execOp (Act.eval (Act.put (Act.put (Act.put (Act.put (Act.put (Act.put (Act.put (Act.put (Act.put _ (some 26) (sv 8)) (some 34) (sv 7)) (some 33) (sv 6)) (some 32) (sv 5)) (some 31) (sv 4)) (some 30) (sv 3)) (some 29) (sv 2)) (some 28) (sv 1)) (some 27) (sv 0))) _) _)
      try simp only [Act.put, List.setIfInBounds_toArray, List.set_cons_succ, List.set_cons_zero]
      simp [go_sem, quietTo, Ext.refl, f8]
      all_goals first
        | rfl
    refine fac_late 10 rfl rfl Ext.refl (fun _ _ h _ => h) rfl rfl (fun _ _ _ _ h => h) ?_
    apply Exists.intro
    refine ⟨fun sv w' hw' hfa => ?_, ?_⟩
    · obtain ⟨_, _, _, _, _, _, _, _, f8, -⟩ := hfa
      replace f8 : sv 8 = _ := f8
      try dsimp only at f8
      refine ⟨rfl, fun w2 => ?_⟩
      simp only [putsL]
      change pureTo _ _ (Sem.run _ (execOp (Act.eval (Act.put (Act.put (Act.put (Act.put (Act.put (Act.put (Act.put (Act.put (Act.put _ (some 26) (sv 8)) (some 34) (sv 7)) (some 33) (sv 6)) (some 32) (sv 5)) (some 31) (sv 4)) (some 30) (sv 3)) (some 29) (sv 2)) (some 28) (sv 1)) (some 27) (sv 0))) _) _)
      try simp only [Act.put, List.setIfInBounds_toArray, List.set_cons_succ, List.set_cons_zero]
      simp [go_sem, pureTo, f8]
      all_goals try simp (disch := omega) only [IntWalk.i64_in]
      all_goals first
        | rfl
    refine fac_box 11 rfl rfl rfl (fun _ _ h _ => h) (fun _ _ h => h.size) (fun _ _ _ _ _ he _ hb => hb.ext he) ?_
    apply Exists.intro
    apply Exists.intro
    refine ⟨fun sv w' hw' hfa => ?_, ?_⟩
    · refine ⟨rfl, ?_⟩
      simp only [putsL]
      change boxTo _ _ _ (Sem.run _ (execOp (Act.eval _) _) _)
      try simp only [Act.put, List.setIfInBounds_toArray, List.set_cons_succ, List.set_cons_zero]
      simp [go_sem, boxTo, Ext.refl]
      all_goals try simp (disch := omega) only [IntWalk.i64_in]
      all_goals first
        | rfl
        | exact ⟨rfl, rfl⟩
        | exact ⟨⟨rfl, rfl⟩, rfl⟩
    refine fac_nil fun xa wra hera hfra hcra holda hapa => ?_
    obtain ⟨f0, f1, f2, f3, f4, f5, f6, f7, f8, f9, f10, f11, -⟩ := hfra
    replace f0 : xa 0 = _ := f0
    try dsimp only at f0
    replace f1 : xa 1 = _ := f1
    try dsimp only at f1
    replace f2 : xa 2 = _ := f2
    try dsimp only at f2
    replace f3 : xa 3 = _ := f3
    try dsimp only at f3
    replace f4 : xa 4 = _ := f4
    try dsimp only at f4
    replace f5 : xa 5 = _ := f5
    try dsimp only at f5
    replace f6 : xa 6 = _ := f6
    try dsimp only at f6
    replace f7 : xa 7 = _ := f7
    try dsimp only at f7
    replace f8 : xa 8 = _ := f8
    try dsimp only at f8
    replace f9 : xa 9 = _ := f9
    try dsimp only at f9
    replace f10 : xa 10 = _ := f10
    try dsimp only at f10
    obtain ⟨g11, f11, l11, b11⟩ := f11
    replace f11 : xa 11 = _ := f11
    obtain ⟨p11, q11⟩ := b11.walk
    change wpList _ _ _ _ (Act.put (Act.put (Act.put (Act.put (Act.put (Act.put (Act.put (Act.put (Act.put (Act.put (Act.put (Act.put _ (some 27) (xa 0)) (some 28) (xa 1)) (some 29) (xa 2)) (some 30) (xa 3)) (some 31) (xa 4)) (some 32) (xa 5)) (some 33) (xa 6)) (some 34) (xa 7)) (some 26) (xa 8)) (some 35) (xa 9)) (some 36) (xa 10)) (some 11) (xa 11)) _
    simp only [putsL, Nat.reduceAdd, List.drop_succ_cons, List.drop_zero, List.drop_nil, Act.put, List.setIfInBounds_toArray, List.set_cons_succ, List.set_cons_zero]
    try simp only [f0, f1, f2, f3, f4, f5, f6, f7, f8, f9, f10, f11]
    clear f0 f1 f2 f3 f4 f5 f6 f7 f8 f9 f10
    clear holda hapa
    have hEa := (Ext.refl w).drew.trans hera
    have hgw : w.heap.size ≤ g11 := l11
    have hgl11 := b11.lt
    go_upto_region 2 with fail
    have hR : Blk ((wra.setCell ⟨g11, 0, none⟩ (.int .i64 ra)).setCell ⟨g11, 1, none⟩ (.int .i64 rb)) g11 55 #[.int .i64 ra, .int .i64 rb] := ((b11.set_ 0 (.int .i64 ra)).set_ 1 (.int .i64 rb)).cast (by simp)
    have hE2 : Ext w ((wra.setCell ⟨g11, 0, none⟩ (.int .i64 ra)).setCell ⟨g11, 1, none⟩ (.int .i64 rb)) := (hEa.setCell (p := ⟨g11, 0, none⟩) hgw _).setCell (p := ⟨g11, 1, none⟩) hgw _
    generalize (wra.setCell ⟨g11, 0, none⟩ (.int .i64 ra)).setCell ⟨g11, 1, none⟩ (.int .i64 rb) = W2 at *
    have hp2 := hpw.ext hE2
    have hT2 := h.out.more hE2
    have hgo2 := own_ext hE2 hgo
    have hpar := hVP.par
    have hsP := hVP.sP
    have hgz : g11 < W2.heap.size := hR.lt
    have hmore := foldG_more (P := P) (C := comL V t P) (show g.length < (comL V t P).length by omega) g st
    have hfl := fun (g' : List Nat) st' => foldG_len hP4 (comL V t P) (g.length + 1) g' st'
    have hmm2 : (comL V t P).length - (g.length + 1) = m := by omega
    rw [hmm2] at hfl
    obtain ⟨F, hF⟩ : ∃ F : List (List Nat) × Int → Nat → List (List Nat) × Int, (fun st p => if ((comL V t P).getD g.length []).getD p (-1) < 0 then st else foldG P (comL V t P) (g.length + 1) (g ++ [p]) st) = F := ⟨_, rfl⟩
    rw [hF] at hmore
    have hFv := fun st p => congrFun (congrFun hF st) p
    rw [hmore]
    have hne11 : g11 ≠ bm ∧ g11 ≠ bb := by have := h.out.lt; have := h.out.size; omega
    have hpl : (2 : Nat) ≤ 2 := Nat.le_refl _
    have hp4m : 4 ^ (m + 1) = 4 * 4 ^ m := by rw [Nat.pow_succ, Nat.mul_comm]
    obtain ⟨z2, -⟩ := hp2.walk
    have z2l := hp2.lt
    replace hFv := Lib.hid hFv
    replace hfl := Lib.hid hfl
    replace hcom := Lib.hid hcom
    replace hmore := Lib.hid hmore
    replace hgo2 := Lib.hid hgo2
    replace hT2 := Lib.hid hT2
    clear hF b11 p11 q11 hera hEa z1
    go_wp2
    go_loopw [39] (fun v39 wr => ∃ (k : Nat) (st' : List (List Nat) × Int), v39 = .int .i64 k ∧ k ≤ P.length ∧ (List.range k).foldl F st = st' ∧ st'.1.length ≤ st.1.length + k * 4 ^ m ∧ TryD w0 z bw bc bm bb (.slice (some ⟨nb, noff, none⟩) (singersL V t).length sc) (.func (.func 56) #[] #[.pointer (some ⟨bw, 0, none⟩), .pointer (some ⟨bl, 0, none⟩), .pointer (some ⟨bt, 0, none⟩), .pointer (some ⟨bp, 0, none⟩), .pointer (some ⟨bc, 0, none⟩), .pointer (some ⟨bm, 0, none⟩), .pointer (some ⟨bb, 0, none⟩)]) st' wr ∧ KeepD z bm bb W2 wr) (fun v39 _ => P.length - (intOf v39).toNat)
    case atStart => exact ⟨0, st, rfl, Nat.zero_le _, rfl, by omega, hT2.out, KeepD.refl _⟩
    case round =>
      clear z2
      obtain ⟨k, st', rfl, hk, hst, hsl, hT, hK⟩ := hrel
      have hlt := hT.lt
      have hgoW := hK.own hgo2.out hlt.2.2.1 hlt.2.2.2
      have hRW := hK.blk hR hne11.1 hne11.2 (by decide)
      have hEw := hT.ext
      by_cases hkP : k < P.length
      · obtain ⟨x, hx⟩ := getD_some (rfl : P.length = P.length) hkP
        obtain ⟨s1, ⟨s2, s3⟩, ⟨s4, s5⟩, s6, s7⟩ := hsP x (List.mem_of_getElem? hx)
        have hkI : (k : Int) < P.length := by omega
        obtain ⟨-, ⟨_, e9⟩ | ⟨pb, poff, rfl, hpb, hpE⟩⟩ := slcC (hpar.ext hEw)
        · rw [e9] at hx; cases hx
        obtain ⟨c0, c1, c2, c3, c4⟩ := hpE.part hx
        have hX : Blk (wr.alloc (.cells #[.string x.name, .int .i64 x.lo, .int .i64 x.hi, .int .i64 x.least, .int .i64 x.most] 63)) wr.heap.size 63 #[.string x.name, .int .i64 x.lo, .int .i64 x.hi, .int .i64 x.least, .int .i64 x.most] := Blk.new' rfl
        have hEx : Ext wr (wr.alloc (.cells #[.string x.name, .int .i64 x.lo, .int .i64 x.hi, .int .i64 x.least, .int .i64 x.most] 63)) := (Ext.refl _).alloc _
        have hck := hcom.out k x hx
        have hcf : ∀ u, Calls Tryz.prog 58 #[.agg #[.int .i64 ra, .int .i64 rb], .agg #[.int .i64 x.lo, .int .i64 x.hi]] u fun e w' => e = .returned (.int .i64 (comF (ra, rb) (x.lo, x.hi))) ∧ Ext u w' := fun u => comfortOf_any (ra, rb) (x.lo, x.hi) u hr1 hr2 ⟨s2, s3⟩ ⟨s4, s5⟩
        have hnx : (List.range (k + 1)).foldl F st = F st' k := by rw [fold_snoc, hst]
        have hFk := hFv.out st' k
        rw [← hFk, hck] at hnx
        obtain ⟨cf, hcfe⟩ : ∃ c, comF (ra, rb) (x.lo, x.hi) = c := ⟨_, rfl⟩
        have hcfb : -2000 ≤ cf ∧ cf ≤ 2000 := by rw [← hcfe]; unfold comF; simp only; omega
        rw [hcfe] at hnx hck
        simp only [hcfe] at hcf
        have hRX := hRW.ext hEx
        replace hcf := Lib.hid hcf
        replace hnx := Lib.hid hnx
        replace hst := Lib.hid hst
        replace hx := Lib.hid hx
        replace hT := Lib.hid hT
        replace hK := Lib.hid hK
        replace hgoW := Lib.hid hgoW
        clear hpE hFk hcfe
        go_upto_region 5 with fail
        generalize wr.alloc (.cells #[.string x.name, .int .i64 x.lo, .int .i64 x.hi, .int .i64 x.least, .int .i64 x.most] 63) = W3 at *
        generalize wr.heap.size = gx at *
        obtain ⟨y1, -⟩ := hRX.walk
        have y1l := hRX.lt
        obtain ⟨y2, -⟩ := hX.walk
        have y2l := hX.lt
        clear c0 c1 c2 c3 c4 hpb
        by_cases hcn : cf < 0
        · have hnx2 := hnx.out
          rw [if_pos hcn] at hnx2
          replace hnx2 := Lib.hid hnx2
          have hcn2 : ¬ 0 ≤ cf := by omega
          go_wp2_with (go_at_call 58; (with_reducible refine Calls.mono (hcf.out _) ?_); rintro e w5 ⟨rfl, hb5⟩)
          go_roundw
          case rel => exact ⟨k + 1, st', by go_num, by omega, hnx2.out, by rw [Nat.add_mul]; omega, (hT.out.more hEx).more hb5, (hK.out.trans (Ext.keepD hEx)).trans (Ext.keepD hb5)⟩
          case measure => simp [intOf]; omega
        · have hnx2 := hnx.out
          rw [if_neg hcn] at hnx2
          replace hnx2 := Lib.hid hnx2
          have hcn2 : 0 ≤ cf := by omega
          have hsn := sumG_snoc (comL V t P) g k (by omega)
          rw [hck] at hsn
          have hgk : (g ++ [k]).length = g.length + 1 := by simp
          have hgkx : ∀ y ∈ g ++ [k], y < P.length := fun y hy => by
            rcases List.mem_append.1 hy with h1 | h1
            · exact hgx y h1
            · rw [List.mem_singleton.1 h1]; exact hkP
          have hrec : ∀ (b9 c9 base : Nat) (u : World), TryD w0 z bw bc bm bb (.slice (some ⟨nb, noff, none⟩) (singersL V t).length sc) (.func (.func 56) #[] #[.pointer (some ⟨bw, 0, none⟩), .pointer (some ⟨bl, 0, none⟩), .pointer (some ⟨bt, 0, none⟩), .pointer (some ⟨bp, 0, none⟩), .pointer (some ⟨bc, 0, none⟩), .pointer (some ⟨bm, 0, none⟩), .pointer (some ⟨bb, 0, none⟩)]) st' u → z ≤ base → u.ownsRow base 3 1 (.slice (some ⟨b9, 0, none⟩) (g.length + 1) c9) (g.length + 1) ((g ++ [k]).flatMap natC) →
              Calls Tryz.prog 56 #[.slice (some ⟨b9, 0, none⟩) (g.length + 1) c9, .int .i64 (sumG (comL V t P) g + cf), .pointer (some ⟨bw, 0, none⟩), .pointer (some ⟨bl, 0, none⟩), .pointer (some ⟨bt, 0, none⟩), .pointer (some ⟨bp, 0, none⟩), .pointer (some ⟨bc, 0, none⟩), .pointer (some ⟨bm, 0, none⟩), .pointer (some ⟨bb, 0, none⟩)] u (TryRes w0 z bw bc bm bb (.slice (some ⟨nb, noff, none⟩) (singersL V t).length sc) (.func (.func 56) #[] #[.pointer (some ⟨bw, 0, none⟩), .pointer (some ⟨bl, 0, none⟩), .pointer (some ⟨bt, 0, none⟩), .pointer (some ⟨bp, 0, none⟩), .pointer (some ⟨bc, 0, none⟩), .pointer (some ⟨bm, 0, none⟩), .pointer (some ⟨bb, 0, none⟩)]) (foldG P (comL V t P) (g.length + 1) (g ++ [k]) st') u) := fun b9 c9 base u hTu hbs how => by
            have := ih.out (g.length + 1) (g ++ [k]) st' u (some ⟨b9, 0, none⟩) c9 (by omega) hgk hgkx (by rw [hsn]; omega) (by
              have : (k + 1) * 4 ^ m ≤ 4 * 4 ^ m := Nat.mul_le_mul_right _ (by omega)
              rw [Nat.add_mul] at this
              omega) hTu (by rw [hgk]; exact own_low how hbs)
            rw [hgk, hsn] at this
            exact this
          have hfl2 := hfl.out (g ++ [k]) st'
          generalize foldG P (comL V t P) (g.length + 1) (g ++ [k]) st' = R9 at *
          replace hrec := Lib.hid hrec
          replace hfl2 := Lib.hid hfl2
          go_upto_region 7 with (go_at_call 58; (with_reducible refine Calls.mono (hcf.out _) ?_); rintro e wq ⟨rfl, hb5⟩)
          have hT5 := (hT.out.more hEx).more hb5
          have hK5 := (hK.out.trans (Ext.keepD hEx)).trans (Ext.keepD (z := z) (bm := bm) (bb := bb) hb5)
          have hgo5 := own_ext hb5 (own_ext hEx hgoW.out)
          have hfn5 := hT5.fn
          have hzq := hT5.size
          have hgl200 : g.length ≤ 200 := by omega
          obtain ⟨q9, d9, e9, hg5⟩ := slc_of_own (enc := natC) (fun _ => rfl) hgo5 (by decide) (by omega)
          cases e9
          replace hT5 := Lib.hid hT5
          replace hK5 := Lib.hid hK5
          clear y1 y2 y1l y2l hX hRX hRW hT hK hgoW hgo5 hcf
          refine wp_region_forks [0, 1, 3, 6, 7, 8] 4 (fun w' => Blk w' bc 107 #[.func (.func 56) #[] #[.pointer (some ⟨bw, 0, none⟩), .pointer (some ⟨bl, 0, none⟩), .pointer (some ⟨bt, 0, none⟩), .pointer (some ⟨bp, 0, none⟩), .pointer (some ⟨bc, 0, none⟩), .pointer (some ⟨bm, 0, none⟩), .pointer (some ⟨bb, 0, none⟩)]] ∧ (KeepD z bm bb wq w')) Ext (by kernel_rfl) (by kernel_rfl) Ext.refl (fun _ _ _ => Ext.trans) (fun _ _ h he => ⟨h.1.ext he, h.2.trans (Ext.keepD he)⟩) ⟨(by (repeat (with_reducible first | assumption | exact Blk.new' (by simp) | refine Blk.drew ?_ | refine Blk.alloc ?_ _ | exact Ext.refl _ | refine Ext.drew ?_ | refine Ext.alloc ?_ _))), (Ext.keepD (Ext.refl wq).drew)⟩ ?_
          repeat
            first
              | (refine q_quiet rfl rfl (fun _ _ _ _ h => h) ?_
                 apply Exists.intro
                 refine ⟨fun w' hw' => ?_, ?_⟩
                 · obtain ⟨hH0, hH1⟩ := hw'
                   unfold Blk at hH0
                   simp [go_sem, quietTo, World.cell?, hH0, Ext.refl, ↓IntWalk.iteOmega]
                   first
                     | rfl
                 simp only [Act.put, List.setIfInBounds_toArray, List.set_cons_succ, List.set_cons_zero])
              | (refine q_skip rfl rfl (fun _ _ _ _ h => h) ?_
                 simp only [Act.put, List.setIfInBounds_toArray, List.set_cons_succ, List.set_cons_zero])
          refine q_nil ?_
          try simp only [List.length_cons, List.length_nil, Nat.reduceAdd, Array.replicate_succ, Array.replicate_zero, List.push_toArray, List.nil_append, List.cons_append, List.setIfInBounds_toArray, List.set_cons_succ, List.set_cons_zero]
          refine ww_two (i := 2) (j := 4) rfl rfl rfl rfl (by kernel_rfl) ?_ ?_
          · intro w5 e5 h5 K5 hK5'
            have hE5 : Ext wq w5 := (Ext.refl wq).drew.trans e5
            go_wp2_with (go_at_call 59; (with_reducible refine Calls.mono (clone_int (enc := natC) (fun n => (n : Int)) (fun _ => rfl) gp g.length gc g _ (hg5.ext hE5) (by omega)) ?_); rintro e w6 ⟨p6, c6, rfl, ho6, hb6⟩)
            refine ⟨⟨h5.1.ext hb6, h5.2.trans (Ext.keepD hb6)⟩, ?_⟩
            try simp only [List.setIfInBounds_toArray, List.set_cons_succ, List.set_cons_zero]
            refine ww_one (i := 4) rfl rfl (by kernel_rfl) ?_
            intro w7 e7 h7 K7 hK7
            go_wp2_with fail
            refine ⟨⟨h7.1.alloc _, h7.2.trans (Ext.keepD ((Ext.refl _).alloc _))⟩, ?_⟩
            try simp only [List.setIfInBounds_toArray, List.set_cons_succ, List.set_cons_zero]
            refine ww_one (i := 5) rfl rfl (by kernel_rfl) ?_
            intro w8 e8 h8 K8 hK8
            have own8 : w8.ownsRow w5.heap.size 3 1 (.slice p6 g.length c6) g.length (g.flatMap natC) := own_ext e8 ((own_ext e7 ho6).alloc _)
            have lit8 : Blk w8 w7.heap.size 3 #[.int .i64 k] := (Blk.new' rfl).ext e8
            have hE8 : Ext wq w8 := (((hE5.trans hb6).trans e7).alloc _).trans e8
            have hbz : z ≤ w5.heap.size := Nat.le_trans hzq hE5.size
            have hb8 : w5.heap.size ≤ w8.heap.size := (((Ext.refl _).trans hb6).trans ((e7.alloc _).trans e8)).size
            refine wp_appO w8 (.tmp 52) (.tmp 54) 22 3 1 8 (.int .i64 0) rfl Tryz.underlying22 intInfo rfl (by decide) (by decide) w5.heap.size p6 g.length c6 _ rfl own8 w7.heap.size (natC k) rfl rfl lit8 (by simp [natC, Value.oneCell']) (by omega) hb8 fun b9 c9 w9 hown9 hgrow9 _ => ?_
            have hE9 : Ext wq w9 := hE8.grown hgrow9 fun j e => Nat.le_trans hE5.size (own8.lt j e).1
            have hT9 := hT5.out.more hE9
            refine hK8 _ _ ⟨⟨hT9.fn, Ext.keepD hE9⟩, ?_⟩
            try simp only [List.setIfInBounds_toArray, List.set_cons_succ, List.set_cons_zero]
            refine ww_one (i := 9) rfl rfl (by kernel_rfl) ?_
            intro w10 e10 h10 K10 hK10
            have own10 := own_ext e10 hown9
            rw [← flat_snoc] at own10
            have hih := hrec.out b9 c9 w5.heap.size w10 (hT9.more e10) hbz own10
            replace hih := Lib.hid hih
            go_wp2_with (go_at_call 56; (with_reducible refine Calls.mono hih.out ?_); rintro e w11 ⟨rfl, hK11, hT11⟩)
            refine ⟨⟨hT11.fn, (Ext.keepD (hE9.trans e10)).trans hK11⟩, ?_⟩
            try simp only [List.setIfInBounds_toArray, List.set_cons_succ, List.set_cons_zero]
            refine ww_done (by kernel_rfl) fun w12 e12 h12 => ?_
            have hKend : KeepD z bm bb W2 w12 := (hK5.out.trans ((Ext.keepD (hE9.trans e10)).trans hK11)).trans (Ext.keepD e12)
            have hTend := hT11.more e12
            replace hTend := Lib.hid hTend
            replace hKend := Lib.hid hKend
            try dsimp only [Exit.then]
            go_wp2
            go_roundw
            case rel => exact ⟨k + 1, R9, by go_num, by omega, hnx2.out, by have := hfl2.out; rw [Nat.add_mul]; omega, hTend.out, hKend.out⟩
            case measure => simp [intOf]; omega
          · intro w5 e5 h5 K5 hK5'
            have hE5 : Ext wq w5 := (Ext.refl wq).drew.trans e5
            go_wp2_with fail
            refine ⟨⟨h5.1.alloc _, h5.2.trans (Ext.keepD ((Ext.refl _).alloc _))⟩, ?_⟩
            try simp only [List.setIfInBounds_toArray, List.set_cons_succ, List.set_cons_zero]
            refine ww_one (i := 2) rfl rfl (by kernel_rfl) ?_
            intro w6 e6 h6 K6 hK6
            go_wp2_with (go_at_call 59; (with_reducible refine Calls.mono (clone_int (enc := natC) (fun n => (n : Int)) (fun _ => rfl) gp g.length gc g _ (hg5.ext ((hE5.alloc _).trans e6)) (by omega)) ?_); rintro e w7 ⟨p6, c6, rfl, ho7, hb7⟩)
            refine ⟨⟨h6.1.ext hb7, h6.2.trans (Ext.keepD hb7)⟩, ?_⟩
            try simp only [List.setIfInBounds_toArray, List.set_cons_succ, List.set_cons_zero]
            refine ww_one (i := 5) rfl rfl (by kernel_rfl) ?_
            intro w8 e8 h8 K8 hK8
            have own8 : w8.ownsRow w6.heap.size 3 1 (.slice p6 g.length c6) g.length (g.flatMap natC) := own_ext e8 ho7
            have lit8 : Blk w8 w5.heap.size 3 #[.int .i64 k] := (((Blk.new' rfl).ext e6).ext hb7).ext e8
            have hE8 : Ext wq w8 := (((hE5.alloc _).trans e6).trans hb7).trans e8
            have hbz : z ≤ w6.heap.size := Nat.le_trans hzq ((hE5.alloc _).trans e6).size
            have hb8 : w6.heap.size ≤ w8.heap.size := (hb7.trans e8).size
            refine wp_appO w8 (.tmp 52) (.tmp 54) 22 3 1 8 (.int .i64 0) rfl Tryz.underlying22 intInfo rfl (by decide) (by decide) w6.heap.size p6 g.length c6 _ rfl own8 w5.heap.size (natC k) rfl rfl lit8 (by simp [natC, Value.oneCell']) (by omega) hb8 fun b9 c9 w9 hown9 hgrow9 _ => ?_
            have hE9 : Ext wq w9 := hE8.grown hgrow9 fun j e => Nat.le_trans ((hE5.alloc _).trans e6).size (own8.lt j e).1
            have hT9 := hT5.out.more hE9
            refine hK8 _ _ ⟨⟨hT9.fn, Ext.keepD hE9⟩, ?_⟩
            try simp only [List.setIfInBounds_toArray, List.set_cons_succ, List.set_cons_zero]
            refine ww_one (i := 9) rfl rfl (by kernel_rfl) ?_
            intro w10 e10 h10 K10 hK10
            have own10 := own_ext e10 hown9
            rw [← flat_snoc] at own10
            have hih := hrec.out b9 c9 w6.heap.size w10 (hT9.more e10) hbz own10
            replace hih := Lib.hid hih
            go_wp2_with (go_at_call 56; (with_reducible refine Calls.mono hih.out ?_); rintro e w11 ⟨rfl, hK11, hT11⟩)
            refine ⟨⟨hT11.fn, (Ext.keepD (hE9.trans e10)).trans hK11⟩, ?_⟩
            try simp only [List.setIfInBounds_toArray, List.set_cons_succ, List.set_cons_zero]
            refine ww_done (by kernel_rfl) fun w12 e12 h12 => ?_
            have hKend : KeepD z bm bb W2 w12 := (hK5.out.trans ((Ext.keepD (hE9.trans e10)).trans hK11)).trans (Ext.keepD e12)
            have hTend := hT11.more e12
            replace hTend := Lib.hid hTend
            replace hKend := Lib.hid hKend
            try dsimp only [Exit.then]
            go_wp2
            go_roundw
            case rel => exact ⟨k + 1, R9, by go_num, by omega, hnx2.out, by have := hfl2.out; rw [Nat.add_mul]; omega, hTend.out, hKend.out⟩
            case measure => simp [intOf]; omega
      · obtain rfl : k = P.length := by omega
        have hkI : ¬ ((P.length : Nat) : Int) < P.length := by omega
        replace hT := Lib.hid hT
        go_wp2
        try simp only [Exit.inBlock, Exit.then]
        refine bodyPost_ret (results_none rfl _ _ _) rfl ?_
        exact ⟨rfl, (Ext.keepD hE2).trans hK, by rw [hmore.out, hst]; exact hT.out⟩
end Go.Proofs.YtcdjkgfdhngmeaaGreatDoor
