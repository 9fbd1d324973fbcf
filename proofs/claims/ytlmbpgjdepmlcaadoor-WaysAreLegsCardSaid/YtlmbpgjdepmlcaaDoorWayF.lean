/- The shortest ways to a place, found. Conditions: the legs are right. -/
import Derived.Test.YtlmbpgjdepmlcaaDoorWayE
import Derived.Outline
namespace Go.Proofs.YtlmbpgjdepmlcaaDoor
open Go Go.RowKit

theorem Settled.zero (L : List LegV) (f : St) : Settled L f 0 := fun j x hj => absurd hj (Nat.not_lt_zero _)
theorem Settled.succ {L : List LegV} {f : St} {i : Nat} {x : LegV} (h : Settled L f i) (hx : L[i]? = some x) (hs : ∀ r, f x.to = some r → ∃ o, f x.fr = some o ∧ lessW (byW r x) o = false) : Settled L f (i + 1) := fun j y hj hy r hr => by
  by_cases e : j = i
  · subst e
    rw [hx] at hy
    cases hy
    exact hs r hr
  · exact h j y (by omega) hy r hr

section
variable {P : Program} {ops : Array Oper} {rest : List Oper} {o : Oper} {a : Act} {w : World} {Q : Exit → Act → World → Prop}
theorem wpList_look (hg : o.guard = none) (m x : Operand) (t : TypeId) (ok : Bool) (hop : o.op = Op.lookup t m x ok) (mv kv v : Value) (hm : a.eval m = mv) (hx : a.eval x = kv) (hrun : (Instr.lookup t mv kv ok).run P w = .ok v w)
    (hK : wpList P ops Q rest (a.put o.dst v) w) : wpList P ops Q (o :: rest) a w := by
  refine wpList_plain hg fun K' hK' => ?_
  unfold Oper.wp
  simp [execOp, hop, hm, hx, hrun, Result.andThen]
  exact hK' _ _ hK
theorem wpList_put (hg : o.guard = none) (m x y : Operand) (t : TypeId) (hop : o.op = Op.mapUpdate t m x y) (mv kv v : Value) (hm : a.eval m = mv) (hx : a.eval x = kv) (hy : a.eval y = v) (w' : World) (hrun : (Instr.mapUpdate t mv kv v).run P w = .ok () w')
    (hK : wpList P ops Q rest (a.put o.dst undef) w') : wpList P ops Q (o :: rest) a w := by
  refine wpList_plain hg fun K' hK' => ?_
  unfold Oper.wp
  simp [execOp, hop, hm, hx, hy, hrun, Result.andThen]
  exact hK' _ _ hK
end

set_option maxRecDepth 100000 in
set_option maxHeartbeats 6400000 in
theorem waysTo_any (p : Option Addr) (n c : Nat) (L : List LegV) (t : ByteArray) (w : World) (hS : Slc 3 legC w p n c L) (hL : LegsOk L) (hs : ∀ x ∈ L, x.Small) (ht : t.size ≤ 1000) :
    Calls Tryd.prog 39 #[.slice p n c, .string t] w fun e w' => ∃ (b : Nat) (f : St), e = .returned (.map (some b)) ∧ w.heap.size ≤ b ∧ OwnW w' b (placesL L) f ∧ Ext w w' ∧ ((L.any (onLeg t) = true ∧ Inv L t f ∧ Settled L f L.length) ∨ (L.any (onLeg t) = false ∧ f = fun _ => none)) := by
  have hB : Blk ((w.alloc (.cells #[.string t] 9)).alloc (.map #[] 0)) w.heap.size 9 #[.string t] := (Blk.new' rfl).alloc _
  have hO : OwnW ((w.alloc (.cells #[.string t] 9)).alloc (.map #[] 0)) (w.heap.size + 1) (placesL L) (fun _ => none) := by
    have := OwnW.made (w.alloc (.cells #[.string t] 9)) (placesL L)
    simpa using this
  have hE : Ext w ((w.alloc (.cells #[.string t] 9)).alloc (.map #[] 0)) := ((Ext.refl w).alloc _).alloc _
  have hh := waysHas t w.heap.size p n c L _ hB (hS.ext hE) (by have := hL.len; omega)
  have hmw : w.heap.size ≤ w.heap.size + 1 := by omega
  have hmm := @run_makeMap Tryd.prog
  go_enter Tryd.func39, Tryd.ntmps39
  go_upto_region 2 with fail
  clear hmm
  generalize (w.alloc (.cells #[.string t] 9)).alloc (.map #[] 0) = W at *
  cases hany : L.any (onLeg t)
  · rw [hany] at hh
    go_wp2_with (go_at_call 60; refine Calls.mono hh ?_; rintro e w1 ⟨rfl, hb1⟩)
    go_ret
    exact ⟨w.heap.size + 1, _, rfl, hmw, hO.ext hb1, hE.trans hb1, .inr ⟨hany, rfl⟩⟩
  · rw [hany] at hh
    have htp := (on_places t L).1 hany
    go_upto_region 4 with (go_at_call 60; refine Calls.mono hh ?_; rintro e w1 ⟨rfl, hb1⟩)
    obtain ⟨w2, hrun, hO2, hg2⟩ := (hO.ext hb1).put ht htp (by rw [places_len]; have := hL.len; omega) (0, 0)
    replace hrun : (Instr.mapUpdate 77 (.map (some (w.heap.size + 1))) (.string t) (.agg #[.int .i64 0, .int .i64 0])).run Tryd.prog w1 = .ok () w2 := hrun
    have hE2 : Ext w w2 := (hE.trans hb1).grown hg2 (fun k hk => by cases hk; exact hmw)
    obtain ⟨s1, s2⟩ := (hB.ext hb1).walk
    go_wp2_with (refine wpList_put rfl _ _ _ 77 rfl (.map (some (w.heap.size + 1))) (.string t) (.agg #[.int .i64 0, .int .i64 0]) rfl rfl rfl w2 hrun ?_)
    clear s1 s2 hrun hh hB
    generalize w.heap.size + 1 = mb at *
    obtain ⟨hn, ⟨rfl, rfl⟩ | ⟨b, off, rfl, hb, hEl⟩⟩ := slc_cases hS
    · cases hany
    · subst hn
      go_loopg [6] (2 * total (bigB L) (St.upd (fun _ => none) t (0, 0)) (placesL L) + 1) (fun gn ch wr => ∃ (f : St) (cc : Bool), ch = .bool cc ∧ OwnW wr mb (placesL L) f ∧ Inv L t f ∧ Ext w wr ∧ (cc = false → Settled L f L.length) ∧ gn = 2 * total (bigB L) f (placesL L) + (if cc then 1 else 0))
      case atStart => exact ⟨_, true, rfl, hO2, Inv.start htp, hE2, (fun h => by cases h), rfl⟩
      case round =>
        obtain ⟨f, cc, rfl, hO3, hI, hE3, hc, rfl⟩ := hrel
        clear hO hO2 hE hE2 hb1 hg2
        cases cc
        · go_wp2
          go_ret
          exact ⟨mb, rfl, hmw, f, hO3, hE3, hI, hc (by trivial)⟩
        · clear hc
          go_wp2
          go_loopw [6, 25] (fun ch i wr => ∃ (f' : St) (cc : Bool) (j : Nat), ch = .bool cc ∧ i = .int .i64 j ∧ j ≤ L.length ∧ OwnW wr mb (placesL L) f' ∧ Inv L t f' ∧ Ext w wr ∧ (cc = false → Settled L f' j ∧ total (bigB L) f' (placesL L) = total (bigB L) f (placesL L)) ∧ (cc = true → total (bigB L) f' (placesL L) < total (bigB L) f (placesL L))) (fun _ i _ => L.length - (intOf i).toNat)
          case atStart => exact ⟨f, false, 0, rfl, rfl, Nat.zero_le _, hO3, hI, hE3, (fun _ => ⟨Settled.zero L f, rfl⟩), fun h => by cases h⟩
          case round =>
            clear hO3 hI hE3
            obtain ⟨f', cc, j, rfl, rfl, hj, hO, hI, hE, h0, h1⟩ := hrel
            by_cases hlt : j < L.length
            · obtain ⟨x, hx⟩ := getD_some rfl hlt
              have hxm := List.mem_of_getElem? hx
              have hxs := hs x hxm
              have hx1 := hL.one x hxm
              obtain ⟨e0, e1, e2⟩ := (hEl.ext hE hb).leg hx
              have hbl : b < wr.heap.size := Nat.lt_of_lt_of_le hb hE.size
              have hj1 : (j : Int) < L.length := by omega
              have hL4 := hL.len
              have l1 := (hO.ext (Ext.alloc (Ext.refl wr) (.cells #[.string x.fr, .string x.to, .int .i64 x.m] 37))).look_ok (p := x.to) hxs.2.1
              cases hto : f' x.to with
              | none =>
                rw [hto] at l1
                replace l1 : (Instr.lookup 77 (.map (some mb)) (.string x.to) true).run Tryd.prog (wr.alloc (.cells #[.string x.fr, .string x.to, .int .i64 x.m] 37)) = .ok (.tuple #[.agg #[.int .i64 0, .int .i64 0], .bool false]) (wr.alloc (.cells #[.string x.fr, .string x.to, .int .i64 x.m] 37)) := l1
                go_wp2_with (refine wpList_look rfl _ _ 77 true rfl (.map (some mb)) (.string x.to) _ rfl rfl l1 ?_)
                go_roundw
                case rel => exact ⟨f', cc, j + 1, rfl, by go_num, by omega, hO.ext (((Ext.refl wr).alloc _).alloc _), hI, (hE.alloc _).alloc _, (fun h => ⟨(h0 h).1.succ hx (fun r hr => by rw [hto] at hr; cases hr), (h0 h).2⟩), h1⟩
                case measure => simp [intOf]; omega
              | some r =>
                have hrb := hI.bound hL (p := x.to) (m := r.1) (k := r.2) hto
                have hbg : bigB L ≤ 80000000001 := by unfold bigB; rw [places_len]; have := hL.len; omega
                have hby := fun u => way_by r x u (by omega) (by omega)
                replace hby := Lib.hid hby
                rw [hto] at l1
                replace l1 : (Instr.lookup 77 (.map (some mb)) (.string x.to) true).run Tryd.prog (wr.alloc (.cells #[.string x.fr, .string x.to, .int .i64 x.m] 37)) = .ok (.tuple #[.agg #[.int .i64 r.1, .int .i64 r.2], .bool true]) (wr.alloc (.cells #[.string x.fr, .string x.to, .int .i64 x.m] 37)) := l1
                have l2 := (hO.ext (Ext.alloc (Ext.alloc (Ext.refl wr) (.cells #[.string x.fr, .string x.to, .int .i64 x.m] 37)) (.cells #[.int .i64 r.1, .int .i64 r.2] 80))).look_ok (p := x.fr) hxs.1
                cases hfr : f' x.fr with
                | none =>
                  have hbet := hI.better hL hxm hto (fun o ho => by rw [hfr] at ho; cases ho)
                  rw [hfr] at l2
                  replace l2 : (Instr.lookup 77 (.map (some mb)) (.string x.fr) true).run Tryd.prog ((wr.alloc (.cells #[.string x.fr, .string x.to, .int .i64 x.m] 37)).alloc (.cells #[.int .i64 r.1, .int .i64 r.2] 80)) = .ok (.tuple #[.agg #[.int .i64 0, .int .i64 0], .bool false]) ((wr.alloc (.cells #[.string x.fr, .string x.to, .int .i64 x.m] 37)).alloc (.cells #[.int .i64 r.1, .int .i64 r.2] 80)) := l2
                  go_upto_region 14 with (first | (refine wpList_look rfl _ _ 77 true rfl (.map (some mb)) (.string x.to) _ rfl rfl l1 ?_) | (refine wpList_look rfl _ _ 77 true rfl (.map (some mb)) (.string x.fr) _ rfl rfl l2 ?_))
                  obtain ⟨W3, hW3⟩ : ∃ W3, W3 = ((wr.alloc (.cells #[.string x.fr, .string x.to, .int .i64 x.m] 37)).alloc (.cells #[.int .i64 r.1, .int .i64 r.2] 80)).alloc (.cells #[.int .i64 0, .int .i64 0] 80) := ⟨_, rfl⟩
                  have hA : Blk W3 wr.heap.size 37 #[.string x.fr, .string x.to, .int .i64 x.m] := hW3 ▸ ((Blk.new' rfl).alloc _).alloc _
                  have hB : Blk W3 (wr.heap.size + 1) 80 #[.int .i64 r.1, .int .i64 r.2] := hW3 ▸ (Blk.new' (by simp)).alloc _
                  have hC : Blk W3 (wr.heap.size + 1 + 1) 80 #[.int .i64 0, .int .i64 0] := hW3 ▸ Blk.new' (by simp)
                  have hO3 : OwnW W3 mb (placesL L) f' := hW3 ▸ hO.ext ((((Ext.refl wr).alloc _).alloc _).alloc _)
                  have hE3 : Ext w W3 := hW3 ▸ (((hE.alloc _).alloc _).alloc _)
                  change Code.wp _ _ _ _ (((wr.alloc (.cells #[.string x.fr, .string x.to, .int .i64 x.m] 37)).alloc (.cells #[.int .i64 r.1, .int .i64 r.2] 80)).alloc (.cells #[.int .i64 0, .int .i64 0] 80))
                  rw [← hW3]
                  clear l1 l2 hO hE hW3
                  generalize wr.heap.size + 1 + 1 = g11 at *
                  generalize wr.heap.size + 1 = g9 at *
                  generalize wr.heap.size = g8 at *
                  refine wp_region_facts [] [([], false, false), ([0], false, false), ([0, 1], false, false), ([0, 1, 2], false, false), ([0, 1, 2], false, false), ([0, 1, 2, 3, 4], false, false), ([0, 1, 2], false, false), ([0, 1, 2, 3, 4, 5, 6], false, false), ([0, 1, 2, 3, 4, 5, 6, 7], false, false)] (Ext) Ext (fun _ => True) (by kernel_rfl) (by kernel_rfl) Ext.refl (fun _ _ _ => Ext.trans) (fun _ _ h => h) (fun _ _ h => h.size) (fun _ _ h _ => h) trivial ?_
                  dsimp only [List.length_cons, List.length_nil, List.drop_succ_cons, List.drop_zero, List.drop_nil]
                  refine fac_quiet 0 rfl rfl rfl (fun _ _ h _ => h) rfl rfl ?_
                  apply Exists.intro
                  refine ⟨fun sv w' hw' hfa => ?_, ?_⟩
                  · have hk := (Ext.refl W3).drew.trans hw'; obtain ⟨y0, -⟩ := (hA.ext hk).walk; obtain ⟨y1, -⟩ := (hB.ext hk).walk; obtain ⟨y2, -⟩ := (hC.ext hk).walk
                    refine ⟨rfl, ?_⟩
                    simp only [putsL]
                    change quietTo _ _ _ _ (Sem.run _ (execOp (Act.eval _) _) _)
                    try simp only [Act.put, List.setIfInBounds_toArray, List.set_cons_succ, List.set_cons_zero]
                    simp [go_sem, quietTo, Ext.refl]
                    all_goals try simp (disch := omega) only [IntWalk.i64_in]
                    all_goals first
                      | rfl
                  refine fac_quiet 1 rfl rfl rfl (fun _ _ h _ => h) rfl rfl ?_
                  apply Exists.intro
                  refine ⟨fun sv w' hw' hfa => ?_, ?_⟩
                  · obtain ⟨f0, -⟩ := hfa
                    replace f0 : sv 0 = _ := f0
                    try dsimp only at f0
                    have hk := (Ext.refl W3).drew.trans hw'; obtain ⟨y0, -⟩ := (hA.ext hk).walk; obtain ⟨y1, -⟩ := (hB.ext hk).walk; obtain ⟨y2, -⟩ := (hC.ext hk).walk
                    refine ⟨rfl, ?_⟩
                    simp only [putsL]
                    change quietTo _ _ _ _ (Sem.run _ (execOp (Act.eval (Act.put _ (some 45) (sv 0))) _) _)
                    try simp only [Act.put, List.setIfInBounds_toArray, List.set_cons_succ, List.set_cons_zero]
                    simp [go_sem, quietTo, Ext.refl, ↓IntWalk.iteOmega, f0]
                    all_goals try simp (disch := omega) only [IntWalk.i64_in]
                    all_goals first
                      | rfl
                  refine fac_quiet 2 rfl rfl rfl (fun _ _ h _ => h) rfl rfl ?_
                  apply Exists.intro
                  refine ⟨fun sv w' hw' hfa => ?_, ?_⟩
                  · obtain ⟨f0, f1, -⟩ := hfa
                    replace f0 : sv 0 = _ := f0
                    try dsimp only at f0
                    replace f1 : sv 1 = _ := f1
                    try dsimp only at f1
                    have hk := (Ext.refl W3).drew.trans hw'; obtain ⟨y0, -⟩ := (hA.ext hk).walk; obtain ⟨y1, -⟩ := (hB.ext hk).walk; obtain ⟨y2, -⟩ := (hC.ext hk).walk
                    refine ⟨rfl, ?_⟩
                    simp only [putsL]
                    change quietTo _ _ _ _ (Sem.run _ (execOp (Act.eval (Act.put (Act.put _ (some 46) (sv 1)) (some 45) (sv 0))) _) _)
                    try simp only [Act.put, List.setIfInBounds_toArray, List.set_cons_succ, List.set_cons_zero]
                    simp [go_sem, quietTo, Ext.refl, f1]
                    all_goals try simp (disch := omega) only [IntWalk.i64_in]
                    all_goals first
                      | rfl
                  refine fac_skip 3 rfl rfl rfl (fun _ _ h _ => h) Ext.refl ?_ ?_
                  · intro sv w' hw' hfa
                    obtain ⟨f0, f1, f2, -⟩ := hfa
                    replace f0 : sv 0 = _ := f0
                    try dsimp only at f0
                    replace f1 : sv 1 = _ := f1
                    try dsimp only at f1
                    replace f2 : sv 2 = _ := f2
                    try dsimp only at f2
                    simp [Region.wanted, yielded, putsL, Act.put, f2]
                  refine fac_skip 4 rfl rfl rfl (fun _ _ h _ => h) Ext.refl ?_ ?_
                  · intro sv w' hw' hfa
                    obtain ⟨f0, f1, f2, -⟩ := hfa
                    replace f0 : sv 0 = _ := f0
                    try dsimp only at f0
                    replace f1 : sv 1 = _ := f1
                    try dsimp only at f1
                    replace f2 : sv 2 = _ := f2
                    try dsimp only at f2
                    simp [Region.wanted, yielded, putsL, Act.put, f2]
                  refine fac_skip 5 rfl rfl rfl (fun _ _ h _ => h) Ext.refl ?_ ?_
                  · intro sv w' hw' hfa
                    obtain ⟨f0, f1, f2, f3, f4, -⟩ := hfa
                    replace f0 : sv 0 = _ := f0
                    try dsimp only at f0
                    replace f1 : sv 1 = _ := f1
                    try dsimp only at f1
                    replace f2 : sv 2 = _ := f2
                    try dsimp only at f2
                    replace f3 : sv 3 = _ := f3
                    try dsimp only at f3
                    replace f4 : sv 4 = _ := f4
                    try dsimp only at f4
                    simp [Region.wanted, yielded, putsL, Act.put, f2, f3, f4]
                  refine fac_skip 6 rfl rfl rfl (fun _ _ h _ => h) Ext.refl ?_ ?_
                  · intro sv w' hw' hfa
                    obtain ⟨f0, f1, f2, -⟩ := hfa
                    replace f0 : sv 0 = _ := f0
                    try dsimp only at f0
                    replace f1 : sv 1 = _ := f1
                    try dsimp only at f1
                    replace f2 : sv 2 = _ := f2
                    try dsimp only at f2
                    simp [Region.wanted, yielded, putsL, Act.put, f2]
                  refine fac_skip 7 rfl rfl rfl (fun _ _ h _ => h) Ext.refl ?_ ?_
                  · intro sv w' hw' hfa
                    obtain ⟨f0, f1, f2, f3, f4, f5, f6, -⟩ := hfa
                    replace f0 : sv 0 = _ := f0
                    try dsimp only at f0
                    replace f1 : sv 1 = _ := f1
                    try dsimp only at f1
                    replace f2 : sv 2 = _ := f2
                    try dsimp only at f2
                    replace f3 : sv 3 = _ := f3
                    try dsimp only at f3
                    replace f4 : sv 4 = _ := f4
                    try dsimp only at f4
                    replace f5 : sv 5 = _ := f5
                    try dsimp only at f5
                    replace f6 : sv 6 = _ := f6
                    try dsimp only at f6
                    simp [Region.wanted, yielded, putsL, Act.put, f2, f5, f6]
                  refine fac_quiet 8 rfl rfl rfl (fun _ _ h _ => h) rfl rfl ?_
                  apply Exists.intro
                  refine ⟨fun sv w' hw' hfa => ?_, ?_⟩
                  · obtain ⟨f0, f1, f2, f3, f4, f5, f6, f7, -⟩ := hfa
                    replace f0 : sv 0 = _ := f0
                    try dsimp only at f0
                    replace f1 : sv 1 = _ := f1
                    try dsimp only at f1
                    replace f2 : sv 2 = _ := f2
                    try dsimp only at f2
                    replace f3 : sv 3 = _ := f3
                    try dsimp only at f3
                    replace f4 : sv 4 = _ := f4
                    try dsimp only at f4
                    replace f5 : sv 5 = _ := f5
                    try dsimp only at f5
                    replace f6 : sv 6 = _ := f6
                    try dsimp only at f6
                    replace f7 : sv 7 = _ := f7
                    try dsimp only at f7
                    have hk := (Ext.refl W3).drew.trans hw'; obtain ⟨y0, -⟩ := (hA.ext hk).walk; obtain ⟨y1, -⟩ := (hB.ext hk).walk; obtain ⟨y2, -⟩ := (hC.ext hk).walk
                    refine ⟨rfl, ?_⟩
                    simp only [putsL]
                    change quietTo _ _ _ _ (Sem.run _ (execOp (Act.eval (Act.put (Act.put (Act.put (Act.put (Act.put (Act.put (Act.put (Act.put _ (some 52) (sv 7)) (some 51) (sv 6)) (some 50) (sv 5)) (some 49) (sv 4)) (some 48) (sv 3)) (some 47) (sv 2)) (some 46) (sv 1)) (some 45) (sv 0))) _) _)
                    try simp only [Act.put, List.setIfInBounds_toArray, List.set_cons_succ, List.set_cons_zero]
                    simp [go_sem, quietTo, Ext.refl, ↓IntWalk.iteOmega, f2, f7]
                    all_goals try simp (disch := omega) only [IntWalk.i64_in]
                    all_goals first
                      | rfl
                  refine fac_nil fun xb wrb herb hfrb hcrb holdb hapb => ?_
                  obtain ⟨f0, f1, f2, f3, f4, f5, f6, f7, f8, -⟩ := hfrb
                  replace f0 : xb 0 = _ := f0
                  try dsimp only at f0
                  replace f1 : xb 1 = _ := f1
                  try dsimp only at f1
                  replace f2 : xb 2 = _ := f2
                  try dsimp only at f2
                  replace f3 : xb 3 = _ := f3
                  try dsimp only at f3
                  replace f4 : xb 4 = _ := f4
                  try dsimp only at f4
                  replace f5 : xb 5 = _ := f5
                  try dsimp only at f5
                  replace f6 : xb 6 = _ := f6
                  try dsimp only at f6
                  replace f7 : xb 7 = _ := f7
                  try dsimp only at f7
                  replace f8 : xb 8 = _ := f8
                  try dsimp only at f8
                  change wpList _ _ _ _ (Act.put (Act.put (Act.put (Act.put (Act.put (Act.put (Act.put (Act.put (Act.put _ (some 45) (xb 0)) (some 46) (xb 1)) (some 47) (xb 2)) (some 48) (xb 3)) (some 49) (xb 4)) (some 50) (xb 5)) (some 51) (xb 6)) (some 52) (xb 7)) (some 53) (xb 8)) _
                  simp only [putsL, Nat.reduceAdd, List.drop_succ_cons, List.drop_zero, List.drop_nil, Act.put, List.setIfInBounds_toArray, List.set_cons_succ, List.set_cons_zero]
                  try simp only [f0, f1, f2, f3, f4, f5, f6, f7, f8]
                  clear f0 f1 f2 f3 f4 f5 f6 f7 f8
                  clear holdb hapb
                  have hk4 := (Ext.refl W3).drew.trans herb
                  replace hA := hA.ext hk4
                  replace hB := hB.ext hk4
                  replace hO3 := hO3.ext hk4
                  replace hE3 := hE3.trans hk4
                  clear hC hk4 herb
                  go_upto_region 15 with fail
                  refine wp_region_facts [] [([], false, false), ([], false, false), ([1], false, false), ([], false, false), ([], false, false), ([3, 4], false, false)] (Ext) Ext (fun _ => True) (by kernel_rfl) (by kernel_rfl) Ext.refl (fun _ _ _ => Ext.trans) (fun _ _ h => h) (fun _ _ h => h.size) (fun _ _ h _ => h) trivial ?_
                  dsimp only [List.length_cons, List.length_nil, List.drop_succ_cons, List.drop_zero, List.drop_nil]
                  refine fac_quiet 0 rfl rfl rfl (fun _ _ h _ => h) rfl rfl ?_
                  apply Exists.intro
                  refine ⟨fun sv w' hw' hfa => ?_, ?_⟩
                  · have hk := (Ext.refl wrb).drew.trans hw'; obtain ⟨y0, -⟩ := (hA.ext hk).walk; obtain ⟨y1, -⟩ := (hB.ext hk).walk
                    refine ⟨rfl, ?_⟩
                    simp only [putsL]
                    change quietTo _ _ _ _ (Sem.run _ (execOp (Act.eval _) _) _)
                    try simp only [Act.put, List.setIfInBounds_toArray, List.set_cons_succ, List.set_cons_zero]
                    simp [go_sem, quietTo, Ext.refl]
                    all_goals try simp (disch := omega) only [IntWalk.i64_in]
                    all_goals first
                      | rfl
                  refine fac_quiet 1 rfl rfl rfl (fun _ _ h _ => h) rfl rfl ?_
                  apply Exists.intro
                  refine ⟨fun sv w' hw' hfa => ?_, ?_⟩
                  · have hk := (Ext.refl wrb).drew.trans hw'; obtain ⟨y0, -⟩ := (hA.ext hk).walk; obtain ⟨y1, -⟩ := (hB.ext hk).walk
                    refine ⟨rfl, ?_⟩
                    simp only [putsL]
                    change quietTo _ _ _ _ (Sem.run _ (execOp (Act.eval _) _) _)
                    try simp only [Act.put, List.setIfInBounds_toArray, List.set_cons_succ, List.set_cons_zero]
                    simp [go_sem, quietTo, Ext.refl]
                    all_goals try simp (disch := omega) only [IntWalk.i64_in]
                    all_goals first
                      | rfl
                  refine fac_quiet 2 rfl rfl rfl (fun _ _ h _ => h) rfl rfl ?_
                  apply Exists.intro
                  refine ⟨fun sv w' hw' hfa => ?_, ?_⟩
                  · obtain ⟨f1, -⟩ := hfa
                    replace f1 : sv 1 = _ := f1
                    try dsimp only at f1
                    have hk := (Ext.refl wrb).drew.trans hw'; obtain ⟨y0, -⟩ := (hA.ext hk).walk; obtain ⟨y1, -⟩ := (hB.ext hk).walk
                    refine ⟨rfl, ?_⟩
                    simp only [putsL]
                    change quietTo _ _ _ _ (Sem.run _ (execOp (Act.eval (Act.put _ (some 55) (sv 1))) _) _)
                    try simp only [Act.put, List.setIfInBounds_toArray, List.set_cons_succ, List.set_cons_zero]
                    simp [go_sem, quietTo, Ext.refl, ↓IntWalk.iteOmega, f1, y0, y1]
                    all_goals try simp (disch := omega) only [IntWalk.i64_in]
                    all_goals first
                      | rfl
                  refine fac_quiet 3 rfl rfl rfl (fun _ _ h _ => h) rfl rfl ?_
                  apply Exists.intro
                  refine ⟨fun sv w' hw' hfa => ?_, ?_⟩
                  · have hk := (Ext.refl wrb).drew.trans hw'; obtain ⟨y0, -⟩ := (hA.ext hk).walk; obtain ⟨y1, -⟩ := (hB.ext hk).walk
                    refine ⟨rfl, ?_⟩
                    simp only [putsL]
                    change quietTo _ _ _ _ (Sem.run _ (execOp (Act.eval _) _) _)
                    try simp only [Act.put, List.setIfInBounds_toArray, List.set_cons_succ, List.set_cons_zero]
                    simp [go_sem, quietTo, Ext.refl, ↓IntWalk.iteOmega, y0, y1]
                    all_goals try simp (disch := omega) only [IntWalk.i64_in]
                    all_goals first
                      | rfl
                  refine fac_quiet 4 rfl rfl rfl (fun _ _ h _ => h) rfl rfl ?_
                  apply Exists.intro
                  refine ⟨fun sv w' hw' hfa => ?_, ?_⟩
                  · have hk := (Ext.refl wrb).drew.trans hw'; obtain ⟨y0, -⟩ := (hA.ext hk).walk; obtain ⟨y1, -⟩ := (hB.ext hk).walk
                    refine ⟨rfl, ?_⟩
                    simp only [putsL]
                    change quietTo _ _ _ _ (Sem.run _ (execOp (Act.eval _) _) _)
                    try simp only [Act.put, List.setIfInBounds_toArray, List.set_cons_succ, List.set_cons_zero]
                    simp [go_sem, quietTo, Ext.refl, ↓IntWalk.iteOmega, y0, y1]
                    all_goals try simp (disch := omega) only [IntWalk.i64_in]
                    all_goals first
                      | rfl
                  refine fac_quiet 5 rfl rfl rfl (fun _ _ h _ => h) rfl rfl ?_
                  apply Exists.intro
                  refine ⟨fun sv w' hw' hfa => ?_, ?_⟩
                  · obtain ⟨f3, f4, -⟩ := hfa
                    replace f3 : sv 3 = _ := f3
                    try dsimp only at f3
                    replace f4 : sv 4 = _ := f4
                    try dsimp only at f4
                    have hk := (Ext.refl wrb).drew.trans hw'; obtain ⟨y0, -⟩ := (hA.ext hk).walk; obtain ⟨y1, -⟩ := (hB.ext hk).walk
                    refine ⟨rfl, ?_⟩
                    simp only [putsL]
                    change quietTo _ _ _ _ (Sem.run _ (execOp (Act.eval (Act.put (Act.put _ (some 58) (sv 4)) (some 57) (sv 3))) _) _)
                    try simp only [Act.put, List.setIfInBounds_toArray, List.set_cons_succ, List.set_cons_zero]
                    simp [go_sem, quietTo, Ext.refl, ↓IntWalk.iteOmega, f3, f4, y0, y1]
                    all_goals try simp (disch := omega) only [IntWalk.i64_in]
                    all_goals first
                      | rfl
                      | (exact hby.out _)
                  refine fac_nil fun xd wrd herd hfrd hcrd holdd hapd => ?_
                  obtain ⟨f0, f1, f2, f3, f4, f5, -⟩ := hfrd
                  replace f0 : xd 0 = _ := f0
                  try dsimp only at f0
                  replace f1 : xd 1 = _ := f1
                  try dsimp only at f1
                  replace f2 : xd 2 = _ := f2
                  try dsimp only at f2
                  replace f3 : xd 3 = _ := f3
                  try dsimp only at f3
                  replace f4 : xd 4 = _ := f4
                  try dsimp only at f4
                  replace f5 : xd 5 = _ := f5
                  try dsimp only at f5
                  change wpList _ _ _ _ (Act.put (Act.put (Act.put (Act.put (Act.put (Act.put _ (some 54) (xd 0)) (some 55) (xd 1)) (some 56) (xd 2)) (some 57) (xd 3)) (some 58) (xd 4)) (some 59) (xd 5)) _
                  simp only [putsL, Nat.reduceAdd, List.drop_succ_cons, List.drop_zero, List.drop_nil, Act.put, List.setIfInBounds_toArray, List.set_cons_succ, List.set_cons_zero]
                  try simp only [f0, f1, f2, f3, f4, f5]
                  clear f0 f1 f2 f3 f4 f5
                  clear holdd hapd
                  have hk4 := (Ext.refl wrb).drew.trans herd
                  obtain ⟨w5, hrun, hO5, hg5⟩ := (hO3.ext hk4).put hxs.1 (places_fr hxm) (by rw [places_len]; have := hL.len; omega) (byW r x)
                  replace hrun : (Instr.mapUpdate 77 (.map (some mb)) (.string x.fr) (.agg #[.int .i64 (r.1 + x.m), .int .i64 (r.2 + 1)])).run Tryd.prog wrd = .ok () w5 := hrun
                  have hE5 : Ext w w5 := (hE3.trans hk4).grown hg5 (fun k hk => by cases hk; exact hmw)
                  go_wp2_with (refine wpList_put rfl _ _ _ 77 rfl (.map (some mb)) (.string x.fr) (.agg #[.int .i64 (r.1 + x.m), .int .i64 (r.2 + 1)]) rfl rfl rfl w5 hrun ?_)
                  go_roundw
                  case rel => exact ⟨_, true, j + 1, rfl, by go_num, by omega, hO5, hbet.1, hE5, (fun h => by cases h), fun _ => by
                    have := hbet.2
                    cases cc
                    · rw [(h0 rfl).2] at this; exact this
                    · have := h1 rfl; omega⟩
                  case measure => simp [intOf]; omega
                | some o =>
                  rw [hfr] at l2
                  replace l2 : (Instr.lookup 77 (.map (some mb)) (.string x.fr) true).run Tryd.prog ((wr.alloc (.cells #[.string x.fr, .string x.to, .int .i64 x.m] 37)).alloc (.cells #[.int .i64 r.1, .int .i64 r.2] 80)) = .ok (.tuple #[.agg #[.int .i64 o.1, .int .i64 o.2], .bool true]) ((wr.alloc (.cells #[.string x.fr, .string x.to, .int .i64 x.m] 37)).alloc (.cells #[.int .i64 r.1, .int .i64 r.2] 80)) := l2
                  have hle := fun u => way_less (byW r x) o u
                  cases hll : lessW (byW r x) o
                  · rw [hll] at hle
                    replace hle := Lib.hid hle
                    go_upto_region 14 with (first | (refine wpList_look rfl _ _ 77 true rfl (.map (some mb)) (.string x.to) _ rfl rfl l1 ?_) | (refine wpList_look rfl _ _ 77 true rfl (.map (some mb)) (.string x.fr) _ rfl rfl l2 ?_))
                    obtain ⟨W3, hW3⟩ : ∃ W3, W3 = ((wr.alloc (.cells #[.string x.fr, .string x.to, .int .i64 x.m] 37)).alloc (.cells #[.int .i64 r.1, .int .i64 r.2] 80)).alloc (.cells #[.int .i64 o.1, .int .i64 o.2] 80) := ⟨_, rfl⟩
                    have hA : Blk W3 wr.heap.size 37 #[.string x.fr, .string x.to, .int .i64 x.m] := hW3 ▸ ((Blk.new' rfl).alloc _).alloc _
                    have hB : Blk W3 (wr.heap.size + 1) 80 #[.int .i64 r.1, .int .i64 r.2] := hW3 ▸ (Blk.new' (by simp)).alloc _
                    have hC : Blk W3 (wr.heap.size + 1 + 1) 80 #[.int .i64 o.1, .int .i64 o.2] := hW3 ▸ Blk.new' (by simp)
                    have hO3 : OwnW W3 mb (placesL L) f' := hW3 ▸ hO.ext ((((Ext.refl wr).alloc _).alloc _).alloc _)
                    have hE3 : Ext w W3 := hW3 ▸ (((hE.alloc _).alloc _).alloc _)
                    change Code.wp _ _ _ _ (((wr.alloc (.cells #[.string x.fr, .string x.to, .int .i64 x.m] 37)).alloc (.cells #[.int .i64 r.1, .int .i64 r.2] 80)).alloc (.cells #[.int .i64 o.1, .int .i64 o.2] 80))
                    rw [← hW3]
                    clear l1 l2 hO hE hW3
                    generalize wr.heap.size + 1 + 1 = g11 at *
                    generalize wr.heap.size + 1 = g9 at *
                    generalize wr.heap.size = g8 at *
                    refine wp_region_facts [] [([], false, false), ([0], false, false), ([0, 1], false, false), ([0, 1, 2], false, false), ([0, 1, 2], false, false), ([0, 1, 2, 3, 4], false, false), ([0, 1, 2], false, false), ([0, 1, 2, 3, 4, 5, 6], false, false), ([0, 1, 2, 3, 4, 5, 6, 7], false, false)] (Ext) Ext (fun _ => True) (by kernel_rfl) (by kernel_rfl) Ext.refl (fun _ _ _ => Ext.trans) (fun _ _ h => h) (fun _ _ h => h.size) (fun _ _ h _ => h) trivial ?_
                    dsimp only [List.length_cons, List.length_nil, List.drop_succ_cons, List.drop_zero, List.drop_nil]
                    refine fac_quiet 0 rfl rfl rfl (fun _ _ h _ => h) rfl rfl ?_
                    apply Exists.intro
                    refine ⟨fun sv w' hw' hfa => ?_, ?_⟩
                    · have hk := (Ext.refl W3).drew.trans hw'; obtain ⟨y0, -⟩ := (hA.ext hk).walk; obtain ⟨y1, -⟩ := (hB.ext hk).walk; obtain ⟨y2, -⟩ := (hC.ext hk).walk
                      refine ⟨rfl, ?_⟩
                      simp only [putsL]
                      change quietTo _ _ _ _ (Sem.run _ (execOp (Act.eval _) _) _)
                      try simp only [Act.put, List.setIfInBounds_toArray, List.set_cons_succ, List.set_cons_zero]
                      simp [go_sem, quietTo, Ext.refl]
                      all_goals try simp (disch := omega) only [IntWalk.i64_in]
                      all_goals first
                        | rfl
                    refine fac_quiet 1 rfl rfl rfl (fun _ _ h _ => h) rfl rfl ?_
                    apply Exists.intro
                    refine ⟨fun sv w' hw' hfa => ?_, ?_⟩
                    · obtain ⟨f0, -⟩ := hfa
                      replace f0 : sv 0 = _ := f0
                      try dsimp only at f0
                      have hk := (Ext.refl W3).drew.trans hw'; obtain ⟨y0, -⟩ := (hA.ext hk).walk; obtain ⟨y1, -⟩ := (hB.ext hk).walk; obtain ⟨y2, -⟩ := (hC.ext hk).walk
                      refine ⟨rfl, ?_⟩
                      simp only [putsL]
                      change quietTo _ _ _ _ (Sem.run _ (execOp (Act.eval (Act.put _ (some 45) (sv 0))) _) _)
                      try simp only [Act.put, List.setIfInBounds_toArray, List.set_cons_succ, List.set_cons_zero]
                      simp [go_sem, quietTo, Ext.refl, ↓IntWalk.iteOmega, f0, y0, y1, y2]
                      all_goals try simp (disch := omega) only [IntWalk.i64_in]
                      all_goals first
                        | rfl
                    refine fac_quiet 2 rfl rfl rfl (fun _ _ h _ => h) rfl rfl ?_
                    apply Exists.intro
                    refine ⟨fun sv w' hw' hfa => ?_, ?_⟩
                    · obtain ⟨f0, f1, -⟩ := hfa
                      replace f0 : sv 0 = _ := f0
                      try dsimp only at f0
                      replace f1 : sv 1 = _ := f1
                      try dsimp only at f1
                      have hk := (Ext.refl W3).drew.trans hw'; obtain ⟨y0, -⟩ := (hA.ext hk).walk; obtain ⟨y1, -⟩ := (hB.ext hk).walk; obtain ⟨y2, -⟩ := (hC.ext hk).walk
                      refine ⟨rfl, ?_⟩
                      simp only [putsL]
                      change quietTo _ _ _ _ (Sem.run _ (execOp (Act.eval (Act.put (Act.put _ (some 46) (sv 1)) (some 45) (sv 0))) _) _)
                      try simp only [Act.put, List.setIfInBounds_toArray, List.set_cons_succ, List.set_cons_zero]
                      simp [go_sem, quietTo, Ext.refl, f1]
                      all_goals try simp (disch := omega) only [IntWalk.i64_in]
                      all_goals first
                        | rfl
                    refine fac_quiet 3 rfl rfl rfl (fun _ _ h _ => h) rfl rfl ?_
                    apply Exists.intro
                    refine ⟨fun sv w' hw' hfa => ?_, ?_⟩
                    · obtain ⟨f0, f1, f2, -⟩ := hfa
                      replace f0 : sv 0 = _ := f0
                      try dsimp only at f0
                      replace f1 : sv 1 = _ := f1
                      try dsimp only at f1
                      replace f2 : sv 2 = _ := f2
                      try dsimp only at f2
                      have hk := (Ext.refl W3).drew.trans hw'; obtain ⟨y0, -⟩ := (hA.ext hk).walk; obtain ⟨y1, -⟩ := (hB.ext hk).walk; obtain ⟨y2, -⟩ := (hC.ext hk).walk
                      refine ⟨by simp [Region.wanted, yielded, putsL, Act.put, f2], ?_⟩
                      simp only [putsL]
                      change quietTo _ _ _ _ (Sem.run _ (execOp (Act.eval (Act.put (Act.put (Act.put _ (some 47) (sv 2)) (some 46) (sv 1)) (some 45) (sv 0))) _) _)
                      try simp only [Act.put, List.setIfInBounds_toArray, List.set_cons_succ, List.set_cons_zero]
                      simp [go_sem, quietTo, Ext.refl, ↓IntWalk.iteOmega, f2, y0, y1, y2]
                      all_goals try simp (disch := omega) only [IntWalk.i64_in]
                      all_goals first
                        | rfl
                    refine fac_quiet 4 rfl rfl rfl (fun _ _ h _ => h) rfl rfl ?_
                    apply Exists.intro
                    refine ⟨fun sv w' hw' hfa => ?_, ?_⟩
                    · obtain ⟨f0, f1, f2, -⟩ := hfa
                      replace f0 : sv 0 = _ := f0
                      try dsimp only at f0
                      replace f1 : sv 1 = _ := f1
                      try dsimp only at f1
                      replace f2 : sv 2 = _ := f2
                      try dsimp only at f2
                      have hk := (Ext.refl W3).drew.trans hw'; obtain ⟨y0, -⟩ := (hA.ext hk).walk; obtain ⟨y1, -⟩ := (hB.ext hk).walk; obtain ⟨y2, -⟩ := (hC.ext hk).walk
                      refine ⟨by simp [Region.wanted, yielded, putsL, Act.put, f2], ?_⟩
                      simp only [putsL]
                      change quietTo _ _ _ _ (Sem.run _ (execOp (Act.eval (Act.put (Act.put (Act.put _ (some 47) (sv 2)) (some 46) (sv 1)) (some 45) (sv 0))) _) _)
                      try simp only [Act.put, List.setIfInBounds_toArray, List.set_cons_succ, List.set_cons_zero]
                      simp [go_sem, quietTo, Ext.refl, ↓IntWalk.iteOmega, f2, y0, y1, y2]
                      all_goals try simp (disch := omega) only [IntWalk.i64_in]
                      all_goals first
                        | rfl
                    refine fac_quiet 5 rfl rfl rfl (fun _ _ h _ => h) rfl rfl ?_
                    apply Exists.intro
                    refine ⟨fun sv w' hw' hfa => ?_, ?_⟩
                    · obtain ⟨f0, f1, f2, f3, f4, -⟩ := hfa
                      replace f0 : sv 0 = _ := f0
                      try dsimp only at f0
                      replace f1 : sv 1 = _ := f1
                      try dsimp only at f1
                      replace f2 : sv 2 = _ := f2
                      try dsimp only at f2
                      replace f3 : sv 3 = _ := f3
                      try dsimp only at f3
                      replace f4 : sv 4 = _ := f4
                      try dsimp only at f4
                      have hk := (Ext.refl W3).drew.trans hw'; obtain ⟨y0, -⟩ := (hA.ext hk).walk; obtain ⟨y1, -⟩ := (hB.ext hk).walk; obtain ⟨y2, -⟩ := (hC.ext hk).walk
                      refine ⟨by simp [Region.wanted, yielded, putsL, Act.put, f2, f3, f4], ?_⟩
                      simp only [putsL]
                      change quietTo _ _ _ _ (Sem.run _ (execOp (Act.eval (Act.put (Act.put (Act.put (Act.put (Act.put _ (some 49) (sv 4)) (some 48) (sv 3)) (some 47) (sv 2)) (some 46) (sv 1)) (some 45) (sv 0))) _) _)
                      try simp only [Act.put, List.setIfInBounds_toArray, List.set_cons_succ, List.set_cons_zero]
                      simp [go_sem, quietTo, Ext.refl, ↓IntWalk.iteOmega, f2, f3, f4, y0, y1, y2]
                      all_goals try simp (disch := omega) only [IntWalk.i64_in]
                      all_goals first
                        | rfl
                        | (exact hby.out _)
                    refine fac_quiet 6 rfl rfl rfl (fun _ _ h _ => h) rfl rfl ?_
                    apply Exists.intro
                    refine ⟨fun sv w' hw' hfa => ?_, ?_⟩
                    · obtain ⟨f0, f1, f2, -⟩ := hfa
                      replace f0 : sv 0 = _ := f0
                      try dsimp only at f0
                      replace f1 : sv 1 = _ := f1
                      try dsimp only at f1
                      replace f2 : sv 2 = _ := f2
                      try dsimp only at f2
                      have hk := (Ext.refl W3).drew.trans hw'; obtain ⟨y0, -⟩ := (hA.ext hk).walk; obtain ⟨y1, -⟩ := (hB.ext hk).walk; obtain ⟨y2, -⟩ := (hC.ext hk).walk
                      refine ⟨by simp [Region.wanted, yielded, putsL, Act.put, f2], ?_⟩
                      simp only [putsL]
                      change quietTo _ _ _ _ (Sem.run _ (execOp (Act.eval (Act.put (Act.put (Act.put _ (some 47) (sv 2)) (some 46) (sv 1)) (some 45) (sv 0))) _) _)
                      try simp only [Act.put, List.setIfInBounds_toArray, List.set_cons_succ, List.set_cons_zero]
                      simp [go_sem, quietTo, Ext.refl, ↓IntWalk.iteOmega, f2, y0, y1, y2]
                      all_goals try simp (disch := omega) only [IntWalk.i64_in]
                      all_goals first
                        | rfl
                    refine fac_quiet 7 rfl rfl rfl (fun _ _ h _ => h) rfl rfl ?_
                    apply Exists.intro
                    refine ⟨fun sv w' hw' hfa => ?_, ?_⟩
                    · obtain ⟨f0, f1, f2, f3, f4, f5, f6, -⟩ := hfa
                      replace f0 : sv 0 = _ := f0
                      try dsimp only at f0
                      replace f1 : sv 1 = _ := f1
                      try dsimp only at f1
                      replace f2 : sv 2 = _ := f2
                      try dsimp only at f2
                      replace f3 : sv 3 = _ := f3
                      try dsimp only at f3
                      replace f4 : sv 4 = _ := f4
                      try dsimp only at f4
                      replace f5 : sv 5 = _ := f5
                      try dsimp only at f5
                      replace f6 : sv 6 = _ := f6
                      try dsimp only at f6
                      have hk := (Ext.refl W3).drew.trans hw'; obtain ⟨y0, -⟩ := (hA.ext hk).walk; obtain ⟨y1, -⟩ := (hB.ext hk).walk; obtain ⟨y2, -⟩ := (hC.ext hk).walk
                      refine ⟨by simp [Region.wanted, yielded, putsL, Act.put, f2, f5, f6], ?_⟩
                      simp only [putsL]
                      change quietTo _ _ _ _ (Sem.run _ (execOp (Act.eval (Act.put (Act.put (Act.put (Act.put (Act.put (Act.put (Act.put _ (some 51) (sv 6)) (some 50) (sv 5)) (some 49) (sv 4)) (some 48) (sv 3)) (some 47) (sv 2)) (some 46) (sv 1)) (some 45) (sv 0))) _) _)
                      try simp only [Act.put, List.setIfInBounds_toArray, List.set_cons_succ, List.set_cons_zero]
                      simp [go_sem, quietTo, Ext.refl, ↓IntWalk.iteOmega, f2, f5, f6, y0, y1, y2]
                      all_goals try simp (disch := omega) only [IntWalk.i64_in]
                      all_goals first
                        | rfl
                        | (exact hle.out _)
                    refine fac_quiet 8 rfl rfl rfl (fun _ _ h _ => h) rfl rfl ?_
                    apply Exists.intro
                    refine ⟨fun sv w' hw' hfa => ?_, ?_⟩
                    · obtain ⟨f0, f1, f2, f3, f4, f5, f6, f7, -⟩ := hfa
                      replace f0 : sv 0 = _ := f0
                      try dsimp only at f0
                      replace f1 : sv 1 = _ := f1
                      try dsimp only at f1
                      replace f2 : sv 2 = _ := f2
                      try dsimp only at f2
                      replace f3 : sv 3 = _ := f3
                      try dsimp only at f3
                      replace f4 : sv 4 = _ := f4
                      try dsimp only at f4
                      replace f5 : sv 5 = _ := f5
                      try dsimp only at f5
                      replace f6 : sv 6 = _ := f6
                      try dsimp only at f6
                      replace f7 : sv 7 = _ := f7
                      try dsimp only at f7
                      have hk := (Ext.refl W3).drew.trans hw'; obtain ⟨y0, -⟩ := (hA.ext hk).walk; obtain ⟨y1, -⟩ := (hB.ext hk).walk; obtain ⟨y2, -⟩ := (hC.ext hk).walk
                      refine ⟨rfl, ?_⟩
                      simp only [putsL]
                      change quietTo _ _ _ _ (Sem.run _ (execOp (Act.eval (Act.put (Act.put (Act.put (Act.put (Act.put (Act.put (Act.put (Act.put _ (some 52) (sv 7)) (some 51) (sv 6)) (some 50) (sv 5)) (some 49) (sv 4)) (some 48) (sv 3)) (some 47) (sv 2)) (some 46) (sv 1)) (some 45) (sv 0))) _) _)
                      try simp only [Act.put, List.setIfInBounds_toArray, List.set_cons_succ, List.set_cons_zero]
                      simp [go_sem, quietTo, Ext.refl, ↓IntWalk.iteOmega, f2, f7, y0, y1, y2]
                      all_goals try simp (disch := omega) only [IntWalk.i64_in]
                      all_goals first
                        | rfl
                    refine fac_nil fun xb wrb herb hfrb hcrb holdb hapb => ?_
                    obtain ⟨f0, f1, f2, f3, f4, f5, f6, f7, f8, -⟩ := hfrb
                    replace f0 : xb 0 = _ := f0
                    try dsimp only at f0
                    replace f1 : xb 1 = _ := f1
                    try dsimp only at f1
                    replace f2 : xb 2 = _ := f2
                    try dsimp only at f2
                    replace f3 : xb 3 = _ := f3
                    try dsimp only at f3
                    replace f4 : xb 4 = _ := f4
                    try dsimp only at f4
                    replace f5 : xb 5 = _ := f5
                    try dsimp only at f5
                    replace f6 : xb 6 = _ := f6
                    try dsimp only at f6
                    replace f7 : xb 7 = _ := f7
                    try dsimp only at f7
                    replace f8 : xb 8 = _ := f8
                    try dsimp only at f8
                    change wpList _ _ _ _ (Act.put (Act.put (Act.put (Act.put (Act.put (Act.put (Act.put (Act.put (Act.put _ (some 45) (xb 0)) (some 46) (xb 1)) (some 47) (xb 2)) (some 48) (xb 3)) (some 49) (xb 4)) (some 50) (xb 5)) (some 51) (xb 6)) (some 52) (xb 7)) (some 53) (xb 8)) _
                    simp only [putsL, Nat.reduceAdd, List.drop_succ_cons, List.drop_zero, List.drop_nil, Act.put, List.setIfInBounds_toArray, List.set_cons_succ, List.set_cons_zero]
                    try simp only [f0, f1, f2, f3, f4, f5, f6, f7, f8]
                    clear f0 f1 f2 f3 f4 f5 f6 f7 f8
                    clear holdb hapb
                    have hk4 := (Ext.refl W3).drew.trans herb
                    replace hA := hA.ext hk4
                    replace hB := hB.ext hk4
                    replace hO3 := hO3.ext hk4
                    replace hE3 := hE3.trans hk4
                    clear hC hk4 herb
                    go_wp2
                    go_roundw
                    case rel => exact ⟨f', cc, j + 1, rfl, by go_num, by omega, hO3, hI, hE3, (fun h => ⟨(h0 h).1.succ hx (fun r' hr' => by rw [hto] at hr'; cases hr'; exact ⟨o, hfr, hll⟩), (h0 h).2⟩), h1⟩
                    case measure => simp [intOf]; omega
                  · have hbet := hI.better hL hxm hto (fun o' ho => by rw [hfr] at ho; cases ho; exact hll)
                    rw [hll] at hle
                    replace hle := Lib.hid hle
                    go_upto_region 14 with (first | (refine wpList_look rfl _ _ 77 true rfl (.map (some mb)) (.string x.to) _ rfl rfl l1 ?_) | (refine wpList_look rfl _ _ 77 true rfl (.map (some mb)) (.string x.fr) _ rfl rfl l2 ?_))
                    obtain ⟨W3, hW3⟩ : ∃ W3, W3 = ((wr.alloc (.cells #[.string x.fr, .string x.to, .int .i64 x.m] 37)).alloc (.cells #[.int .i64 r.1, .int .i64 r.2] 80)).alloc (.cells #[.int .i64 o.1, .int .i64 o.2] 80) := ⟨_, rfl⟩
                    have hA : Blk W3 wr.heap.size 37 #[.string x.fr, .string x.to, .int .i64 x.m] := hW3 ▸ ((Blk.new' rfl).alloc _).alloc _
                    have hB : Blk W3 (wr.heap.size + 1) 80 #[.int .i64 r.1, .int .i64 r.2] := hW3 ▸ (Blk.new' (by simp)).alloc _
                    have hC : Blk W3 (wr.heap.size + 1 + 1) 80 #[.int .i64 o.1, .int .i64 o.2] := hW3 ▸ Blk.new' (by simp)
                    have hO3 : OwnW W3 mb (placesL L) f' := hW3 ▸ hO.ext ((((Ext.refl wr).alloc _).alloc _).alloc _)
                    have hE3 : Ext w W3 := hW3 ▸ (((hE.alloc _).alloc _).alloc _)
                    change Code.wp _ _ _ _ (((wr.alloc (.cells #[.string x.fr, .string x.to, .int .i64 x.m] 37)).alloc (.cells #[.int .i64 r.1, .int .i64 r.2] 80)).alloc (.cells #[.int .i64 o.1, .int .i64 o.2] 80))
                    rw [← hW3]
                    clear l1 l2 hO hE hW3
                    generalize wr.heap.size + 1 + 1 = g11 at *
                    generalize wr.heap.size + 1 = g9 at *
                    generalize wr.heap.size = g8 at *
                    refine wp_region_facts [] [([], false, false), ([0], false, false), ([0, 1], false, false), ([0, 1, 2], false, false), ([0, 1, 2], false, false), ([0, 1, 2, 3, 4], false, false), ([0, 1, 2], false, false), ([0, 1, 2, 3, 4, 5, 6], false, false), ([0, 1, 2, 3, 4, 5, 6, 7], false, false)] (Ext) Ext (fun _ => True) (by kernel_rfl) (by kernel_rfl) Ext.refl (fun _ _ _ => Ext.trans) (fun _ _ h => h) (fun _ _ h => h.size) (fun _ _ h _ => h) trivial ?_
                    dsimp only [List.length_cons, List.length_nil, List.drop_succ_cons, List.drop_zero, List.drop_nil]
                    refine fac_quiet 0 rfl rfl rfl (fun _ _ h _ => h) rfl rfl ?_
                    apply Exists.intro
                    refine ⟨fun sv w' hw' hfa => ?_, ?_⟩
                    · have hk := (Ext.refl W3).drew.trans hw'; obtain ⟨y0, -⟩ := (hA.ext hk).walk; obtain ⟨y1, -⟩ := (hB.ext hk).walk; obtain ⟨y2, -⟩ := (hC.ext hk).walk
                      refine ⟨rfl, ?_⟩
                      simp only [putsL]
                      change quietTo _ _ _ _ (Sem.run _ (execOp (Act.eval _) _) _)
                      try simp only [Act.put, List.setIfInBounds_toArray, List.set_cons_succ, List.set_cons_zero]
                      simp [go_sem, quietTo, Ext.refl]
                      all_goals try simp (disch := omega) only [IntWalk.i64_in]
                      all_goals first
                        | rfl
                    refine fac_quiet 1 rfl rfl rfl (fun _ _ h _ => h) rfl rfl ?_
                    apply Exists.intro
                    refine ⟨fun sv w' hw' hfa => ?_, ?_⟩
                    · obtain ⟨f0, -⟩ := hfa
                      replace f0 : sv 0 = _ := f0
                      try dsimp only at f0
                      have hk := (Ext.refl W3).drew.trans hw'; obtain ⟨y0, -⟩ := (hA.ext hk).walk; obtain ⟨y1, -⟩ := (hB.ext hk).walk; obtain ⟨y2, -⟩ := (hC.ext hk).walk
                      refine ⟨rfl, ?_⟩
                      simp only [putsL]
                      change quietTo _ _ _ _ (Sem.run _ (execOp (Act.eval (Act.put _ (some 45) (sv 0))) _) _)
                      try simp only [Act.put, List.setIfInBounds_toArray, List.set_cons_succ, List.set_cons_zero]
                      simp [go_sem, quietTo, Ext.refl, ↓IntWalk.iteOmega, f0, y0, y1, y2]
                      all_goals try simp (disch := omega) only [IntWalk.i64_in]
                      all_goals first
                        | rfl
                    refine fac_quiet 2 rfl rfl rfl (fun _ _ h _ => h) rfl rfl ?_
                    apply Exists.intro
                    refine ⟨fun sv w' hw' hfa => ?_, ?_⟩
                    · obtain ⟨f0, f1, -⟩ := hfa
                      replace f0 : sv 0 = _ := f0
                      try dsimp only at f0
                      replace f1 : sv 1 = _ := f1
                      try dsimp only at f1
                      have hk := (Ext.refl W3).drew.trans hw'; obtain ⟨y0, -⟩ := (hA.ext hk).walk; obtain ⟨y1, -⟩ := (hB.ext hk).walk; obtain ⟨y2, -⟩ := (hC.ext hk).walk
                      refine ⟨rfl, ?_⟩
                      simp only [putsL]
                      change quietTo _ _ _ _ (Sem.run _ (execOp (Act.eval (Act.put (Act.put _ (some 46) (sv 1)) (some 45) (sv 0))) _) _)
                      try simp only [Act.put, List.setIfInBounds_toArray, List.set_cons_succ, List.set_cons_zero]
                      simp [go_sem, quietTo, Ext.refl, f1]
                      all_goals try simp (disch := omega) only [IntWalk.i64_in]
                      all_goals first
                        | rfl
                    refine fac_quiet 3 rfl rfl rfl (fun _ _ h _ => h) rfl rfl ?_
                    apply Exists.intro
                    refine ⟨fun sv w' hw' hfa => ?_, ?_⟩
                    · obtain ⟨f0, f1, f2, -⟩ := hfa
                      replace f0 : sv 0 = _ := f0
                      try dsimp only at f0
                      replace f1 : sv 1 = _ := f1
                      try dsimp only at f1
                      replace f2 : sv 2 = _ := f2
                      try dsimp only at f2
                      have hk := (Ext.refl W3).drew.trans hw'; obtain ⟨y0, -⟩ := (hA.ext hk).walk; obtain ⟨y1, -⟩ := (hB.ext hk).walk; obtain ⟨y2, -⟩ := (hC.ext hk).walk
                      refine ⟨by simp [Region.wanted, yielded, putsL, Act.put, f2], ?_⟩
                      simp only [putsL]
                      change quietTo _ _ _ _ (Sem.run _ (execOp (Act.eval (Act.put (Act.put (Act.put _ (some 47) (sv 2)) (some 46) (sv 1)) (some 45) (sv 0))) _) _)
                      try simp only [Act.put, List.setIfInBounds_toArray, List.set_cons_succ, List.set_cons_zero]
                      simp [go_sem, quietTo, Ext.refl, ↓IntWalk.iteOmega, f2, y0, y1, y2]
                      all_goals try simp (disch := omega) only [IntWalk.i64_in]
                      all_goals first
                        | rfl
                    refine fac_quiet 4 rfl rfl rfl (fun _ _ h _ => h) rfl rfl ?_
                    apply Exists.intro
                    refine ⟨fun sv w' hw' hfa => ?_, ?_⟩
                    · obtain ⟨f0, f1, f2, -⟩ := hfa
                      replace f0 : sv 0 = _ := f0
                      try dsimp only at f0
                      replace f1 : sv 1 = _ := f1
                      try dsimp only at f1
                      replace f2 : sv 2 = _ := f2
                      try dsimp only at f2
                      have hk := (Ext.refl W3).drew.trans hw'; obtain ⟨y0, -⟩ := (hA.ext hk).walk; obtain ⟨y1, -⟩ := (hB.ext hk).walk; obtain ⟨y2, -⟩ := (hC.ext hk).walk
                      refine ⟨by simp [Region.wanted, yielded, putsL, Act.put, f2], ?_⟩
                      simp only [putsL]
                      change quietTo _ _ _ _ (Sem.run _ (execOp (Act.eval (Act.put (Act.put (Act.put _ (some 47) (sv 2)) (some 46) (sv 1)) (some 45) (sv 0))) _) _)
                      try simp only [Act.put, List.setIfInBounds_toArray, List.set_cons_succ, List.set_cons_zero]
                      simp [go_sem, quietTo, Ext.refl, ↓IntWalk.iteOmega, f2, y0, y1, y2]
                      all_goals try simp (disch := omega) only [IntWalk.i64_in]
                      all_goals first
                        | rfl
                    refine fac_quiet 5 rfl rfl rfl (fun _ _ h _ => h) rfl rfl ?_
                    apply Exists.intro
                    refine ⟨fun sv w' hw' hfa => ?_, ?_⟩
                    · obtain ⟨f0, f1, f2, f3, f4, -⟩ := hfa
                      replace f0 : sv 0 = _ := f0
                      try dsimp only at f0
                      replace f1 : sv 1 = _ := f1
                      try dsimp only at f1
                      replace f2 : sv 2 = _ := f2
                      try dsimp only at f2
                      replace f3 : sv 3 = _ := f3
                      try dsimp only at f3
                      replace f4 : sv 4 = _ := f4
                      try dsimp only at f4
                      have hk := (Ext.refl W3).drew.trans hw'; obtain ⟨y0, -⟩ := (hA.ext hk).walk; obtain ⟨y1, -⟩ := (hB.ext hk).walk; obtain ⟨y2, -⟩ := (hC.ext hk).walk
                      refine ⟨by simp [Region.wanted, yielded, putsL, Act.put, f2, f3, f4], ?_⟩
                      simp only [putsL]
                      change quietTo _ _ _ _ (Sem.run _ (execOp (Act.eval (Act.put (Act.put (Act.put (Act.put (Act.put _ (some 49) (sv 4)) (some 48) (sv 3)) (some 47) (sv 2)) (some 46) (sv 1)) (some 45) (sv 0))) _) _)
                      try simp only [Act.put, List.setIfInBounds_toArray, List.set_cons_succ, List.set_cons_zero]
                      simp [go_sem, quietTo, Ext.refl, ↓IntWalk.iteOmega, f2, f3, f4, y0, y1, y2]
                      all_goals try simp (disch := omega) only [IntWalk.i64_in]
                      all_goals first
                        | rfl
                        | (exact hby.out _)
                    refine fac_quiet 6 rfl rfl rfl (fun _ _ h _ => h) rfl rfl ?_
                    apply Exists.intro
                    refine ⟨fun sv w' hw' hfa => ?_, ?_⟩
                    · obtain ⟨f0, f1, f2, -⟩ := hfa
                      replace f0 : sv 0 = _ := f0
                      try dsimp only at f0
                      replace f1 : sv 1 = _ := f1
                      try dsimp only at f1
                      replace f2 : sv 2 = _ := f2
                      try dsimp only at f2
                      have hk := (Ext.refl W3).drew.trans hw'; obtain ⟨y0, -⟩ := (hA.ext hk).walk; obtain ⟨y1, -⟩ := (hB.ext hk).walk; obtain ⟨y2, -⟩ := (hC.ext hk).walk
                      refine ⟨by simp [Region.wanted, yielded, putsL, Act.put, f2], ?_⟩
                      simp only [putsL]
                      change quietTo _ _ _ _ (Sem.run _ (execOp (Act.eval (Act.put (Act.put (Act.put _ (some 47) (sv 2)) (some 46) (sv 1)) (some 45) (sv 0))) _) _)
                      try simp only [Act.put, List.setIfInBounds_toArray, List.set_cons_succ, List.set_cons_zero]
                      simp [go_sem, quietTo, Ext.refl, ↓IntWalk.iteOmega, f2, y0, y1, y2]
                      all_goals try simp (disch := omega) only [IntWalk.i64_in]
                      all_goals first
                        | rfl
                    refine fac_quiet 7 rfl rfl rfl (fun _ _ h _ => h) rfl rfl ?_
                    apply Exists.intro
                    refine ⟨fun sv w' hw' hfa => ?_, ?_⟩
                    · obtain ⟨f0, f1, f2, f3, f4, f5, f6, -⟩ := hfa
                      replace f0 : sv 0 = _ := f0
                      try dsimp only at f0
                      replace f1 : sv 1 = _ := f1
                      try dsimp only at f1
                      replace f2 : sv 2 = _ := f2
                      try dsimp only at f2
                      replace f3 : sv 3 = _ := f3
                      try dsimp only at f3
                      replace f4 : sv 4 = _ := f4
                      try dsimp only at f4
                      replace f5 : sv 5 = _ := f5
                      try dsimp only at f5
                      replace f6 : sv 6 = _ := f6
                      try dsimp only at f6
                      have hk := (Ext.refl W3).drew.trans hw'; obtain ⟨y0, -⟩ := (hA.ext hk).walk; obtain ⟨y1, -⟩ := (hB.ext hk).walk; obtain ⟨y2, -⟩ := (hC.ext hk).walk
                      refine ⟨by simp [Region.wanted, yielded, putsL, Act.put, f2, f5, f6], ?_⟩
                      simp only [putsL]
                      change quietTo _ _ _ _ (Sem.run _ (execOp (Act.eval (Act.put (Act.put (Act.put (Act.put (Act.put (Act.put (Act.put _ (some 51) (sv 6)) (some 50) (sv 5)) (some 49) (sv 4)) (some 48) (sv 3)) (some 47) (sv 2)) (some 46) (sv 1)) (some 45) (sv 0))) _) _)
                      try simp only [Act.put, List.setIfInBounds_toArray, List.set_cons_succ, List.set_cons_zero]
                      simp [go_sem, quietTo, Ext.refl, ↓IntWalk.iteOmega, f2, f5, f6, y0, y1, y2]
                      all_goals try simp (disch := omega) only [IntWalk.i64_in]
                      all_goals first
                        | rfl
                        | (exact hle.out _)
                    refine fac_quiet 8 rfl rfl rfl (fun _ _ h _ => h) rfl rfl ?_
                    apply Exists.intro
                    refine ⟨fun sv w' hw' hfa => ?_, ?_⟩
                    · obtain ⟨f0, f1, f2, f3, f4, f5, f6, f7, -⟩ := hfa
                      replace f0 : sv 0 = _ := f0
                      try dsimp only at f0
                      replace f1 : sv 1 = _ := f1
                      try dsimp only at f1
                      replace f2 : sv 2 = _ := f2
                      try dsimp only at f2
                      replace f3 : sv 3 = _ := f3
                      try dsimp only at f3
                      replace f4 : sv 4 = _ := f4
                      try dsimp only at f4
                      replace f5 : sv 5 = _ := f5
                      try dsimp only at f5
                      replace f6 : sv 6 = _ := f6
                      try dsimp only at f6
                      replace f7 : sv 7 = _ := f7
                      try dsimp only at f7
                      have hk := (Ext.refl W3).drew.trans hw'; obtain ⟨y0, -⟩ := (hA.ext hk).walk; obtain ⟨y1, -⟩ := (hB.ext hk).walk; obtain ⟨y2, -⟩ := (hC.ext hk).walk
                      refine ⟨rfl, ?_⟩
                      simp only [putsL]
                      change quietTo _ _ _ _ (Sem.run _ (execOp (Act.eval (Act.put (Act.put (Act.put (Act.put (Act.put (Act.put (Act.put (Act.put _ (some 52) (sv 7)) (some 51) (sv 6)) (some 50) (sv 5)) (some 49) (sv 4)) (some 48) (sv 3)) (some 47) (sv 2)) (some 46) (sv 1)) (some 45) (sv 0))) _) _)
                      try simp only [Act.put, List.setIfInBounds_toArray, List.set_cons_succ, List.set_cons_zero]
                      simp [go_sem, quietTo, Ext.refl, ↓IntWalk.iteOmega, f2, f7, y0, y1, y2]
                      all_goals try simp (disch := omega) only [IntWalk.i64_in]
                      all_goals first
                        | rfl
                    refine fac_nil fun xb wrb herb hfrb hcrb holdb hapb => ?_
                    obtain ⟨f0, f1, f2, f3, f4, f5, f6, f7, f8, -⟩ := hfrb
                    replace f0 : xb 0 = _ := f0
                    try dsimp only at f0
                    replace f1 : xb 1 = _ := f1
                    try dsimp only at f1
                    replace f2 : xb 2 = _ := f2
                    try dsimp only at f2
                    replace f3 : xb 3 = _ := f3
                    try dsimp only at f3
                    replace f4 : xb 4 = _ := f4
                    try dsimp only at f4
                    replace f5 : xb 5 = _ := f5
                    try dsimp only at f5
                    replace f6 : xb 6 = _ := f6
                    try dsimp only at f6
                    replace f7 : xb 7 = _ := f7
                    try dsimp only at f7
                    replace f8 : xb 8 = _ := f8
                    try dsimp only at f8
                    change wpList _ _ _ _ (Act.put (Act.put (Act.put (Act.put (Act.put (Act.put (Act.put (Act.put (Act.put _ (some 45) (xb 0)) (some 46) (xb 1)) (some 47) (xb 2)) (some 48) (xb 3)) (some 49) (xb 4)) (some 50) (xb 5)) (some 51) (xb 6)) (some 52) (xb 7)) (some 53) (xb 8)) _
                    simp only [putsL, Nat.reduceAdd, List.drop_succ_cons, List.drop_zero, List.drop_nil, Act.put, List.setIfInBounds_toArray, List.set_cons_succ, List.set_cons_zero]
                    try simp only [f0, f1, f2, f3, f4, f5, f6, f7, f8]
                    clear f0 f1 f2 f3 f4 f5 f6 f7 f8
                    clear holdb hapb
                    have hk4 := (Ext.refl W3).drew.trans herb
                    replace hA := hA.ext hk4
                    replace hB := hB.ext hk4
                    replace hO3 := hO3.ext hk4
                    replace hE3 := hE3.trans hk4
                    clear hC hk4 herb
                    go_upto_region 15 with fail
                    refine wp_region_facts [] [([], false, false), ([], false, false), ([1], false, false), ([], false, false), ([], false, false), ([3, 4], false, false)] (Ext) Ext (fun _ => True) (by kernel_rfl) (by kernel_rfl) Ext.refl (fun _ _ _ => Ext.trans) (fun _ _ h => h) (fun _ _ h => h.size) (fun _ _ h _ => h) trivial ?_
                    dsimp only [List.length_cons, List.length_nil, List.drop_succ_cons, List.drop_zero, List.drop_nil]
                    refine fac_quiet 0 rfl rfl rfl (fun _ _ h _ => h) rfl rfl ?_
                    apply Exists.intro
                    refine ⟨fun sv w' hw' hfa => ?_, ?_⟩
                    · have hk := (Ext.refl wrb).drew.trans hw'; obtain ⟨y0, -⟩ := (hA.ext hk).walk; obtain ⟨y1, -⟩ := (hB.ext hk).walk
                      refine ⟨rfl, ?_⟩
                      simp only [putsL]
                      change quietTo _ _ _ _ (Sem.run _ (execOp (Act.eval _) _) _)
                      try simp only [Act.put, List.setIfInBounds_toArray, List.set_cons_succ, List.set_cons_zero]
                      simp [go_sem, quietTo, Ext.refl]
                      all_goals try simp (disch := omega) only [IntWalk.i64_in]
                      all_goals first
                        | rfl
                    refine fac_quiet 1 rfl rfl rfl (fun _ _ h _ => h) rfl rfl ?_
                    apply Exists.intro
                    refine ⟨fun sv w' hw' hfa => ?_, ?_⟩
                    · have hk := (Ext.refl wrb).drew.trans hw'; obtain ⟨y0, -⟩ := (hA.ext hk).walk; obtain ⟨y1, -⟩ := (hB.ext hk).walk
                      refine ⟨rfl, ?_⟩
                      simp only [putsL]
                      change quietTo _ _ _ _ (Sem.run _ (execOp (Act.eval _) _) _)
                      try simp only [Act.put, List.setIfInBounds_toArray, List.set_cons_succ, List.set_cons_zero]
                      simp [go_sem, quietTo, Ext.refl]
                      all_goals try simp (disch := omega) only [IntWalk.i64_in]
                      all_goals first
                        | rfl
                    refine fac_quiet 2 rfl rfl rfl (fun _ _ h _ => h) rfl rfl ?_
                    apply Exists.intro
                    refine ⟨fun sv w' hw' hfa => ?_, ?_⟩
                    · obtain ⟨f1, -⟩ := hfa
                      replace f1 : sv 1 = _ := f1
                      try dsimp only at f1
                      have hk := (Ext.refl wrb).drew.trans hw'; obtain ⟨y0, -⟩ := (hA.ext hk).walk; obtain ⟨y1, -⟩ := (hB.ext hk).walk
                      refine ⟨rfl, ?_⟩
                      simp only [putsL]
                      change quietTo _ _ _ _ (Sem.run _ (execOp (Act.eval (Act.put _ (some 55) (sv 1))) _) _)
                      try simp only [Act.put, List.setIfInBounds_toArray, List.set_cons_succ, List.set_cons_zero]
                      simp [go_sem, quietTo, Ext.refl, ↓IntWalk.iteOmega, f1, y0, y1]
                      all_goals try simp (disch := omega) only [IntWalk.i64_in]
                      all_goals first
                        | rfl
                    refine fac_quiet 3 rfl rfl rfl (fun _ _ h _ => h) rfl rfl ?_
                    apply Exists.intro
                    refine ⟨fun sv w' hw' hfa => ?_, ?_⟩
                    · have hk := (Ext.refl wrb).drew.trans hw'; obtain ⟨y0, -⟩ := (hA.ext hk).walk; obtain ⟨y1, -⟩ := (hB.ext hk).walk
                      refine ⟨rfl, ?_⟩
                      simp only [putsL]
                      change quietTo _ _ _ _ (Sem.run _ (execOp (Act.eval _) _) _)
                      try simp only [Act.put, List.setIfInBounds_toArray, List.set_cons_succ, List.set_cons_zero]
                      simp [go_sem, quietTo, Ext.refl, ↓IntWalk.iteOmega, y0, y1]
                      all_goals try simp (disch := omega) only [IntWalk.i64_in]
                      all_goals first
                        | rfl
                    refine fac_quiet 4 rfl rfl rfl (fun _ _ h _ => h) rfl rfl ?_
                    apply Exists.intro
                    refine ⟨fun sv w' hw' hfa => ?_, ?_⟩
                    · have hk := (Ext.refl wrb).drew.trans hw'; obtain ⟨y0, -⟩ := (hA.ext hk).walk; obtain ⟨y1, -⟩ := (hB.ext hk).walk
                      refine ⟨rfl, ?_⟩
                      simp only [putsL]
                      change quietTo _ _ _ _ (Sem.run _ (execOp (Act.eval _) _) _)
                      try simp only [Act.put, List.setIfInBounds_toArray, List.set_cons_succ, List.set_cons_zero]
                      simp [go_sem, quietTo, Ext.refl, ↓IntWalk.iteOmega, y0, y1]
                      all_goals try simp (disch := omega) only [IntWalk.i64_in]
                      all_goals first
                        | rfl
                    refine fac_quiet 5 rfl rfl rfl (fun _ _ h _ => h) rfl rfl ?_
                    apply Exists.intro
                    refine ⟨fun sv w' hw' hfa => ?_, ?_⟩
                    · obtain ⟨f3, f4, -⟩ := hfa
                      replace f3 : sv 3 = _ := f3
                      try dsimp only at f3
                      replace f4 : sv 4 = _ := f4
                      try dsimp only at f4
                      have hk := (Ext.refl wrb).drew.trans hw'; obtain ⟨y0, -⟩ := (hA.ext hk).walk; obtain ⟨y1, -⟩ := (hB.ext hk).walk
                      refine ⟨rfl, ?_⟩
                      simp only [putsL]
                      change quietTo _ _ _ _ (Sem.run _ (execOp (Act.eval (Act.put (Act.put _ (some 58) (sv 4)) (some 57) (sv 3))) _) _)
                      try simp only [Act.put, List.setIfInBounds_toArray, List.set_cons_succ, List.set_cons_zero]
                      simp [go_sem, quietTo, Ext.refl, ↓IntWalk.iteOmega, f3, f4, y0, y1]
                      all_goals try simp (disch := omega) only [IntWalk.i64_in]
                      all_goals first
                        | rfl
                        | (exact hby.out _)
                    refine fac_nil fun xd wrd herd hfrd hcrd holdd hapd => ?_
                    obtain ⟨f0, f1, f2, f3, f4, f5, -⟩ := hfrd
                    replace f0 : xd 0 = _ := f0
                    try dsimp only at f0
                    replace f1 : xd 1 = _ := f1
                    try dsimp only at f1
                    replace f2 : xd 2 = _ := f2
                    try dsimp only at f2
                    replace f3 : xd 3 = _ := f3
                    try dsimp only at f3
                    replace f4 : xd 4 = _ := f4
                    try dsimp only at f4
                    replace f5 : xd 5 = _ := f5
                    try dsimp only at f5
                    change wpList _ _ _ _ (Act.put (Act.put (Act.put (Act.put (Act.put (Act.put _ (some 54) (xd 0)) (some 55) (xd 1)) (some 56) (xd 2)) (some 57) (xd 3)) (some 58) (xd 4)) (some 59) (xd 5)) _
                    simp only [putsL, Nat.reduceAdd, List.drop_succ_cons, List.drop_zero, List.drop_nil, Act.put, List.setIfInBounds_toArray, List.set_cons_succ, List.set_cons_zero]
                    try simp only [f0, f1, f2, f3, f4, f5]
                    clear f0 f1 f2 f3 f4 f5
                    clear holdd hapd
                    have hk4 := (Ext.refl wrb).drew.trans herd
                    obtain ⟨w5, hrun, hO5, hg5⟩ := (hO3.ext hk4).put hxs.1 (places_fr hxm) (by rw [places_len]; have := hL.len; omega) (byW r x)
                    replace hrun : (Instr.mapUpdate 77 (.map (some mb)) (.string x.fr) (.agg #[.int .i64 (r.1 + x.m), .int .i64 (r.2 + 1)])).run Tryd.prog wrd = .ok () w5 := hrun
                    have hE5 : Ext w w5 := (hE3.trans hk4).grown hg5 (fun k hk => by cases hk; exact hmw)
                    go_wp2_with (refine wpList_put rfl _ _ _ 77 rfl (.map (some mb)) (.string x.fr) (.agg #[.int .i64 (r.1 + x.m), .int .i64 (r.2 + 1)]) rfl rfl rfl w5 hrun ?_)
                    go_roundw
                    case rel => exact ⟨_, true, j + 1, rfl, by go_num, by omega, hO5, hbet.1, hE5, (fun h => by cases h), fun _ => by
                      have := hbet.2
                      cases cc
                      · rw [(h0 rfl).2] at this; exact this
                      · have := h1 rfl; omega⟩
                    case measure => simp [intOf]; omega
            · obtain rfl : j = L.length := by omega
              go_wp2
              go_roundg (2 * total (bigB L) f' (placesL L) + (if cc then 1 else 0))
              case measure =>
                cases cc
                · have := (h0 rfl).2
                  simp only [Bool.false_eq_true, if_false, if_true]
                  omega
                · have := h1 rfl
                  simp only [if_true]
                  omega
              case rel => exact ⟨f', cc, rfl, hO, hI, hE, fun h => (h0 h).1, rfl⟩
end Go.Proofs.YtlmbpgjdepmlcaaDoor
