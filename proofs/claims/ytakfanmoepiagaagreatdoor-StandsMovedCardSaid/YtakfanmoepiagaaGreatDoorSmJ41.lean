/- Who stands elsewhere: the program's walk. Conditions: two right lists of stands lie in memory. Lists of strings that are equal. Conditions: the lists lie in memory. -/
import Derived.Test.YtakfanmoepiagaaGreatDoorSmJ40
import Derived.Laws.StructEq
import Derived.Test.YtakfanmoepiagaaGreatDoorSmMiH
set_option linter.unusedSimpArgs false
set_option linter.unusedVariables false
namespace Go.Proofs.YtakfanmoepiagaaGreatDoor
open Go Go.RowKit Go.Sort

section
variable {lp : Option Addr} {lc : Nat} {B : List StandV} {mp : Option Addr} {mc : Nat} {A : List StandV} {w : World}
set_option maxRecDepth 100000 in
set_option maxHeartbeats 1600000 in
theorem moved_ok (hB : Slc 3 staC w lp B.length lc B) (nB : B.length ≤ 200) (sB : ∀ x ∈ B, x.Small) (hb : looseF B = 0) (hA : Slc 3 staC w mp A.length mc A) (nA : A.length ≤ 200) (sA : ∀ x ∈ A, x.Small) (ha : looseF A = 0) :
    Calls Tryz.prog 33 #[.slice lp B.length lc, .slice mp A.length mc] w fun e w' => ∃ (q : Option Addr) (c : Nat), e = .returned (.tuple #[.slice q (movR A B).length c, .int .i64 0]) ∧ Slc 1 strC w' q (movR A B).length c (srtN (movR A B)) ∧ Ext w w' := by
  have hE0 : Ext w (w.alloc (.cells #[.slice lp B.length lc, .slice mp A.length mc] 34)) := (Ext.refl _).alloc _
  have hX : Blk (w.alloc (.cells #[.slice lp B.length lc, .slice mp A.length mc] 34)) w.heap.size 34 #[.slice lp B.length lc, .slice mp A.length mc] := Blk.new' rfl
  have hlf := loose_any (hB.ext hE0) nB sB
  rw [hb] at hlf
  have hla := fun u (hu : Ext w u) => loose_any (hA.ext hu) nA sA
  rw [ha] at hla
  have hnB := looseF_ok hb
  have hmm := @run_makeMap Tryz.prog
  replace hlf := Lib.hid hlf
  replace hla := Lib.hid hla
  replace hnB := Lib.hid hnB
  clear ha hb
  go_enter Tryz.func33, Tryz.ntmps33
  go_wp2
  refine wp_loop_rounds 3 ?_
  rw [rounds_succ]
  go_wp2_with (go_at_call 78; (with_reducible refine Calls.mono hlf.out ?_); rintro e w1 ⟨rfl, hb1⟩; have E1 := hE0.trans hb1; obtain ⟨y1, -⟩ := (hX.ext hb1).walk; have yl := (hX.ext hb1).lt)
  rw [rounds_succ]
  go_wp2_with (go_at_call 78; (with_reducible refine Calls.mono (hla.out _ E1) ?_); rintro e w2 ⟨rfl, hb2⟩)
  rw [rounds_succ]
  go_upto_region 9 with fail
  have hE2 := E1.trans hb2
  have hO0 := OwnS.made w2
  have hE3 : Ext w2 (w2.alloc (.map #[] 0)) := (Ext.refl _).alloc _
  clear hmm hlf hla y1 yl hX hE0 hb1 hb2 E1
  generalize (w2.alloc (.map #[] 0)) = W at *
  generalize hgm : w2.heap.size = gm at *
  replace hgm := Lib.hid hgm
  go_wp2
  go_loopw [34] (fun v34 wr => ∃ k : Nat, v34 = .int .i64 k ∧ k ≤ B.length ∧ OwnS wr gm k (fnL (B.take k)) ∧ Ext w2 wr) (fun v34 _ => B.length - (intOf v34).toNat)
  case atStart => exact ⟨0, rfl, Nat.zero_le _, by simpa [fnL_nil] using hO0, hE3⟩
  case round =>
    clear hO0 hE3
    obtain ⟨k, rfl, hk, hO, hE⟩ := hrel
    by_cases hlt : k < B.length
    · obtain ⟨x, hx⟩ := getD_some (rfl : B.length = B.length) hlt
      have hxs := (sB x (List.mem_of_getElem? hx)).1
      have hkI : (k : Int) < B.length := by omega
      rcases (slcC hB).2 with ⟨-, e⟩ | ⟨sb, so, rfl, hsb, hEl⟩
      · rw [e] at hx; cases hx
      obtain ⟨c0, c1, c2⟩ := (hEl.ext (hE2.trans hE) hsb).sta hx
      have hbw := Nat.lt_of_lt_of_le hsb (hE2.trans hE).size
      have hEa : Ext wr (wr.alloc (.cells #[.string x.name, .int .i64 x.row, .int .i64 x.place] 46)) := (Ext.refl _).alloc _
      obtain ⟨w5, hput, hO5, hg5⟩ := (hO.ext hEa).put hxs (by omega) x
      have hft := fnL_take hx
      replace hft := Lib.hid hft
      clear hEl hx hO
      go_wp2_with (refine wpList_putB rfl _ _ _ 120 rfl (.map (some gm)) (.string x.name) (staV x) rfl rfl rfl w5 hput ?_)
      go_roundw
      case rel => exact ⟨k + 1, by go_num, by omega, by rw [hft.out]; exact hO5, (hE.trans hEa).grown hg5 (fun j e => by cases e; rw [hgm.out]; exact Nat.le_refl _)⟩
      case measure => simp [intOf]; omega
    · obtain rfl : k = B.length := by omega
      rw [List.take_length] at hO
      have hEw := hE2.trans hE
      have hgl := hO.lt
      clear hE hE2
      generalize hW : wr = W2 at *
      clear hW
      go_wp2
      go_loopw [12, 45] (fun v12 v45 wq => ∃ (k n : Nat) (v : Value), v12 = v ∧ v45 = .int .i64 k ∧ k ≤ A.length ∧ wq.ownsRow W2.heap.size 9 1 v n ((movT A B k).flatMap strC) ∧ n = (movT A B k).length ∧ Ext W2 wq) (fun _ v45 _ => A.length - (intOf v45).toNat)
      case atStart => exact ⟨0, 0, _, rfl, rfl, Nat.zero_le _, World.ownsRow_nil _ _ _ _, rfl, Ext.refl _⟩
      case round =>
        obtain ⟨k, n, v, rfl, rfl, hk, hown, rfl, hE⟩ := hrel
        by_cases hlt : k < A.length
        · obtain ⟨x, hx⟩ := getD_some (rfl : A.length = A.length) hlt
          have hxs := (sA x (List.mem_of_getElem? hx)).1
          have hkI : (k : Int) < A.length := by omega
          rcases (slcC hA).2 with ⟨-, e⟩ | ⟨sb, so, rfl, hsb, hEl⟩
          · rw [e] at hx; cases hx
          obtain ⟨c0, c1, c2⟩ := (hEl.ext (hEw.trans hE) hsb).sta hx
          have hbw := Nat.lt_of_lt_of_le hsb (hEw.trans hE).size
          have hEa : Ext wr (wr.alloc (.cells #[.string x.name, .int .i64 x.row, .int .i64 x.place] 46)) := (Ext.refl _).alloc _
          have hrun := ((hO.ext hE).ext hEa).look_ok hxs
          have hms := movT_succ (A := B) hx
          have hml := movT_len A B k
          have hown2 := own_ext hEa hown
          have hE2 := hE.trans hEa
          replace hown2 := Lib.hid hown2
          cases hf : fnL B x.name with
          | none =>
            rw [hf] at hrun
            rw [fn_none hf] at hms
            simp only [Option.getD_none, Option.isSome_none, staV, noSta] at hrun
            simp only [Bool.false_eq_true, if_false] at hms
            replace hms := Lib.hid hms
            clear hEl hx hown hf hEa hE
            go_wp2_with (refine wpList_lookB rfl _ _ 120 true rfl (.map (some gm)) (.string x.name) _ rfl rfl hrun ?_)
            go_roundw
            case rel => exact ⟨k + 1, _, _, rfl, by go_num, by omega, by rw [hms.out]; exact hown2.out.alloc _, by rw [hms.out], hE2.alloc _⟩
            case measure => simp [intOf]; omega
          | some y =>
            obtain ⟨hany, hyn⟩ := fn_some hnB.out hf
            rw [hf] at hrun
            rw [hany] at hms
            simp only [Option.getD_some, Option.isSome_some, staV] at hrun
            rw [hyn] at hrun
            cases hd : difS y x
            · rw [hd] at hms
              simp only [Bool.false_eq_true, if_false] at hms
              obtain ⟨e1, e2⟩ : y.row = x.row ∧ y.place = x.place := by unfold difS at hd; simpa using hd
              rw [e1, e2] at hrun
              replace hms := Lib.hid hms
              clear hEl hx hown hf hEa hE hd hany e1 e2 hyn
              go_wp2_with (refine wpList_lookB rfl _ _ 120 true rfl (.map (some gm)) (.string x.name) _ rfl rfl hrun ?_)
              go_roundw
              case rel => exact ⟨k + 1, _, _, rfl, by go_num, by omega, by rw [hms.out]; exact hown2.out.alloc _, by rw [hms.out], hE2.alloc _⟩
              case measure => simp [intOf]; omega
            · rw [hd] at hms
              simp only [if_true] at hms
              replace hms := Lib.hid hms
              have hV : Blk (wr.alloc (.cells #[.string x.name, .int .i64 x.row, .int .i64 x.place] 46)) wr.heap.size 46 #[.string x.name, .int .i64 x.row, .int .i64 x.place] := Blk.new' rfl
              have ho6 := (hown2.out.alloc (.cells #[.string x.name, .int .i64 y.row, .int .i64 y.place] 46)).alloc (.cells #[.string x.name] 9)
              have hws := hE2.size
              simp only [World.size_alloc] at hws
              clear hEl hx hown hf hEa hE hany hyn
              by_cases h1 : y.row = x.row
              · have h2 : y.place ≠ x.place := fun e => by unfold difS at hd; rw [h1, e] at hd; simp at hd
                rw [h1] at hrun ho6
                have h2 : (y.place == x.place) = false := by simpa using h2
                clear hd h1
                go_upto_region 20 with (refine wpList_lookB rfl _ _ 120 true rfl (.map (some gm)) (.string x.name) _ rfl rfl hrun ?_)
                go_wp2_with (at_builtin; go_loud (refine wp_app1 _ (.tmp 62) (.tmp 65) 48 9 1 16 _ rfl rfl Tryz.underlying48 strInfo rfl (by decide) (by decide) W2.heap.size _ _ _ rfl ho6 (wr.heap.size + 1 + 1) (strC x.name) rfl rfl (Blk.new' (by simp)) (by simp [strC, Value.oneCell']) (by omega) (by simp; omega) ?_; intro v' w6 hown6 hgrow6 _))
                have hl6 : (movT A B k ++ [x.name]).length = (movT A B k).length + 1 := by simp
                go_roundw
                case rel => exact ⟨k + 1, _, v', rfl, by go_num, by omega, by rw [hms.out, flat_snoc]; exact hown6, by rw [hms.out, hl6], ((hE2.alloc _).alloc _).grown hgrow6 fun j e => (ho6.lt j e).1⟩
                case measure => simp [intOf]; omega
              · have h1 : (y.row == x.row) = false := by simpa using h1
                clear hd
                go_upto_region 20 with (refine wpList_lookB rfl _ _ 120 true rfl (.map (some gm)) (.string x.name) _ rfl rfl hrun ?_)
                go_wp2_with (at_builtin; go_loud (refine wp_app1 _ (.tmp 62) (.tmp 65) 48 9 1 16 _ rfl rfl Tryz.underlying48 strInfo rfl (by decide) (by decide) W2.heap.size _ _ _ rfl ho6 (wr.heap.size + 1 + 1) (strC x.name) rfl rfl (Blk.new' (by simp)) (by simp [strC, Value.oneCell']) (by omega) (by simp; omega) ?_; intro v' w6 hown6 hgrow6 _))
                have hl6 : (movT A B k ++ [x.name]).length = (movT A B k).length + 1 := by simp
                go_roundw
                case rel => exact ⟨k + 1, _, v', rfl, by go_num, by omega, by rw [hms.out, flat_snoc]; exact hown6, by rw [hms.out, hl6], ((hE2.alloc _).alloc _).grown hgrow6 fun j e => (ho6.lt j e).1⟩
                case measure => simp [intOf]; omega
        · obtain rfl : k = A.length := by omega
          have hml := movT_len A B A.length
          have hmr : movT A B A.length = movR A B := by unfold movT movR; rw [List.take_length]
          rw [hmr] at hown hml
          have hws := hEw.size
          by_cases h0 : (movR A B).length = 0
          · have hm0 := List.eq_nil_of_length_eq_zero h0
            rw [hm0] at hown
            obtain ⟨q, c, rfl, hS0⟩ := slc_of_own (xs := ([] : List ByteArray)) (enc := strC) (fun _ => rfl) hown (by decide) (by decide)
            go_wp2_with (go_at_call 79; refine (Tryz.slices_Sort_string_none _ _ _).mono ?_; rintro e w5 ⟨rfl, rfl⟩)
            go_ret2
            exact ⟨q, c, by rw [hm0]; rfl, by rw [hm0, srtN_nil]; exact hS0, hEw.trans hE⟩
          · obtain ⟨g, cap, rfl, hg, -⟩ := hown.form (by omega)
            have hso := sortN_any hown rfl (by omega)
            replace hso := Lib.hid hso
            go_wp2_with (go_at_call 79; (with_reducible refine Calls.mono hso.out ?_); rintro e w5 ⟨rfl, ho5, hx5⟩)
            obtain ⟨q, c, hqe, hSl⟩ := slc_of_own (enc := strC) (fun _ => rfl) ho5 (by decide) (by omega)
            cases hqe
            go_ret2
            exact ⟨_, _, rfl, hSl, hx5 w (hEw.trans hE) (by omega)⟩
end
end Go.Proofs.YtakfanmoepiagaaGreatDoor

namespace Go.Proofs.YtakfanmoepiagaaGreatDoor
open Go Go.RowKit

set_option maxRecDepth 100000 in
set_option maxHeartbeats 1600000 in
theorem eqStr_any (p q : Option Addr) (n c d : Nat) (xs : List ByteArray) (w : World) (h1 : Slc 1 strC w p n c xs) (h2 : Slc 1 strC w q n d xs) (hn : n ≤ 1000) :
    Calls Tryz.prog 35 #[.slice p n c, .slice q n d] w fun e w' => e = .returned (.bool true) ∧ Ext w w' := by
  obtain ⟨hl, hp⟩ := slcC h1
  obtain ⟨-, hq⟩ := slcC h2
  subst hl
  replace hp := Lib.hid hp
  replace hq := Lib.hid hq
  clear h1 h2
  go_enter Tryz.func35, Tryz.ntmps35
  go_wp2
  go_loopw [13] (fun i wr => ∃ k : Nat, k ≤ xs.length ∧ i = .int .i64 k ∧ Ext w wr) (fun i _ => xs.length - (intOf i).toNat)
  case atStart => exact ⟨0, Nat.zero_le _, rfl, Ext.refl _⟩
  case round =>
    obtain ⟨k, hk, rfl, hE⟩ := hrel
    by_cases hlt : k < xs.length
    · obtain ⟨x, hx⟩ := getD_some (rfl : xs.length = xs.length) hlt
      rcases hp.out with ⟨-, e⟩ | ⟨b1, o1, rfl, hb1, hE1⟩
      · rw [e] at hx; cases hx
      rcases hq.out with ⟨-, e⟩ | ⟨b2, o2, rfl, hb2, hE2⟩
      · rw [e] at hx; cases hx
      have c1 := (hE1.ext hE hb1).str hx
      have c2 := (hE2.ext hE hb2).str hx
      have l1 := Nat.lt_of_lt_of_le hb1 hE.size
      have l2 := Nat.lt_of_lt_of_le hb2 hE.size
      have hkI : (k : Int) < xs.length := by omega
      clear hx hE1 hE2
      go_upto_region 6 with fail
      refine wp_region_facts [] [([], false, false), ([], false, false), ([0, 1], false, false), ([0, 1, 2], false, false), ([], false, false), ([], false, false), ([4, 5], false, false), ([4, 5, 6], false, false), ([0, 1, 2, 3, 4, 5, 6, 7], false, false)] (Ext) Ext (fun _ => True) (by kernel_rfl) (by kernel_rfl) Ext.refl (fun _ _ _ => Ext.trans) (fun _ _ h => h) (fun _ _ h => h.size) (fun _ _ h _ => h) trivial ?_
      dsimp only [List.length_cons, List.length_nil, List.drop_succ_cons, List.drop_zero, List.drop_nil]
      refine fac_quiet 0 rfl rfl rfl (fun _ _ h _ => h) rfl rfl ?_
      apply Exists.intro
      refine ⟨fun sv w' hw' hfa => ?_, ?_⟩
      · refine ⟨rfl, ?_⟩
        simp only [putsL]
        change quietTo _ _ _ _ (Sem.run _ (execOp (Act.eval _) _) _)
        try simp only [Act.put, List.setIfInBounds_toArray, List.set_cons_succ, List.set_cons_zero]
        simp [go_sem, quietTo, Ext.refl]
        all_goals first
          | rfl
      refine fac_quiet 1 rfl rfl rfl (fun _ _ h _ => h) rfl rfl ?_
      apply Exists.intro
      refine ⟨fun sv w' hw' hfa => ?_, ?_⟩
      · refine ⟨rfl, ?_⟩
        simp only [putsL]
        change quietTo _ _ _ _ (Sem.run _ (execOp (Act.eval _) _) _)
        try simp only [Act.put, List.setIfInBounds_toArray, List.set_cons_succ, List.set_cons_zero]
        simp [go_sem, quietTo, Ext.refl]
        all_goals first
          | rfl
      refine fac_quiet 2 rfl rfl rfl (fun _ _ h _ => h) rfl rfl ?_
      apply Exists.intro
      refine ⟨fun sv w' hw' hfa => ?_, ?_⟩
      · obtain ⟨f0, f1, -⟩ := hfa
        replace f0 : sv 0 = _ := f0
        try dsimp only at f0
        replace f1 : sv 1 = _ := f1
        try dsimp only at f1
        have hk9 := (Ext.refl wr).drew.trans hw'; obtain ⟨hc, hff, hz9⟩ := hk9.walk; have y1 := (hc _ _ l1).trans c1; have y2 := (hc _ _ l2).trans c2
        refine ⟨rfl, ?_⟩
        simp only [putsL]
        change quietTo _ _ _ _ (Sem.run _ (execOp (Act.eval (Act.put (Act.put _ (some 17) (sv 1)) (some 16) (sv 0))) _) _)
        try simp only [Act.put, List.setIfInBounds_toArray, List.set_cons_succ, List.set_cons_zero]
        simp [go_sem, quietTo, Ext.refl, ↓IntWalk.iteOmega, f0, f1, hkI]
        all_goals try simp (disch := omega) only [IntWalk.i64_in]
        all_goals first
          | rfl
      refine fac_quiet 3 rfl rfl rfl (fun _ _ h _ => h) rfl rfl ?_
      apply Exists.intro
      refine ⟨fun sv w' hw' hfa => ?_, ?_⟩
      · obtain ⟨_, _, f2, -⟩ := hfa
        replace f2 : sv 2 = _ := f2
        try dsimp only at f2
        have hk9 := (Ext.refl wr).drew.trans hw'; obtain ⟨hc, hff, hz9⟩ := hk9.walk; have y1 := (hc _ _ l1).trans c1; have y2 := (hc _ _ l2).trans c2
        refine ⟨rfl, ?_⟩
        simp only [putsL]
        change quietTo _ _ _ _ (Sem.run _ (execOp (Act.eval (Act.put (Act.put (Act.put _ (some 18) (sv 2)) (some 17) (sv 1)) (some 16) (sv 0))) _) _)
        try simp only [Act.put, List.setIfInBounds_toArray, List.set_cons_succ, List.set_cons_zero]
        simp [go_sem, quietTo, Ext.refl, ↓IntWalk.iteOmega, f2, y1]
        all_goals try simp (disch := omega) only [IntWalk.i64_in]
        all_goals first
          | rfl
      refine fac_quiet 4 rfl rfl rfl (fun _ _ h _ => h) rfl rfl ?_
      apply Exists.intro
      refine ⟨fun sv w' hw' hfa => ?_, ?_⟩
      · refine ⟨rfl, ?_⟩
        simp only [putsL]
        change quietTo _ _ _ _ (Sem.run _ (execOp (Act.eval _) _) _)
        try simp only [Act.put, List.setIfInBounds_toArray, List.set_cons_succ, List.set_cons_zero]
        simp [go_sem, quietTo, Ext.refl]
        all_goals first
          | rfl
      refine fac_quiet 5 rfl rfl rfl (fun _ _ h _ => h) rfl rfl ?_
      apply Exists.intro
      refine ⟨fun sv w' hw' hfa => ?_, ?_⟩
      · refine ⟨rfl, ?_⟩
        simp only [putsL]
        change quietTo _ _ _ _ (Sem.run _ (execOp (Act.eval _) _) _)
        try simp only [Act.put, List.setIfInBounds_toArray, List.set_cons_succ, List.set_cons_zero]
        simp [go_sem, quietTo, Ext.refl]
        all_goals first
          | rfl
      refine fac_quiet 6 rfl rfl rfl (fun _ _ h _ => h) rfl rfl ?_
      apply Exists.intro
      refine ⟨fun sv w' hw' hfa => ?_, ?_⟩
      · obtain ⟨f4, f5, -⟩ := hfa
        replace f4 : sv 4 = _ := f4
        try dsimp only at f4
        replace f5 : sv 5 = _ := f5
        try dsimp only at f5
        have hk9 := (Ext.refl wr).drew.trans hw'; obtain ⟨hc, hff, hz9⟩ := hk9.walk; have y1 := (hc _ _ l1).trans c1; have y2 := (hc _ _ l2).trans c2
        refine ⟨rfl, ?_⟩
        simp only [putsL]
        change quietTo _ _ _ _ (Sem.run _ (execOp (Act.eval (Act.put (Act.put _ (some 21) (sv 5)) (some 20) (sv 4))) _) _)
        try simp only [Act.put, List.setIfInBounds_toArray, List.set_cons_succ, List.set_cons_zero]
        simp [go_sem, quietTo, Ext.refl, ↓IntWalk.iteOmega, f4, f5, hkI]
        all_goals try simp (disch := omega) only [IntWalk.i64_in]
        all_goals first
          | rfl
      refine fac_quiet 7 rfl rfl rfl (fun _ _ h _ => h) rfl rfl ?_
      apply Exists.intro
      refine ⟨fun sv w' hw' hfa => ?_, ?_⟩
      · obtain ⟨_, _, f6, -⟩ := hfa
        replace f6 : sv 6 = _ := f6
        try dsimp only at f6
        have hk9 := (Ext.refl wr).drew.trans hw'; obtain ⟨hc, hff, hz9⟩ := hk9.walk; have y1 := (hc _ _ l1).trans c1; have y2 := (hc _ _ l2).trans c2
        refine ⟨rfl, ?_⟩
        simp only [putsL]
        change quietTo _ _ _ _ (Sem.run _ (execOp (Act.eval (Act.put (Act.put (Act.put _ (some 22) (sv 6)) (some 21) (sv 5)) (some 20) (sv 4))) _) _)
        try simp only [Act.put, List.setIfInBounds_toArray, List.set_cons_succ, List.set_cons_zero]
        simp [go_sem, quietTo, Ext.refl, ↓IntWalk.iteOmega, f6, y2]
        all_goals try simp (disch := omega) only [IntWalk.i64_in]
        all_goals first
          | rfl
      refine fac_quiet 8 rfl rfl rfl (fun _ _ h _ => h) rfl rfl ?_
      apply Exists.intro
      refine ⟨fun sv w' hw' hfa => ?_, ?_⟩
      · obtain ⟨_, _, _, f3, _, _, _, f7, -⟩ := hfa
        replace f3 : sv 3 = _ := f3
        try dsimp only at f3
        replace f7 : sv 7 = _ := f7
        try dsimp only at f7
        refine ⟨rfl, ?_⟩
        simp only [putsL]
        change quietTo _ _ _ _ (Sem.run _ (execOp (Act.eval (Act.put (Act.put (Act.put (Act.put (Act.put (Act.put (Act.put (Act.put _ (some 23) (sv 7)) (some 22) (sv 6)) (some 21) (sv 5)) (some 20) (sv 4)) (some 19) (sv 3)) (some 18) (sv 2)) (some 17) (sv 1)) (some 16) (sv 0))) _) _)
        try simp only [Act.put, List.setIfInBounds_toArray, List.set_cons_succ, List.set_cons_zero]
        simp [go_sem, quietTo, Ext.refl, ↓IntWalk.iteOmega, f3, f7]
        all_goals try simp (disch := omega) only [IntWalk.i64_in]
        all_goals first
          | rfl
      refine fac_nil fun xq wrq herq hfrq hcrq holdq hapq => ?_
      obtain ⟨f0, f1, f2, f3, f4, f5, f6, f7, f8, -⟩ := hfrq
      replace f0 : xq 0 = _ := f0
      try dsimp only at f0
      replace f1 : xq 1 = _ := f1
      try dsimp only at f1
      replace f2 : xq 2 = _ := f2
      try dsimp only at f2
      replace f3 : xq 3 = _ := f3
      try dsimp only at f3
      replace f4 : xq 4 = _ := f4
      try dsimp only at f4
      replace f5 : xq 5 = _ := f5
      try dsimp only at f5
      replace f6 : xq 6 = _ := f6
      try dsimp only at f6
      replace f7 : xq 7 = _ := f7
      try dsimp only at f7
      replace f8 : xq 8 = _ := f8
      try dsimp only at f8
      change wpList _ _ _ _ (Act.put (Act.put (Act.put (Act.put (Act.put (Act.put (Act.put (Act.put (Act.put _ (some 16) (xq 0)) (some 17) (xq 1)) (some 18) (xq 2)) (some 19) (xq 3)) (some 20) (xq 4)) (some 21) (xq 5)) (some 22) (xq 6)) (some 23) (xq 7)) (some 24) (xq 8)) _
      simp only [putsL, Nat.reduceAdd, List.drop_succ_cons, List.drop_zero, List.drop_nil, Act.put, List.setIfInBounds_toArray, List.set_cons_succ, List.set_cons_zero]
      try simp only [f0, f1, f2, f3, f4, f5, f6, f7, f8]
      clear f0 f1 f2 f3 f4 f5 f6 f7 f8
      clear holdq hapq
      go_wp2
      go_roundw
      case rel => exact ⟨k + 1, by omega, by go_num, hE.trans ((Ext.refl _).drew.trans herq)⟩
      case measure => simp [intOf]; omega
    · obtain rfl : k = xs.length := by omega
      go_wp2
      go_ret
      exact ⟨rfl, hE⟩
end Go.Proofs.YtakfanmoepiagaaGreatDoor
