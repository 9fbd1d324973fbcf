/- Buses: groups put into as few buses as possible. Conditions: the groups lie in memory. -/
import Derived.Test.YtlmbpgjdepmlcaaDoorBusF
import Derived.Outline
namespace Go.Proofs.YtlmbpgjdepmlcaaDoor
open Go Go.RowKit

def manyL (L : List GrpV) : List Int := L.map (·.many)
def nameL (L : List GrpV) : List ByteArray := L.map (·.name)
/-- The fewest buses that load finds. -/
def Fewest (seat : Int) (L : List GrpV) (most : Nat) (bs : List Nat) : Prop := ldF seat most (manyL L) [] = some bs ∧ ∀ m, m < most → ldF seat m (manyL L) [] = none
/-- What Buses answers. -/
def BusRes (w : World) (L : List GrpV) (seat : Int) (e : Ending) (w' : World) : Prop :=
  (groupsF L ≠ 0 ∧ e = .returned (.tuple #[.slice none 0 0, .bool false, .int .i64 (groupsF L)]) ∧ Ext w w') ∨
  (groupsF L = 0 ∧ outB seat 1 100 = true ∧ e = .returned (.tuple #[.slice none 0 0, .bool false, .int .i64 1]) ∧ Ext w w') ∨
  (groupsF L = 0 ∧ outB seat 1 100 = false ∧ L.any (overB seat) = true ∧ e = .returned (.tuple #[.slice none 0 0, .bool false, .int .i64 0]) ∧ Ext w w') ∨
  (groupsF L = 0 ∧ outB seat 1 100 = false ∧ L.any (overB seat) = false ∧ ∃ most bs og vs, Fewest seat L most bs ∧ e = .returned (.tuple #[.slice (some ⟨og, 0, none⟩) most most, .bool true, .int .i64 0]) ∧ OutM w w' og (rowsN most (nameL L) bs) vs)

theorem OutM.base {w0 w1 w : World} {og : Nat} {rows : List (List ByteArray)} {vs : List Value} (h : OutM w1 w og rows vs) (he : Ext w0 w1) : OutM w0 w og rows vs :=
  ⟨he.trans h.ext, Nat.le_trans he.size h.low, h.len, h.blk, h.own, h.far⟩
theorem manyL_len (L : List GrpV) : (manyL L).length = L.length := List.length_map _
theorem over_all {seat : Int} {L : List GrpV} (hok : GrpsOk L) (h : L.any (overB seat) = false) : ∀ n ∈ manyL L, 1 ≤ n ∧ n ≤ seat := fun n hn => by
  obtain ⟨x, hx, rfl⟩ := List.mem_map.1 hn
  have h1 := List.any_eq_false.1 h x hx
  have h2 := (hok.one x hx).1
  unfold overB at h1
  simp only [decide_eq_true_eq] at h1
  omega

set_option maxRecDepth 100000 in
set_option maxHeartbeats 6400000 in
theorem buses_any (p : Option Addr) (n c : Nat) (L : List GrpV) (seat : Int) (w : World) (hS : Slc 2 grpC w p n c L) (hsm : ∀ x ∈ L, x.Small) (hn : n ≤ 1000) (hs0 : -1000 ≤ seat) (hs1 : seat ≤ 1000) :
    Calls Tryd.prog 16 #[.slice p n c, .int .i64 seat] w (BusRes w L seat) := by
  have hck := checkGroups_any p n c L (w.alloc (.cells #[.int .i64 seat] 3)) (hS.ext (Ext.alloc (Ext.refl _) _)).1 hsm hn
  have hB0 : Blk (w.alloc (.cells #[.int .i64 seat] 3)) w.heap.size 3 #[.int .i64 seat] := Blk.new' rfl
  have hE0 : Ext w (w.alloc (.cells #[.int .i64 seat] 3)) := (Ext.refl _).alloc _
  go_enter Tryd.func16, Tryd.ntmps16
  by_cases hz : groupsF L = 0
  · rw [hz] at hck
    go_upto_region 4 with (go_at_call 20; (with_reducible refine Calls.mono hck ?_); rintro e w1 ⟨rfl, hb1⟩)
    have hB1 := hB0.ext hb1
    have hE1 := hE0.trans hb1
    have hS1 := hS.ext hE1
    clear hck hb1 hB0 hE0
    obtain ⟨z1, z2⟩ := hB1.walk
    have hlt1 := hB1.lt
    cases ho : outB seat 1 100
    · have hok := groupsF_ok hz
      have hnl : L.length = n := hS.1.1
      have hhas := busesHas seat w.heap.size p n c L w1 hB1 hS1 (by omega)
      replace hok := Lib.hid hok
      replace hz := Lib.hid hz
      cases ha : L.any (overB seat)
      · rw [ha] at hhas
        go_upto_region 8 with (first
          | (go_at_call 43; (with_reducible refine Calls.mono (outside_any _ _ _ _) ?_); rintro e w4 ⟨rfl, rfl⟩)
          | (go_at_call 44; (with_reducible refine Calls.mono hhas ?_); rintro e w2 ⟨rfl, hb2⟩))
        have hB2 := hB1.ext hb2
        have hE2 := hE1.trans hb2
        have hS2 := hS1.ext hb2
        have hse : 1 ≤ seat ∧ seat ≤ 100 := by
          rw [outB_inB] at ho
          unfold inB at ho
          simpa using ho
        have hall := over_all hok.out ha
        have hex := ld_each (seat := seat) (ns := manyL L) (by omega) fun n hn => ⟨by have := (hall n hn).1; omega, (hall n hn).2⟩
        rw [manyL_len] at hex
        have hL12 := hok.out.len
        have hone := hok.out.one
        have hbm : ∀ m, (∀ q, q < m → ldF seat q (manyL L) [] = none) → m ≤ L.length := fun m hm => by
          rcases Nat.lt_or_ge L.length m with h1 | h1
          · rw [hm _ h1] at hex; cases hex
          · exact h1
        obtain ⟨i0, hi, hz0, hz1, hz2⟩ := info_parts strsInfo
        replace hex := Lib.hid hex
        replace hbm := Lib.hid hbm
        replace hall := Lib.hid hall
        replace hone := Lib.hid hone
        replace ho := Lib.hid ho
        replace ha := Lib.hid ha
        replace hi := Lib.hid hi
        replace hz0 := Lib.hid hz0
        replace hz1 := Lib.hid hz1
        replace hz2 := Lib.hid hz2
        clear hhas z1 z2 hS1 hB1 hE1
        go_wp2
        go_loopw [8] (fun v8 wr => ∃ m : Nat, v8 = .int .i64 m ∧ (∀ q, q < m → ldF seat q (manyL L) [] = none) ∧ Ext w2 wr) (fun v8 _ => 14 - (intOf v8).toNat)
        case atStart => exact ⟨0, rfl, (fun q hq => absurd hq (Nat.not_lt_zero _)), Ext.refl _⟩
        case round =>
          obtain ⟨m, rfl, hno, hE⟩ := hrel
          have hml := hbm.out m hno
          have hSr := hS2.ext hE
          obtain ⟨hn2, hG⟩ := slcC hSr
          subst hn2
          have hM0 : LdM wr (wr.alloc (.cells #[.slice p L.length c, .slice none 0 0, .int .i64 m, .int .i64 seat, .slice none 0 0] 88)) wr.heap.size (.slice p L.length c) seat m none 0 none 0 [] [] :=
            ⟨(Ext.refl _).alloc _, Nat.le_refl _, Blk.new' rfl, World.ownsRow_nil _ _ _ _, World.ownsRow_nil _ _ _ _, fun a b h => by cases h⟩
          have hld := load_any wr wr.heap.size c p L seat m hG hL12 hone.out ⟨by omega, by omega⟩ (by omega) (manyL L) [] [] _ none 0 none 0 rfl (Nat.zero_le _) (fun x hx => by cases hx) (Nat.zero_le _) hM0
          obtain ⟨z1, z2⟩ := (hB2.ext hE).walk
          replace hno := Lib.hid hno
          replace hG := Lib.hid hG
          replace hld := Lib.hid hld
          clear hM0
          go_upto_if 32 with (go_at_call 46; (with_reducible refine Calls.mono hld.out ?_); rintro e w7 ⟨r, rfl, hr1, hr2⟩)
          cases r
          · obtain ⟨hld2, _, _, _, _, hM1⟩ := hr2 rfl
            have hE7 := hE.trans hM1.ext
            replace hld2 := Lib.hid hld2
            clear hM1 hr1 hr2 hld
            go_wp2
            go_roundw
            case rel => exact ⟨m + 1, by go_num, (fun q hq => by
              rcases Nat.lt_or_ge q m with h1 | h1
              · exact hno.out q h1
              · obtain rfl : q = m := by omega
                exact hld2.out), hE7⟩
            case measure => simp [intOf]; omega
          · obtain ⟨bs, lp, lc, ip, ic, left', hld2, hM1⟩ := hr1 rfl
            rw [List.nil_append] at hM1
            have hfit := ld_fits hld2 fun b => by simp; omega
            have hbl : bs.length = L.length := by have := hfit.len; rw [manyL_len] at this; exact this
            have hfew : Fewest seat L m bs := ⟨hld2, hno.out⟩
            have hlt := hfit.lt
            have hE7 := hE.trans hM1.ext
            replace hfit := Lib.hid hfit
            replace hfew := Lib.hid hfew
            replace hlt := Lib.hid hlt
            clear hr1 hr2 hld hld2 z1 z2
            go_upto_region 13 with (refine wpList_make_full _ rfl _ _ 44 rfl w7.heap.size 32 i0 (.slice none 0 0) 1 Tryd.underlying44 hi.out hz0.out hz1.out .i64 .i64 m m m rfl rfl rfl rfl (by rw [hz2.out]; omega) (by unfold maxLen; omega) (Nat.le_refl _) ?_; intro w8 hown8 hg8)
            have hE8 : Ext w7 w8 := (Ext.refl w7).grown hg8 fun k e => by cases e
            have hO8 := OutM.made hE8 (Nat.le_refl _) hown8
            rw [← rowsN_zero] at hO8
            generalize hog : w7.heap.size = og at *
            have hM8 := hM1.more hE8
            obtain ⟨z1, z2⟩ := hM8.blk.walk
            replace hM1 := Lib.hid hM1
            clear hown8 hg8
            replace hM8 := Lib.hid hM8
            replace hO8 := Lib.hid hO8
            have hnb : (nameL L).length = bs.length := by rw [hbl]; exact List.length_map _
            go_wp2
            go_loopw [40] (fun v40 wq => ∃ (i : Nat) (vs : List Value), v40 = .int .i64 i ∧ i ≤ bs.length ∧ OutM w7 wq og (rowsN m ((nameL L).take i) (bs.take i)) vs) (fun v40 _ => bs.length - (intOf v40).toNat)
            case atStart => exact ⟨0, _, rfl, Nat.zero_le _, hO8.out⟩
            case round =>
              clear hO8 hM8 z1 z2
              obtain ⟨i, vs, rfl, hi9, hO⟩ := hrel
              by_cases hil : i < bs.length
              · obtain ⟨x, hx⟩ := getD_some (rfl : bs.length = bs.length) hil
                obtain ⟨g, hg⟩ := getD_some hbl.symm hil
                have hxm : x < m := hlt.out x (List.mem_of_getElem? hx)
                have hnm : (nameL L)[i]? = some g.name := by unfold nameL; rw [List.getElem?_map, hg]; rfl
                have hMq := hM1.out.more hO.ext
                obtain ⟨ib, rfl, -, hibw⟩ := hMq.iform (by omega)
                have c0 : wr.cell? ⟨ib, i, none⟩ = some (.int .i64 x) := by
                  have := own_cell natC_len hMq.io hx 0 (v := .int .i64 x) rfl hil
                  simpa using this
                rcases hG.out with ⟨-, hLn⟩ | ⟨b, off, rfl, hb, hEl⟩
                · rw [hLn] at hg; cases hg
                have hE9 := hM1.out.ext.trans hO.ext
                have c1 := ((hEl.ext hE9 hb).grp hg).1
                have hbw := Nat.lt_of_lt_of_le hb hE9.size
                have hiL : (i : Int) < L.length := by omega
                have hiB : (i : Int) < bs.length := by omega
                have hxI : (x : Int) < m := by omega
                obtain ⟨pp, cc, hvx, hcx, hox⟩ := hO.at_ (rowsN_at (ss := (nameL L).take i) (bs := bs.take i) hxm)
                have hpl := pickN_len x ((nameL L).take i) (bs.take i)
                have hstep := rowsN_snoc (most := m) (x := x) (s := g.name) (ss := (nameL L).take i) (bs := bs.take i) (by rw [List.length_take, List.length_take, hnb]) hxm
                have htl : ((nameL L).take i).length ≤ 12 := by rw [List.length_take]; omega
                rw [← take_snocL hnm, ← take_snocL hx] at hstep
                have hrx := rowsN_at (ss := (nameL L).take i) (bs := bs.take i) hxm
                generalize pickN x ((nameL L).take i) (bs.take i) = r at *
                have hogw := hO.blk.lt
                have hcow := hox
                replace hstep := Lib.hid hstep
                replace hx := Lib.hid hx
                replace hg := Lib.hid hg
                replace hnm := Lib.hid hnm
                replace hEl := Lib.hid hEl
                replace hvx := Lib.hid hvx
                replace hrx := Lib.hid hrx
                replace hO := Lib.hid hO
                replace hox := Lib.hid hox
                replace hMq := Lib.hid hMq
                clear hcow
                go_upto_region 16 with fail
                refine wp_region_facts [0, 1] [([], false, false), ([], false, false), ([], false, false), ([], false, false), ([2, 3], false, false), ([2, 3, 4], false, false), ([], false, false), ([], false, false), ([6, 7], false, false), ([6, 7, 8], false, false), ([6, 7, 8, 9], false, false), ([6, 7, 8, 9, 10], false, true)] (Ext) Ext (fun _ => True) (by kernel_rfl) (by kernel_rfl) Ext.refl (fun _ _ _ => Ext.trans) (fun _ _ h => h) (fun _ _ h => h.size) (fun _ _ h _ => h) trivial ?_
                dsimp only [List.length_cons, List.length_nil, List.drop_succ_cons, List.drop_zero, List.drop_nil]
                refine fac_late 0 rfl rfl Ext.refl (fun _ _ h _ => h) rfl rfl (fun _ _ _ _ h => h) ?_
                apply Exists.intro
                refine ⟨fun sv w' hw' hfa => ?_, ?_⟩
                · refine ⟨rfl, fun w2 => ?_⟩
                  simp only [putsL]
                  change pureTo _ _ (Sem.run _ (execOp (Act.eval _) _) _)
                  try simp only [Act.put, List.setIfInBounds_toArray, List.set_cons_succ, List.set_cons_zero]
                  simp [go_sem, pureTo]
                  all_goals try simp (disch := omega) only [IntWalk.i64_in]
                  all_goals first
                    | rfl
                refine fac_late 1 rfl rfl Ext.refl (fun _ _ h _ => h) rfl rfl (fun _ _ _ _ h => h) ?_
                apply Exists.intro
                refine ⟨fun sv w' hw' hfa => ?_, ?_⟩
                · refine ⟨rfl, fun w2 => ?_⟩
                  simp only [putsL]
                  change pureTo _ _ (Sem.run _ (execOp (Act.eval _) _) _)
                  try simp only [Act.put, List.setIfInBounds_toArray, List.set_cons_succ, List.set_cons_zero]
                  simp [go_sem, pureTo]
                  all_goals try simp (disch := omega) only [IntWalk.i64_in]
                  all_goals first
                    | rfl
                refine fac_quiet 2 rfl rfl rfl (fun _ _ h _ => h) rfl rfl ?_
                apply Exists.intro
                refine ⟨fun sv w' hw' hfa => ?_, ?_⟩
                · have hk := (Ext.refl wr).drew.trans hw'; obtain ⟨hc, hff, hz9⟩ := hk.walk; have y2 := (hc _ _ hogw).trans hcx; have y3 := (hc _ _ hbw).trans c1
                  refine ⟨rfl, ?_⟩
                  simp only [putsL]
                  change quietTo _ _ _ _ (Sem.run _ (execOp (Act.eval _) _) _)
                  try simp only [Act.put, List.setIfInBounds_toArray, List.set_cons_succ, List.set_cons_zero]
                  simp [go_sem, quietTo, Ext.refl]
                  all_goals try simp (disch := omega) only [IntWalk.i64_in]
                  all_goals first
                    | rfl
                refine fac_quiet 3 rfl rfl rfl (fun _ _ h _ => h) rfl rfl ?_
                apply Exists.intro
                refine ⟨fun sv w' hw' hfa => ?_, ?_⟩
                · have hk := (Ext.refl wr).drew.trans hw'; obtain ⟨hc, hff, hz9⟩ := hk.walk; have y2 := (hc _ _ hogw).trans hcx; have y3 := (hc _ _ hbw).trans c1
                  refine ⟨rfl, ?_⟩
                  simp only [putsL]
                  change quietTo _ _ _ _ (Sem.run _ (execOp (Act.eval _) _) _)
                  try simp only [Act.put, List.setIfInBounds_toArray, List.set_cons_succ, List.set_cons_zero]
                  simp [go_sem, quietTo, Ext.refl]
                  all_goals try simp (disch := omega) only [IntWalk.i64_in]
                  all_goals first
                    | rfl
                refine fac_quiet 4 rfl rfl rfl (fun _ _ h _ => h) rfl rfl ?_
                apply Exists.intro
                refine ⟨fun sv w' hw' hfa => ?_, ?_⟩
                · obtain ⟨f2, f3, -⟩ := hfa
                  replace f2 : sv 2 = _ := f2
                  try dsimp only at f2
                  replace f3 : sv 3 = _ := f3
                  try dsimp only at f3
                  have hk := (Ext.refl wr).drew.trans hw'; obtain ⟨hc, hff, hz9⟩ := hk.walk; have y2 := (hc _ _ hogw).trans hcx; have y3 := (hc _ _ hbw).trans c1
                  refine ⟨rfl, ?_⟩
                  simp only [putsL]
                  change quietTo _ _ _ _ (Sem.run _ (execOp (Act.eval (Act.put (Act.put _ (some 48) (sv 3)) (some 47) (sv 2))) _) _)
                  try simp only [Act.put, List.setIfInBounds_toArray, List.set_cons_succ, List.set_cons_zero]
                  simp [go_sem, quietTo, Ext.refl, ↓IntWalk.iteOmega, f2, f3, hxI]
                  all_goals try simp (disch := omega) only [IntWalk.i64_in]
                  all_goals first
                    | rfl
                refine fac_quiet 5 rfl rfl rfl (fun _ _ h _ => h) rfl rfl ?_
                apply Exists.intro
                refine ⟨fun sv w' hw' hfa => ?_, ?_⟩
                · obtain ⟨f2, f3, f4, -⟩ := hfa
                  replace f2 : sv 2 = _ := f2
                  try dsimp only at f2
                  replace f3 : sv 3 = _ := f3
                  try dsimp only at f3
                  replace f4 : sv 4 = _ := f4
                  try dsimp only at f4
                  have hk := (Ext.refl wr).drew.trans hw'; obtain ⟨hc, hff, hz9⟩ := hk.walk; have y2 := (hc _ _ hogw).trans hcx; have y3 := (hc _ _ hbw).trans c1
                  refine ⟨rfl, ?_⟩
                  simp only [putsL]
                  change quietTo _ _ _ _ (Sem.run _ (execOp (Act.eval (Act.put (Act.put (Act.put _ (some 49) (sv 4)) (some 48) (sv 3)) (some 47) (sv 2))) _) _)
                  try simp only [Act.put, List.setIfInBounds_toArray, List.set_cons_succ, List.set_cons_zero]
                  simp [go_sem, quietTo, Ext.refl, ↓IntWalk.iteOmega, f4, y2]
                  all_goals try simp (disch := omega) only [IntWalk.i64_in]
                  all_goals first
                    | rfl
                refine fac_quiet 6 rfl rfl rfl (fun _ _ h _ => h) rfl rfl ?_
                apply Exists.intro
                refine ⟨fun sv w' hw' hfa => ?_, ?_⟩
                · have hk := (Ext.refl wr).drew.trans hw'; obtain ⟨hc, hff, hz9⟩ := hk.walk; have y2 := (hc _ _ hogw).trans hcx; have y3 := (hc _ _ hbw).trans c1
                  refine ⟨rfl, ?_⟩
                  simp only [putsL]
                  change quietTo _ _ _ _ (Sem.run _ (execOp (Act.eval _) _) _)
                  try simp only [Act.put, List.setIfInBounds_toArray, List.set_cons_succ, List.set_cons_zero]
                  simp [go_sem, quietTo, Ext.refl]
                  all_goals try simp (disch := omega) only [IntWalk.i64_in]
                  all_goals first
                    | rfl
                refine fac_quiet 7 rfl rfl rfl (fun _ _ h _ => h) rfl rfl ?_
                apply Exists.intro
                refine ⟨fun sv w' hw' hfa => ?_, ?_⟩
                · have hk := (Ext.refl wr).drew.trans hw'; obtain ⟨hc, hff, hz9⟩ := hk.walk; have y2 := (hc _ _ hogw).trans hcx; have y3 := (hc _ _ hbw).trans c1
                  refine ⟨rfl, ?_⟩
                  simp only [putsL]
                  change quietTo _ _ _ _ (Sem.run _ (execOp (Act.eval _) _) _)
                  try simp only [Act.put, List.setIfInBounds_toArray, List.set_cons_succ, List.set_cons_zero]
                  simp [go_sem, quietTo, Ext.refl]
                  all_goals try simp (disch := omega) only [IntWalk.i64_in]
                  all_goals first
                    | rfl
                refine fac_quiet 8 rfl rfl rfl (fun _ _ h _ => h) rfl rfl ?_
                apply Exists.intro
                refine ⟨fun sv w' hw' hfa => ?_, ?_⟩
                · obtain ⟨f6, f7, -⟩ := hfa
                  replace f6 : sv 6 = _ := f6
                  try dsimp only at f6
                  replace f7 : sv 7 = _ := f7
                  try dsimp only at f7
                  have hk := (Ext.refl wr).drew.trans hw'; obtain ⟨hc, hff, hz9⟩ := hk.walk; have y2 := (hc _ _ hogw).trans hcx; have y3 := (hc _ _ hbw).trans c1
                  refine ⟨rfl, ?_⟩
                  simp only [putsL]
                  change quietTo _ _ _ _ (Sem.run _ (execOp (Act.eval (Act.put (Act.put _ (some 52) (sv 7)) (some 51) (sv 6))) _) _)
                  try simp only [Act.put, List.setIfInBounds_toArray, List.set_cons_succ, List.set_cons_zero]
                  simp [go_sem, quietTo, Ext.refl, ↓IntWalk.iteOmega, f6, f7, hiL]
                  all_goals try simp (disch := omega) only [IntWalk.i64_in]
                  all_goals first
                    | rfl
                refine fac_quiet 9 rfl rfl rfl (fun _ _ h _ => h) rfl rfl ?_
                apply Exists.intro
                refine ⟨fun sv w' hw' hfa => ?_, ?_⟩
                · obtain ⟨f6, f7, f8, -⟩ := hfa
                  replace f6 : sv 6 = _ := f6
                  try dsimp only at f6
                  replace f7 : sv 7 = _ := f7
                  try dsimp only at f7
                  replace f8 : sv 8 = _ := f8
                  try dsimp only at f8
                  have hk := (Ext.refl wr).drew.trans hw'; obtain ⟨hc, hff, hz9⟩ := hk.walk; have y2 := (hc _ _ hogw).trans hcx; have y3 := (hc _ _ hbw).trans c1
                  refine ⟨rfl, ?_⟩
                  simp only [putsL]
                  change quietTo _ _ _ _ (Sem.run _ (execOp (Act.eval (Act.put (Act.put (Act.put _ (some 53) (sv 8)) (some 52) (sv 7)) (some 51) (sv 6))) _) _)
                  try simp only [Act.put, List.setIfInBounds_toArray, List.set_cons_succ, List.set_cons_zero]
                  simp [go_sem, quietTo, Ext.refl, f8]
                  all_goals try simp (disch := omega) only [IntWalk.i64_in]
                  all_goals first
                    | rfl
                refine fac_quiet 10 rfl rfl rfl (fun _ _ h _ => h) rfl rfl ?_
                apply Exists.intro
                refine ⟨fun sv w' hw' hfa => ?_, ?_⟩
                · obtain ⟨f6, f7, f8, f9, -⟩ := hfa
                  replace f6 : sv 6 = _ := f6
                  try dsimp only at f6
                  replace f7 : sv 7 = _ := f7
                  try dsimp only at f7
                  replace f8 : sv 8 = _ := f8
                  try dsimp only at f8
                  replace f9 : sv 9 = _ := f9
                  try dsimp only at f9
                  have hk := (Ext.refl wr).drew.trans hw'; obtain ⟨hc, hff, hz9⟩ := hk.walk; have y2 := (hc _ _ hogw).trans hcx; have y3 := (hc _ _ hbw).trans c1
                  refine ⟨rfl, ?_⟩
                  simp only [putsL]
                  change quietTo _ _ _ _ (Sem.run _ (execOp (Act.eval (Act.put (Act.put (Act.put (Act.put _ (some 54) (sv 9)) (some 53) (sv 8)) (some 52) (sv 7)) (some 51) (sv 6))) _) _)
                  try simp only [Act.put, List.setIfInBounds_toArray, List.set_cons_succ, List.set_cons_zero]
                  simp [go_sem, quietTo, Ext.refl, ↓IntWalk.iteOmega, f9, y3]
                  all_goals try simp (disch := omega) only [IntWalk.i64_in]
                  all_goals first
                    | rfl
                refine fac_row 11 rfl rfl rfl (fun _ _ h _ => h) (fun _ _ h => h.size) (fun _ _ _ _ _ he _ hb => hb.ext he) ?_
                apply Exists.intro
                apply Exists.intro
                apply Exists.intro
                apply Exists.intro
                refine ⟨fun sv w' hw' hfa => ?_, ?_⟩
                · obtain ⟨f6, f7, f8, f9, f10, -⟩ := hfa
                  replace f6 : sv 6 = _ := f6
                  try dsimp only at f6
                  replace f7 : sv 7 = _ := f7
                  try dsimp only at f7
                  replace f8 : sv 8 = _ := f8
                  try dsimp only at f8
                  replace f9 : sv 9 = _ := f9
                  try dsimp only at f9
                  replace f10 : sv 10 = _ := f10
                  try dsimp only at f10
                  have hk := (Ext.refl wr).drew.trans hw'; obtain ⟨hc, hff, hz9⟩ := hk.walk; have y2 := (hc _ _ hogw).trans hcx; have y3 := (hc _ _ hbw).trans c1
                  refine ⟨rfl, ?_⟩
                  simp only [putsL]
                  change rowTo _ _ _ _ _ (Sem.run _ (execOp (Act.eval (Act.put (Act.put (Act.put (Act.put (Act.put _ (some 55) (sv 10)) (some 54) (sv 9)) (some 53) (sv 8)) (some 52) (sv 7)) (some 51) (sv 6))) _) _)
                  try simp only [Act.put, List.setIfInBounds_toArray, List.set_cons_succ, List.set_cons_zero]
                  simp [go_sem, rowTo, Ext.refl, f10]
                  all_goals try simp (disch := omega) only [IntWalk.i64_in]
                  all_goals first
                    | rfl
                    | exact ⟨rfl, rfl⟩
                    | exact ⟨⟨rfl, rfl⟩, rfl⟩
                refine fac_nil fun xq wrq herq hfrq hcrq holdq hapq => ?_
                obtain ⟨f0, f1, f2, f3, f4, f5, f6, f7, f8, f9, f10, f11, -⟩ := hfrq
                replace f0 : xq 0 = _ := f0
                try dsimp only at f0
                replace f1 : xq 1 = _ := f1
                try dsimp only at f1
                replace f2 : xq 2 = _ := f2
                try dsimp only at f2
                replace f3 : xq 3 = _ := f3
                try dsimp only at f3
                replace f4 : xq 4 = _ := f4
                try dsimp only at f4
                replace f5 : xq 5 = _ := f5
                try dsimp only at f5
                replace f6 : xq 6 = _ := f6
                try dsimp only at f6
                replace f7 : xq 7 = _ := f7
                try dsimp only at f7
                replace f8 : xq 8 = _ := f8
                try dsimp only at f8
                replace f9 : xq 9 = _ := f9
                try dsimp only at f9
                replace f10 : xq 10 = _ := f10
                try dsimp only at f10
                obtain ⟨g11, f11, l11, b11⟩ := f11
                replace f11 : xq 11 = _ := f11
                obtain ⟨p11, q11⟩ := b11.walk
                change wpList _ _ _ _ (Act.put (Act.put (Act.put (Act.put (Act.put (Act.put (Act.put (Act.put (Act.put (Act.put (Act.put (Act.put _ (some 45) (xq 0)) (some 46) (xq 1)) (some 47) (xq 2)) (some 48) (xq 3)) (some 49) (xq 4)) (some 50) (xq 5)) (some 51) (xq 6)) (some 52) (xq 7)) (some 53) (xq 8)) (some 54) (xq 9)) (some 55) (xq 10)) (some 56) (xq 11)) _
                simp only [putsL, Nat.reduceAdd, List.drop_succ_cons, List.drop_zero, List.drop_nil, Act.put, List.setIfInBounds_toArray, List.set_cons_succ, List.set_cons_zero]
                try simp only [f0, f1, f2, f3, f4, f5, f6, f7, f8, f9, f10, f11]
                clear f0 f1 f2 f3 f4 f5 f6 f7 f8 f9 f10
                clear holdq hapq
                have hkq := (Ext.refl wr).drew.trans herq
                have hOq := hO.out.more hkq
                have hoq := own_ext hkq hox.out
                have hlowq := hOq.blk.lt
                go_wp2_with (at_builtin; go_loud (refine wp_appL _ (.tmp 50) (.tmp 56) 32 9 1 16 (.string ⟨#[]⟩) rfl rfl Tryd.underlying32 strInfo rfl (by decide) (by decide) (og + 1) pp r.length cc _ rfl hoq _ (strC g.name) rfl rfl b11 (by simp [strC, Value.oneCell']) (by omega) (by omega) ?_; intro b1 c1 w6 hown6 hgrow6 hloc6; have hB6 : Blk w6 og 32 vs.toArray := (hgrow6.block og hOq.blk.lt fun e => own_no hoq hOq.blk (by decide) e.symm).trans hOq.blk; have hz6 : w6.cell? ⟨og, x, none⟩ = some (.slice pp r.length cc) := (hB6.cell x).trans (by simpa using hvx.out); obtain ⟨-, hf6⟩ := hB6.walk))
                go_roundw
                case rel => exact ⟨i + 1, _, by go_num, by omega, by rw [hstep.out]; exact hOq.app hrx.out hvx.out hown6 hgrow6 hloc6⟩
                case measure => simp [intOf]; omega
              · obtain rfl : i = bs.length := by omega
                rw [List.take_of_length_le (show (nameL L).length ≤ bs.length by omega), List.take_of_length_le (Nat.le_refl _)] at hO
                have hOw := hO.base ((hE2.trans hE7))
                replace hOw := Lib.hid hOw
                clear hO
                go_wp2
                go_light
                exact bodyPost_ret (v := .tuple #[.slice (some ⟨og, 0, none⟩) m m, .bool true, .int .i64 0]) (by simp [results, Tryd.results16, go_sem]) rfl (.inr (.inr (.inr ⟨hz.out, ho.out, ha.out, m, bs, og, vs, hfew.out, rfl, hOw.out⟩)))
      · rw [ha] at hhas
        go_wp2_with (first
          | (go_at_call 43; (with_reducible refine Calls.mono (outside_any _ _ _ _) ?_); rintro e w4 ⟨rfl, rfl⟩)
          | (go_at_call 44; (with_reducible refine Calls.mono hhas ?_); rintro e w2 ⟨rfl, hb2⟩))
        go_light
        exact bodyPost_ret (v := .tuple #[.slice none 0 0, .bool false, .int .i64 0]) (by simp [results, Tryd.results16, go_sem]) rfl (.inr (.inr (.inl ⟨hz.out, ho, ha, rfl, hE1.trans hb2⟩)))
    · replace hz := Lib.hid hz
      go_wp2_with (go_at_call 43; (with_reducible refine Calls.mono (outside_any _ _ _ _) ?_); rintro e w4 ⟨rfl, rfl⟩)
      go_light
      exact bodyPost_ret (v := .tuple #[.slice none 0 0, .bool false, .int .i64 1]) (by simp [results, Tryd.results16, go_sem]) rfl (.inr (.inl ⟨hz.out, ho, rfl, hE1⟩))
  · have hne : (groupsF L == 0) = false := by simpa using hz
    have hzz := Lib.hid hz
    go_wp2_with (go_at_call 20; (with_reducible refine Calls.mono hck ?_); rintro e w1 ⟨rfl, hb1⟩)
    go_light
    exact bodyPost_ret (v := .tuple #[.slice none 0 0, .bool false, .int .i64 (groupsF L)]) (by simp [results, Tryd.results16, go_sem]) rfl (.inl ⟨hz, rfl, hE0.trans hb1⟩)
end Go.Proofs.YtlmbpgjdepmlcaaDoor
