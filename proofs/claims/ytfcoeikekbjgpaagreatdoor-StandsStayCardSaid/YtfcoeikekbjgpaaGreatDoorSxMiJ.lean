/- Gaps closed: the program's walk. Conditions: people, a stage and stands are right; those who are gone stand there, each once. -/
import Derived.Test.YtfcoeikekbjgpaaGreatDoorSxJ36
import Derived.Test.YtfcoeikekbjgpaaGreatDoorSxJ21
import Derived.Test.YtfcoeikekbjgpaaGreatDoorSxStZ
import Derived.Test.YtfcoeikekbjgpaaGreatDoorSxStL
set_option linter.unusedSimpArgs false
set_option linter.unusedVariables false
namespace Go.Proofs.YtfcoeikekbjgpaaGreatDoor
open Go Go.RowKit

theorem OwnB.grown {w w' : World} {b : Nat} {T : List ByteArray} {row : Option Nat} (h : OwnB w b T) (hg : w.grownBy w' row) (hne : some b ≠ row) : OwnB w' b T := by
  obtain ⟨D, hD, h2⟩ := h
  exact ⟨D, hD.kept hg hne, h2⟩
theorem set_grown (w : World) (p : Addr) (u : Value) : w.grownBy (w.setCell p u) (some p.block) :=
  ⟨rfl, rfl, rfl, by simp [World.setCell], fun k _ h => Below.heap_setCell w p u k fun e => h (e ▸ rfl)⟩
theorem take_not {G : List ByteArray} (hn : G.Nodup) {k : Nat} {nm : ByteArray} (h : G[k]? = some nm) : nm ∉ G.take k := by
  intro hm
  obtain ⟨hk, e⟩ := List.getElem?_eq_some_iff.1 h
  obtain ⟨i, hi, e2⟩ := List.getElem_of_mem hm
  rw [List.length_take] at hi
  rw [List.getElem_take] at e2
  rw [List.nodup_iff_pairwise_ne, List.pairwise_iff_getElem] at hn
  exact hn i k (by omega) hk (by omega) (e2.trans e.symm)
theorem cntK_le (S : List StandV) (g : StandV → Bool) (k : Nat) (r : Int) : cntK S g k r ≤ k := by
  unfold cntK
  exact Nat.le_trans (List.length_filter_le _ _) (by rw [List.length_take]; omega)

set_option maxRecDepth 100000 in
set_option maxHeartbeats 6400000 in
theorem closed_own (pp : Option Addr) (pc : Nat) (P : List PersonV) (wp : Option Addr) (wcap : Nat) (wide : List Int) (hp : Option Addr) (hc : Nat) (high : List Int) (lp : Option Addr) (lc : Nat) (S : List StandV) (w : World) (hM : PsM w pp pc P wp wcap wide hp hc high lp lc S) (hz : standsF P wide high S = 0)
    (gp : Option Addr) (gc : Nat) (G : List ByteArray) (hG : Slc 1 strC w gp G.length gc G) (hGn : G.Nodup) (hGs : ∀ nm ∈ G, nm ∈ namesS S) (hGl : G.length ≤ 200) :
    Calls Tryz.prog 24 #[.slice pp P.length pc, .agg #[.slice wp wide.length wcap, .slice hp high.length hc], .slice lp S.length lc, .slice gp G.length gc] w fun e w' => ∃ v : Value, e = .returned (.tuple #[v, .int .i64 0]) ∧ w'.ownsRow w.heap.size 48 3 v (closeL S (inG G)).length ((closeL S (inG G)).flatMap staC) ∧ (closeL S (inG G)).length ≤ 1000 ∧ Ext w w' := by
  have hnS := hM.nS
  have hE0 : Ext w (w.alloc (.cells #[.slice wp wide.length wcap, .slice hp high.length hc] 29)) := (Ext.refl _).alloc _
  have hB0 : Blk (w.alloc (.cells #[.slice wp wide.length wcap, .slice hp high.length hc] 29)) w.heap.size 29 #[.slice wp wide.length wcap, .slice hp high.length hc] := Blk.new' rfl
  have hco := choirOf_ok pp pc P wp wcap wide hp hc high lp lc S _ (hM.per.ext hE0) (hM.wid.ext hE0) (hM.hig.ext hE0) (hM.sta.ext hE0) fun u hu => hM.check hz u (hE0.trans hu)
  obtain ⟨-, -, hAt, hSr, -⟩ := standsF_right hz
  have hon := (standsF_ok hz).1.on
  have hw10 := (standsF_ok hz).1.wo.1
  have hlen := (standsF_ok hz).1.len
  have hSs : ∀ nm ∈ namesS S, nm.size ≤ 1000 := fun nm h => by
    obtain ⟨x, hx, rfl⟩ := List.mem_map.1 h
    exact (hM.sS x hx).1
  have hSta := hM.sta
  have hnI : ¬ (200 : Int) < (G.length : Int) := by omega
  have hmm := @run_makeMap Tryz.prog
  replace hco := Lib.hid hco
  replace hSr := Lib.hid hSr
  clear hM hz
  go_enter Tryz.func24, Tryz.ntmps24
  go_upto_region 7 with (go_at_call 60; (with_reducible refine Calls.mono hco.out ?_); rintro e w1 ⟨g, rfl, hg, hb1, hCh⟩)
  have hO0 := OwnB.made w1
  have hE1 : Ext w w1 := hE0.trans hb1
  have hB1 := hB0.ext hb1
  have hE2 : Ext w1 (w1.alloc (.map #[] 0)) := (Ext.refl _).alloc _
  have hgw : w.heap.size ≤ w1.heap.size := hE1.size
  have hz2 : (w1.alloc (.map #[] 0)).heap.size = w1.heap.size + 1 := by simp
  clear hmm hco hB0 hE0 hb1 hnI
  generalize (w1.alloc (.map #[] 0)) = W1 at *
  generalize hgm : w1.heap.size = gm at *
  replace hgm := Lib.hid hgm
  go_wp2
  go_loopw [35] (fun v35 wr => ∃ k : Nat, v35 = .int .i64 k ∧ k ≤ G.length ∧ OwnB wr gm (G.take k) ∧ Ext w1 wr) (fun v35 _ => G.length - (intOf v35).toNat)
  case atStart => exact ⟨0, rfl, Nat.zero_le _, by simpa using hO0, hE2⟩
  case round =>
    clear hO0 hE2 hz2
    obtain ⟨k, rfl, hk, hO, hE⟩ := hrel
    have hEw := hE1.trans hE
    by_cases hlt : k < G.length
    · obtain ⟨nm, hnm⟩ := getD_some (rfl : G.length = G.length) hlt
      have hm := List.mem_of_getElem? hnm
      have hsz := hSs nm (hGs nm hm)
      rcases (slcC hG).2 with ⟨-, e⟩ | ⟨gb, go, rfl, hgb, hgE⟩
      · rw [e] at hnm; cases hnm
      have c0 := (hgE.ext hEw hgb).str hnm
      have hbl := Nat.lt_of_lt_of_le hgb hEw.size
      have hkI : (k : Int) < G.length := by omega
      have hat := chAt_any (hCh.more hE) hnS nm (hGs nm hm)
      have htk := take_snocL hnm
      have hnot := take_not hGn hnm
      have htl : (G.take k).length ≤ 1000 := by rw [List.length_take]; omega
      have hpk : ∀ w2, Ext wr w2 → ∃ w5, (Instr.lookup 109 (.map (some gm)) (.string nm) false).run Tryz.prog w2 = .ok (.bool false) w2 ∧ (Instr.mapUpdate 109 (.map (some gm)) (.string nm) (.bool true)).run Tryz.prog w2 = .ok () w5 ∧ OwnB w5 gm (G.take k ++ [nm]) ∧ w2.grownBy w5 (some gm) := fun w2 hb2 => by
        obtain ⟨cc, hrun, hcc⟩ := (hO.ext hb2).look hsz
        obtain ⟨w5, hput, hO5, hg5⟩ := (hO.ext hb2).put hsz htl
        cases cc
        · exact ⟨w5, hrun, hput, hO5, hg5⟩
        · exact absurd (hcc.1 rfl) hnot
      replace hpk := Lib.hid hpk
      replace hat := Lib.hid hat
      replace htk := Lib.hid htk
      clear hgE hnm hnot hm hO
      go_wp2_with (first
        | (go_at_call 61; go_loud (with_reducible refine Calls.mono hat.out ?_); go_loud (rintro e w2 ⟨kk, rfl, hb2⟩); go_loud (have hk0 : ¬ (kk : Int) < 0 := by omega); go_loud (obtain ⟨w5, hrun, hput, hO5, hg5⟩ := hpk.out w2 hb2))
        | (refine wpList_lookB rfl _ _ 109 false rfl (.map (some gm)) (.string nm) _ rfl rfl hrun ?_)
        | (refine wpList_putB rfl _ _ _ 109 rfl (.map (some gm)) (.string nm) (.bool true) rfl rfl rfl w5 hput ?_))
      go_roundw
      case rel => exact ⟨k + 1, by go_num, by omega, by rw [htk.out]; exact hO5, (hE.trans hb2).grown hg5 (fun j e => by cases e; rw [hgm.out]; exact Nat.le_refl _)⟩
      case measure => simp [intOf]; omega
    · obtain rfl : k = G.length := by omega
      rw [List.take_length] at hO
      have hmk := make_int wide.length (by omega)
      obtain ⟨y1, -⟩ := (hB1.ext hE).walk
      have yl := (hB1.ext hE).lt
      go_upto_region 18 with fail
      clear hmk y1 yl
      have hgml := hO.lt
      have hEa : Ext wr (wr.alloc (.cells (rowI (List.replicate wide.length 0)) 3)) := (Ext.refl _).alloc _
      have hO1 := hO.ext hEa
      have hEb := hEw.trans hEa
      have hZ : Blk (wr.alloc (.cells (rowI (List.replicate wide.length 0)) 3)) wr.heap.size 3 (rowI (gapL S (inG G) wide.length 0)) := by rw [gap_zero]; exact Blk.new' rfl
      have hsz3 : (wr.alloc (.cells (rowI (List.replicate wide.length 0)) 3)).heap.size = wr.heap.size + 1 := by simp
      have hwz := hEw.size
      clear hO hE hEw hEa hB1 hCh hE1
      generalize (wr.alloc (.cells (rowI (List.replicate wide.length 0)) 3)) = W3 at *
      generalize wr.heap.size = gz at *
      have hne : gm ≠ gz := by omega
      go_wp2
      go_loopw [15, 55] (fun v15 v55 wr => ∃ (k n : Nat) (v : Value), v15 = v ∧ v55 = .int .i64 k ∧ k ≤ S.length ∧ wr.ownsRow (gz + 1) 48 3 v n ((closeT S (inG G) k).flatMap staC) ∧ n = (closeT S (inG G) k).length ∧ Blk wr gz 3 (rowI (gapL S (inG G) wide.length k)) ∧ OwnB wr gm G ∧ Ext w wr) (fun _ v55 _ => S.length - (intOf v55).toNat)
      case atStart => exact ⟨0, 0, _, rfl, rfl, Nat.zero_le _, World.ownsRow_nil _ _ _ _, rfl, hZ, hO1, hEb⟩
      case round =>
        clear hZ hO1 hEb
        obtain ⟨k, n, v, rfl, rfl, hk, hown, rfl, hB, hO, hE⟩ := hrel
        by_cases hlt : k < S.length
        · obtain ⟨x, hx⟩ := getD_some (rfl : S.length = S.length) hlt
          have hxm := List.mem_of_getElem? hx
          obtain ⟨a1, a2, a3, a4⟩ := hon x hxm
          obtain ⟨r, hr⟩ : ∃ r : Nat, x.row = r := ⟨x.row.toNat, by omega⟩
          have hrn : r < wide.length := by omega
          have hxs : x.name.size ≤ 1000 := hSs _ (List.mem_map.2 ⟨x, hxm, rfl⟩)
          have hkI : (k : Int) < S.length := by omega
          have hrI : (r : Int) < wide.length := by omega
          rcases (slcC hSta).2 with ⟨-, e⟩ | ⟨sb, so, rfl, hsb, hEl⟩
          · rw [e] at hx; cases hx
          obtain ⟨c0, c1, c2⟩ := (hEl.ext hE hsb).sta hx
          rw [hr] at c1
          have hbw := Nat.lt_of_lt_of_le hsb hE.size
          have hgl := hB.lt
          have hwl := hE.size
          have hY := Blk.new' (w := wr) (t := 48) (cs := #[.string x.name, .int .i64 r, .int .i64 x.place]) rfl
          have hEa : Ext wr (wr.alloc (.cells #[.string x.name, .int .i64 r, .int .i64 x.place] 48)) := (Ext.refl _).alloc _
          have hE2 := hE.trans hEa
          have hB2 := hB.ext hEa
          have hO2 := hO.ext hEa
          have hown2 := own_ext hEa hown
          obtain ⟨cc, hrun, hcc⟩ := hO2.look hxs
          have hol := hown.lt
          have hcl := closeT_len S (inG G) k
          cases cc
          · have hng : inG G x = false := by
              cases hh : inG G x
              · rfl
              · exact absurd (hcc.2 (inG_iff.1 hh)) (by decide)
            have hgi := gap_is hSr.out (inG G) hx hr hrn
            have d1 := rowI_cell hB2 hgi
            have hct := closeT_out hx hng
            have hgo := gap_out (n := wide.length) hx hng
            have hcs : closeS S (inG G) x = ⟨x.name, (r : Int), x.place - cntG S (inG G) x⟩ := by unfold closeS; rw [hr]
            have hcb : (cntG S (inG G) x : Int) ≤ 1000 := by
              have h1 := cnt_is hSr.out (inG G) hx
              have h2 := cntK_le S (inG G) k x.row
              omega
            have hcb0 : (0 : Int) ≤ (cntG S (inG G) x : Int) := by omega
            generalize (cntG S (inG G) x : Int) = cv at *
            have hw1 : IntKind.i64.wrap (x.place - cv) = x.place - cv := IntWalk.i64_in _ (by omega)
            replace hct := Lib.hid hct
            replace hgo := Lib.hid hgo
            replace hcs := Lib.hid hcs
            replace hr := Lib.hid hr
            replace hown2 := Lib.hid hown2
            clear hgi hcc hx hEl hown hB hO hE hng
            go_upto_region 23 with (refine wpList_lookB rfl _ _ 109 false rfl (.map (some gm)) (.string x.name) _ rfl rfl hrun ?_)
            clear c0 c1 c2 hrun hEa
            have hgy : wr.heap.size < (wr.alloc (.cells #[.string x.name, .int .i64 r, .int .i64 x.place] 48)).heap.size := by simp
            generalize wr.alloc (.cells #[.string x.name, .int .i64 r, .int .i64 x.place] 48) = W at *
            generalize wr.heap.size = gy at *
            have hgzW : gz < W.heap.size := by omega
            refine wp_region_facts [] [([], false, false), ([0], false, false), ([], false, false), ([], false, false), ([3], false, false), ([2, 3, 4], false, false), ([2, 3, 4, 5], false, false), ([0, 1, 2, 3, 4, 5, 6], false, false), ([], false, false)] (Ext) Ext (fun _ => True) (by kernel_rfl) (by kernel_rfl) Ext.refl (fun _ _ _ => Ext.trans) (fun _ _ h => h) (fun _ _ h => h.size) (fun _ _ h _ => h) trivial ?_
            dsimp only [List.length_cons, List.length_nil, List.drop_succ_cons, List.drop_zero, List.drop_nil]
            refine fac_quiet 0 rfl rfl rfl (fun _ _ h _ => h) rfl rfl ?_
            apply Exists.intro
            refine ⟨fun sv w' hw' hfa => ?_, ?_⟩
            · refine ⟨rfl, ?_⟩
              simp only [putsL]
              change quietTo _ _ _ _ (Sem.run _ (execOp (Act.eval _) _) _)
              try simp only [Act.put, List.setIfInBounds_toArray, List.set_cons_succ, List.set_cons_zero]
              simp [go_sem, quietTo, Ext.refl]
              all_goals first
                | rfl
            refine fac_quiet 1 rfl rfl rfl (fun _ _ h _ => h) rfl rfl ?_
            apply Exists.intro
            refine ⟨fun sv w' hw' hfa => ?_, ?_⟩
            · obtain ⟨f0, -⟩ := hfa
              replace f0 : sv 0 = _ := f0
              try dsimp only at f0
              have hk9 := (Ext.refl W).drew.trans hw'; obtain ⟨y2, -⟩ := (hY.ext hk9).walk; obtain ⟨hc9, hff, hz9⟩ := hk9.walk; have y3 := (hc9 _ _ hgzW).trans d1
              refine ⟨rfl, ?_⟩
              simp only [putsL]
              change quietTo _ _ _ _ (Sem.run _ (execOp (Act.eval (Act.put _ (some 70) (sv 0))) _) _)
              try simp only [Act.put, List.setIfInBounds_toArray, List.set_cons_succ, List.set_cons_zero]
              simp [go_sem, quietTo, Ext.refl, ↓IntWalk.iteOmega, f0, y2]
              all_goals try simp (disch := omega) only [IntWalk.i64_in]
              all_goals first
                | rfl
            refine fac_quiet 2 rfl rfl rfl (fun _ _ h _ => h) rfl rfl ?_
            apply Exists.intro
            refine ⟨fun sv w' hw' hfa => ?_, ?_⟩
            · refine ⟨rfl, ?_⟩
              simp only [putsL]
              change quietTo _ _ _ _ (Sem.run _ (execOp (Act.eval _) _) _)
              try simp only [Act.put, List.setIfInBounds_toArray, List.set_cons_succ, List.set_cons_zero]
              simp [go_sem, quietTo, Ext.refl]
              all_goals first
                | rfl
            refine fac_quiet 3 rfl rfl rfl (fun _ _ h _ => h) rfl rfl ?_
            apply Exists.intro
            refine ⟨fun sv w' hw' hfa => ?_, ?_⟩
            · refine ⟨rfl, ?_⟩
              simp only [putsL]
              change quietTo _ _ _ _ (Sem.run _ (execOp (Act.eval _) _) _)
              try simp only [Act.put, List.setIfInBounds_toArray, List.set_cons_succ, List.set_cons_zero]
              simp [go_sem, quietTo, Ext.refl]
              all_goals first
                | rfl
            refine fac_quiet 4 rfl rfl rfl (fun _ _ h _ => h) rfl rfl ?_
            apply Exists.intro
            refine ⟨fun sv w' hw' hfa => ?_, ?_⟩
            · obtain ⟨f3, -⟩ := hfa
              replace f3 : sv 3 = _ := f3
              try dsimp only at f3
              have hk9 := (Ext.refl W).drew.trans hw'; obtain ⟨y2, -⟩ := (hY.ext hk9).walk; obtain ⟨hc9, hff, hz9⟩ := hk9.walk; have y3 := (hc9 _ _ hgzW).trans d1
              refine ⟨rfl, ?_⟩
              simp only [putsL]
              change quietTo _ _ _ _ (Sem.run _ (execOp (Act.eval (Act.put _ (some 73) (sv 3))) _) _)
              try simp only [Act.put, List.setIfInBounds_toArray, List.set_cons_succ, List.set_cons_zero]
              simp [go_sem, quietTo, Ext.refl, ↓IntWalk.iteOmega, f3, y2]
              all_goals try simp (disch := omega) only [IntWalk.i64_in]
              all_goals first
                | rfl
            refine fac_quiet 5 rfl rfl rfl (fun _ _ h _ => h) rfl rfl ?_
            apply Exists.intro
            refine ⟨fun sv w' hw' hfa => ?_, ?_⟩
            · obtain ⟨f2, _, f4, -⟩ := hfa
              replace f2 : sv 2 = _ := f2
              try dsimp only at f2
              replace f4 : sv 4 = _ := f4
              try dsimp only at f4
              have hk9 := (Ext.refl W).drew.trans hw'; obtain ⟨y2, -⟩ := (hY.ext hk9).walk; obtain ⟨hc9, hff, hz9⟩ := hk9.walk; have y3 := (hc9 _ _ hgzW).trans d1
              refine ⟨rfl, ?_⟩
              simp only [putsL]
              change quietTo _ _ _ _ (Sem.run _ (execOp (Act.eval (Act.put (Act.put (Act.put _ (some 74) (sv 4)) (some 73) (sv 3)) (some 72) (sv 2))) _) _)
              try simp only [Act.put, List.setIfInBounds_toArray, List.set_cons_succ, List.set_cons_zero]
              simp [go_sem, quietTo, Ext.refl, ↓IntWalk.iteOmega, f2, f4, hrI]
              all_goals try simp (disch := omega) only [IntWalk.i64_in]
              all_goals first
                | rfl
            refine fac_quiet 6 rfl rfl rfl (fun _ _ h _ => h) rfl rfl ?_
            apply Exists.intro
            refine ⟨fun sv w' hw' hfa => ?_, ?_⟩
            · obtain ⟨_, _, _, f5, -⟩ := hfa
              replace f5 : sv 5 = _ := f5
              try dsimp only at f5
              have hk9 := (Ext.refl W).drew.trans hw'; obtain ⟨y2, -⟩ := (hY.ext hk9).walk; obtain ⟨hc9, hff, hz9⟩ := hk9.walk; have y3 := (hc9 _ _ hgzW).trans d1
              refine ⟨rfl, ?_⟩
              simp only [putsL]
              change quietTo _ _ _ _ (Sem.run _ (execOp (Act.eval (Act.put (Act.put (Act.put (Act.put _ (some 75) (sv 5)) (some 74) (sv 4)) (some 73) (sv 3)) (some 72) (sv 2))) _) _)
              try simp only [Act.put, List.setIfInBounds_toArray, List.set_cons_succ, List.set_cons_zero]
              simp [go_sem, quietTo, Ext.refl, ↓IntWalk.iteOmega, f5, y3]
              all_goals try simp (disch := omega) only [IntWalk.i64_in]
              all_goals first
                | rfl
            refine fac_quiet 7 rfl rfl rfl (fun _ _ h _ => h) rfl rfl ?_
            apply Exists.intro
            refine ⟨fun sv w' hw' hfa => ?_, ?_⟩
            · obtain ⟨_, f1, _, _, _, _, f6, -⟩ := hfa
              replace f1 : sv 1 = _ := f1
              try dsimp only at f1
              replace f6 : sv 6 = _ := f6
              try dsimp only at f6
              have hk9 := (Ext.refl W).drew.trans hw'; obtain ⟨y2, -⟩ := (hY.ext hk9).walk; obtain ⟨hc9, hff, hz9⟩ := hk9.walk; have y3 := (hc9 _ _ hgzW).trans d1
              refine ⟨rfl, ?_⟩
              simp only [putsL]
              change quietTo _ _ _ _ (Sem.run _ (execOp (Act.eval (Act.put (Act.put (Act.put (Act.put (Act.put (Act.put (Act.put _ (some 76) (sv 6)) (some 75) (sv 5)) (some 74) (sv 4)) (some 73) (sv 3)) (some 72) (sv 2)) (some 71) (sv 1)) (some 70) (sv 0))) _) _)
              try simp only [Act.put, List.setIfInBounds_toArray, List.set_cons_succ, List.set_cons_zero]
              simp [go_sem, quietTo, Ext.refl, ↓IntWalk.iteOmega, f1, f6, hw1]
              all_goals try simp (disch := omega) only [IntWalk.i64_in]
              all_goals first
                | rfl
            refine fac_quiet 8 rfl rfl rfl (fun _ _ h _ => h) rfl rfl ?_
            apply Exists.intro
            refine ⟨fun sv w' hw' hfa => ?_, ?_⟩
            · refine ⟨rfl, ?_⟩
              simp only [putsL]
              change quietTo _ _ _ _ (Sem.run _ (execOp (Act.eval _) _) _)
              try simp only [Act.put, List.setIfInBounds_toArray, List.set_cons_succ, List.set_cons_zero]
              simp [go_sem, quietTo, Ext.refl]
              all_goals first
                | rfl
            refine fac_nil fun xq wrq herq hfrq hcrq holdq hapq => ?_
            obtain ⟨f0, f1, f2, f3, f4, f5, f6, f7, f8, -⟩ := hfrq
            replace f0 : xq 0 = _ := f0
            try dsimp only at f0
            replace f1 : xq 1 = _ := f1
            try dsimp only at f1
            replace f2 : xq 2 = _ := f2
            try dsimp only at f2
            replace f3 : xq 3 = _ := f3
            try dsimp only at f3
            replace f4 : xq 4 = _ := f4
            try dsimp only at f4
            replace f5 : xq 5 = _ := f5
            try dsimp only at f5
            replace f6 : xq 6 = _ := f6
            try dsimp only at f6
            replace f7 : xq 7 = _ := f7
            try dsimp only at f7
            replace f8 : xq 8 = _ := f8
            try dsimp only at f8
            change wpList _ _ _ _ (Act.put (Act.put (Act.put (Act.put (Act.put (Act.put (Act.put (Act.put (Act.put _ (some 70) (xq 0)) (some 71) (xq 1)) (some 72) (xq 2)) (some 73) (xq 3)) (some 74) (xq 4)) (some 75) (xq 5)) (some 76) (xq 6)) (some 77) (xq 7)) (some 78) (xq 8)) _
            simp only [putsL, Nat.reduceAdd, List.drop_succ_cons, List.drop_zero, List.drop_nil, Act.put, List.setIfInBounds_toArray, List.set_cons_succ, List.set_cons_zero]
            try simp only [f0, f1, f2, f3, f4, f5, f6, f7, f8]
            clear f0 f1 f2 f3 f4 f5 f6 f7 f8
            clear holdq hapq
            have hkq := (Ext.refl W).drew.trans herq
            have hYq := hY.ext hkq
            have hown5 := own_same (w' := wrq.setCell ⟨gy, 2, none⟩ (.int .i64 (x.place - cv))) (own_ext hkq hown2.out) (fun j e => Below.heap_setCell _ _ _ j (by have := (hol j e).2; simp only; omega))
            have hB5 := (hB2.ext hkq).far (p := ⟨gy, 2, none⟩) (by simp only; omega) (.int .i64 (x.place - cv))
            have hO5 := (hO2.ext hkq).grown (set_grown wrq ⟨gy, 2, none⟩ (.int .i64 (x.place - cv))) (by simp; omega)
            have hE5 := (hE2.trans hkq).setCell (p := ⟨gy, 2, none⟩) (by simp only; omega) (.int .i64 (x.place - cv))
            have hY5 := (hYq.set_ 2 (.int .i64 (x.place - cv))).cast (cs' := #[.string x.name, .int .i64 r, .int .i64 (x.place - cv)]) (by simp)
            obtain ⟨y5, y5f⟩ := hYq.walk
            have yl5 := hYq.lt
            clear hw1 herq hkq hown2 hB2 hO2 hE2 hY hYq d1 hgzW
            replace hown5 := Lib.hid hown5
            replace hB5 := Lib.hid hB5
            replace hO5 := Lib.hid hO5
            replace hE5 := Lib.hid hE5
            go_upto_region 24 with fail
            clear y5 y5f yl5
            obtain ⟨y6, -⟩ := hY5.walk
            have yl6 := hY5.lt
            generalize wrq.setCell ⟨gy, 2, none⟩ (.int .i64 (x.place - cv)) = W5 at *
            have ho6 := hown5.out.alloc (.cells #[.string x.name, .int .i64 r, .int .i64 (x.place - cv)] 48)
            have hlc : (closeT S (inG G) k ++ [closeS S (inG G) x]).length = (closeT S (inG G) k).length + 1 := by rw [List.length_append]; rfl
            go_wp2_with (at_builtin; go_loud (refine wp_app1 _ (.tmp 79) (.tmp 81) 40 48 3 32 _ rfl rfl Tryz.underlying40 staInfo rfl (by decide) (by decide) (gz + 1) _ _ _ rfl ho6 W5.heap.size (staC ⟨x.name, (r : Int), x.place - cv⟩) rfl rfl (Blk.new' rfl) (sta_one _) (by omega) (by simp; omega) ?_; intro v' w6 hown6 hgrow6 _))
            go_roundw
            case rel => exact ⟨k + 1, _, v', rfl, by go_num, by omega, by rw [hct.out, flat_snoc, hcs.out]; exact hown6, by rw [hct.out, hlc], by rw [hgo.out]; exact (hB5.out.alloc _).appT ho6 (by decide) hgrow6, (hO5.out.ext ((Ext.refl _).alloc _)).grown hgrow6 (fun e => by have := (ho6.lt gm e.symm).1; omega), (hE5.out.alloc _).grown hgrow6 fun j e => by have := (ho6.lt j e).1; omega⟩
            case measure => simp [intOf]; omega
          · have hyg : inG G x = true := inG_iff.2 (hcc.1 rfl)
            have hgi : (gapL S (inG G) wide.length k)[r]? = some (cntK S (inG G) k r : Int) := gap_get hrn
            have d1 := rowI_cell hB2 hgi
            have hct := closeT_in hx hyg
            have hgo := gap_in (n := wide.length) hx hyg hr hrn
            have hcb : (cntK S (inG G) k r : Int) ≤ 1000 := by have := cntK_le S (inG G) k r; omega
            have hcb0 : (0 : Int) ≤ (cntK S (inG G) k r : Int) := by omega
            generalize (cntK S (inG G) k r : Int) = cv at *
            have hw1 : IntKind.i64.wrap (cv + 1) = cv + 1 := IntWalk.i64_in _ (by omega)
            have hB3 := (rowI_set hB r (cv + 1)).alloc (.cells #[.string x.name, .int .i64 r, .int .i64 x.place] 48)
            rw [← hgo] at hB3
            have hown3 := (own_same (w' := wr.setCell ⟨gz, r, none⟩ (.int .i64 (cv + 1))) hown (fun j e => Below.heap_setCell _ _ _ j (by have := (hol j e).1; simp only; omega))).alloc (.cells #[.string x.name, .int .i64 r, .int .i64 x.place] 48)
            rw [← hct] at hown3
            have hO3 := (hO.grown (set_grown wr ⟨gz, r, none⟩ (.int .i64 (cv + 1))) (by simp; exact hne)).ext ((Ext.refl _).alloc (.cells #[.string x.name, .int .i64 r, .int .i64 x.place] 48))
            have hE3 := (hE.setCell (p := ⟨gz, r, none⟩) hwz (.int .i64 (cv + 1))).alloc (.cells #[.string x.name, .int .i64 r, .int .i64 x.place] 48)
            have hf3 : ∀ o, (wr.alloc (.cells #[.string x.name, .int .i64 r, .int .i64 x.place] 48)).frozen? ⟨gz, o, none⟩ = false := hB2.frozen
            have hgl2 := hB2.lt
            replace hown3 := Lib.hid hown3
            replace hB3 := Lib.hid hB3
            replace hO3 := Lib.hid hO3
            replace hE3 := Lib.hid hE3
            replace hct := Lib.hid hct
            replace hr := Lib.hid hr
            clear hgi hcc hx hEl hown hown2 hB hO hE hyg hgo hB2 hO2 hE2 hEa
            go_wp2_with (refine wpList_lookB rfl _ _ 109 false rfl (.map (some gm)) (.string x.name) _ rfl rfl hrun ?_)
            go_roundw
            case rel => exact ⟨k + 1, _, _, rfl, by go_num, by omega, hown3.out, by rw [hct.out], hB3.out, hO3.out, hE3.out⟩
            case measure => simp [intOf]; omega
        · obtain rfl : k = S.length := by omega
          have hcl := closeT_len S (inG G) S.length
          rw [closeT_all] at hown hcl
          obtain ⟨q, c, rfl, -⟩ := slc_of_own staC_len hown (by decide) (by omega)
          have hres : wr.ownsRow w.heap.size 48 3 (.slice q (closeL S (inG G)).length c) (closeL S (inG G)).length ((closeL S (inG G)).flatMap staC) := ⟨hown.1, hown.2.imp id fun ⟨g, cap, cur, hv, hg, r⟩ => ⟨g, cap, cur, hv, by omega, r⟩⟩
          have hcl2 : (closeL S (inG G)).length ≤ 1000 := by omega
          replace hres := Lib.hid hres
          clear hown
          go_wp2
          go_ret2
          exact ⟨_, rfl, hres.out, hcl2, hE⟩

end Go.Proofs.YtfcoeikekbjgpaaGreatDoor
