/- Gaps closed, when something is wrong: the program's walk. Conditions: people, a stage, stands and names lie in memory. -/
import Derived.Test.YtakfanmoepiagaaGreatDoorSmJ38
import Derived.Test.YtakfanmoepiagaaGreatDoorSmMiJ
set_option linter.unusedSimpArgs false
set_option linter.unusedVariables false
namespace Go.Proofs.YtakfanmoepiagaaGreatDoor
open Go Go.RowKit

theorem missF_zero {S : List StandV} {G : List ByteArray} (h : missF S G = 0) : (∀ nm ∈ G, nm ∈ namesS S) ∧ G.Nodup := by
  have hz := scan_all h
  have hat : ∀ (i : Nat) (x : ByteArray), G[i]? = some x → x ∈ namesS S ∧ x ∉ G.take i := by
    intro i x hx
    have h4 := hz i (List.getElem?_eq_some_iff.1 hx).1
    unfold chkN at h4
    rw [atL_of hx] at h4
    cases k0 : inN (namesS S) x
    · rw [k0] at h4; simp at h4
    cases k1 : inN (G.take i) x
    · exact ⟨inN_iff.1 k0, inN_false.1 k1⟩
    · rw [k0, k1] at h4; simp at h4
  refine ⟨fun nm hm => ?_, ?_⟩
  · obtain ⟨i, hi, e⟩ := List.getElem_of_mem hm
    exact (hat i nm (by rw [List.getElem?_eq_getElem hi, e])).1
  · rw [List.nodup_iff_pairwise_ne, List.pairwise_iff_getElem]
    intro i j hi hj hij e
    refine (hat j G[j] (List.getElem?_eq_getElem hj)).2 ?_
    rw [← e]
    exact List.mem_of_getElem? (i := i) (by rw [List.getElem?_take_of_lt hij, List.getElem?_eq_getElem hi])
set_option maxRecDepth 100000 in
set_option maxHeartbeats 1600000 in
theorem chIdx_any {gch : Nat} {pp : Option Addr} {pc : Nat} {P : List PersonV} {wp : Option Addr} {wcap : Nat} {wide : List Int} {hp : Option Addr} {hc : Nat} {high : List Int} {lp : Option Addr} {lc : Nat} {S : List StandV} {w : World} (h : ChM w gch pp pc P wp wcap wide hp hc high lp lc S) (hnS : S.length ≤ 1000) (nm : ByteArray) :
    Calls Tryz.prog 75 #[.pointer (some ⟨gch, 0, none⟩), .string nm] w fun e w' => ∃ i : Int, e = .returned (.int .i64 i) ∧ IdxP S nm i ∧ Ext w w' := by
  have hE0 : Ext w (w.alloc (.cells #[.string nm] 9)) := (Ext.refl _).alloc _
  have hB0 : Blk (w.alloc (.cells #[.string nm] 9)) w.heap.size 9 #[.string nm] := Blk.new' rfl
  have hch := h.blk.ext hE0
  have hst := h.sta.ext hE0
  have hfi : Calls Tryz.prog 104 #[.slice lp S.length lc, .func (.func 116) #[] #[.pointer (some ⟨w.heap.size, 0, none⟩)]] (w.alloc (.cells #[.string nm] 9)) fun e w' => ∃ i : Int, e = .returned (.int .i64 i) ∧ IdxP S nm i ∧ Ext (w.alloc (.cells #[.string nm] 9)) w' := by
    rcases (slcC hst).2 with ⟨rfl, e⟩ | ⟨sb, so, rfl, hsb, hEl⟩
    · subst e
      exact (idxFunc_nil lc _ _).mono fun e w' ⟨he, hE⟩ => ⟨-1, he, .inl ⟨rfl, by simp [namesS]⟩, hE⟩
    · have eg : ∀ args w, (callFunc 116 args).run Tryz.prog w = .ok (.enter 116 args) w := enters_of Tryz.func116 (by kernel_rfl) rfl
      have this := AnyQ.slices_IndexFunc Tryz.lqiStand 3 Tryz.isAgg46 Tryz.sizeOf46 staC staC_len (fun y => y.name.toList == nm.toList) 116 #[.pointer (some ⟨w.heap.size, 0, none⟩)] eg sb so S.length lc S _
        (chPred nm w.heap.size _ hB0) (Nat.le_refl _) (by omega) hsb (fun j hj i v hi => hEl j _ (by rw [List.getElem?_eq_getElem hj, getElem!_pos S j hj]) i v hi)
      rw [List.take_length] at this
      unfold Lib.idxBy at this
      refine this.mono fun e w' ⟨he, hE⟩ => ⟨_, he, ?_, hE⟩
      rcases idxOr (fun y : StandV => y.name.toList == nm.toList) default S 0 with ⟨h1, h2⟩ | ⟨k, x, hx, hpx, hk⟩
      · rw [h1]
        refine .inl ⟨rfl, fun hm => ?_⟩
        obtain ⟨b, hb, hbn⟩ := List.mem_map.1 hm
        have h3 := h2 b hb
        rw [baL.2 hbn] at h3
        cases h3
      · rw [hk, Nat.zero_add]
        exact .inr ⟨k, x, hx, baL.1 hpx, rfl⟩
  replace hfi := Lib.hid hfi
  have cl := hch.lt
  obtain ⟨c1, -⟩ := hch.walk
  clear hst h hB0
  go_enter Tryz.func75, Tryz.ntmps75
  go_wp2_with (go_at_call 104; (with_reducible refine Calls.mono hfi.out ?_); rintro e w1 ⟨i, rfl, hi, hb1⟩)
  go_ret
  exact ⟨i, rfl, hi, hE0.trans hb1⟩

section
variable {pp : Option Addr} {pc : Nat} {P : List PersonV} {wp : Option Addr} {wcap : Nat} {wide : List Int} {hp : Option Addr} {hc : Nat} {high : List Int} {lp : Option Addr} {lc : Nat} {S : List StandV} {w : World}
set_option maxRecDepth 100000 in
theorem closed_bad (h : PsM w pp pc P wp wcap wide hp hc high lp lc S) {v : Int} (hz : standsF P wide high S = v) (hv : v ≠ 0) (gp : Option Addr) (gn gc : Nat) :
    Calls Tryz.prog 27 #[.slice pp P.length pc, .agg #[.slice wp wide.length wcap, .slice hp high.length hc], .slice lp S.length lc, .slice gp gn gc] w fun e w' => e = .returned (.tuple #[.slice none 0 0, .int .i64 v]) ∧ Ext w w' := by
  have hE0 : Ext w (w.alloc (.cells #[.slice wp wide.length wcap, .slice hp high.length hc] 29)) := (Ext.refl _).alloc _
  have hck := choirOf_bad (h.more hE0) hz hv
  replace hck := Lib.hid hck
  clear h hz
  go_enter Tryz.func27, Tryz.ntmps27
  go_wp2_with (go_at_call 74; (with_reducible refine Calls.mono hck.out ?_); rintro e w1 ⟨rfl, hb1⟩)
  go_ret2
  exact ⟨rfl, hE0.trans hb1⟩
set_option maxRecDepth 100000 in
theorem mirror_bad (h : PsM w pp pc P wp wcap wide hp hc high lp lc S) {v : Int} (hz : standsF P wide high S = v) (hv : v ≠ 0) :
    Calls Tryz.prog 28 #[.slice pp P.length pc, .agg #[.slice wp wide.length wcap, .slice hp high.length hc], .slice lp S.length lc] w fun e w' => e = .returned (.tuple #[.slice none 0 0, .int .i64 v]) ∧ Ext w w' := by
  have hE0 : Ext w (w.alloc (.cells #[.slice wp wide.length wcap, .slice hp high.length hc] 29)) := (Ext.refl _).alloc _
  have hck := h.check hz _ hE0
  replace hck := Lib.hid hck
  clear h hz
  go_enter Tryz.func28, Tryz.ntmps28
  go_wp2_with (go_at_call 40; (with_reducible refine Calls.mono hck.out ?_); rintro e w1 ⟨rfl, hb1⟩)
  go_ret2
  exact ⟨rfl, hE0.trans hb1⟩
set_option maxRecDepth 100000 in
set_option maxHeartbeats 6400000 in
theorem closed_miss (hM : PsM w pp pc P wp wcap wide hp hc high lp lc S) (hz : standsF P wide high S = 0) (gp : Option Addr) (gc : Nat) (G : List ByteArray) (hG : Slc 1 strC w gp G.length gc G) (hGl : G.length ≤ 200) (hGz : ∀ nm ∈ G, nm.size ≤ 1000) {f : Int} (hf : missF S G = f) (hf0 : f ≠ 0) :
    Calls Tryz.prog 27 #[.slice pp P.length pc, .agg #[.slice wp wide.length wcap, .slice hp high.length hc], .slice lp S.length lc, .slice gp G.length gc] w fun e w' => e = .returned (.tuple #[.slice none 0 0, .int .i64 f]) ∧ Ext w w' := by
  have hnS := hM.nS
  have hE0 : Ext w (w.alloc (.cells #[.slice wp wide.length wcap, .slice hp high.length hc] 29)) := (Ext.refl _).alloc _
  have hco := choirOf_ok pp pc P wp wcap wide hp hc high lp lc S _ (hM.per.ext hE0) (hM.wid.ext hE0) (hM.hig.ext hE0) (hM.sta.ext hE0) fun u hu => hM.check hz u (hE0.trans hu)
  have hnI : ¬ (200 : Int) < (G.length : Int) := by omega
  have hmm := @run_makeMap Tryz.prog
  replace hco := Lib.hid hco
  clear hM hz
  go_enter Tryz.func27, Tryz.ntmps27
  go_upto_region 7 with (go_at_call 74; (with_reducible refine Calls.mono hco.out ?_); rintro e w1 ⟨g, rfl, hg, hb1, hCh⟩)
  have hO0 := OwnB.made w1
  have hE1 : Ext w w1 := hE0.trans hb1
  have hE2 : Ext w1 (w1.alloc (.map #[] 0)) := (Ext.refl _).alloc _
  clear hmm hco hE0 hb1 hnI
  generalize (w1.alloc (.map #[] 0)) = W1 at *
  generalize hgm : w1.heap.size = gm at *
  replace hgm := Lib.hid hgm
  go_wp2
  go_loopw [35] (fun v35 wr => ∃ k : Nat, v35 = .int .i64 k ∧ k ≤ G.length ∧ Zeros (chkN S G) k ∧ OwnB wr gm (G.take k) ∧ Ext w1 wr) (fun v35 _ => G.length - (intOf v35).toNat)
  case atStart => exact ⟨0, rfl, Nat.zero_le _, (fun j hj => by omega), by simpa using hO0, hE2⟩
  case round =>
    clear hO0 hE2
    obtain ⟨k, rfl, hk, hzz, hO, hE⟩ := hrel
    have hEw := hE1.trans hE
    by_cases hlt : k < G.length
    · obtain ⟨nm, hnm⟩ := getD_some (rfl : G.length = G.length) hlt
      have hm := List.mem_of_getElem? hnm
      have hsz := hGz nm hm
      have hat0 : chkN S G k = if inN (namesS S) nm then (if inN (G.take k) nm then 6 else 0) else 8 := by unfold chkN; rw [atL_of hnm]
      rcases (slcC hG).2 with ⟨-, e⟩ | ⟨gb, go, rfl, hgb, hgE⟩
      · rw [e] at hnm; cases hnm
      have c0 := (hgE.ext hEw hgb).str hnm
      have hbl := Nat.lt_of_lt_of_le hgb hEw.size
      have hkI : (k : Int) < G.length := by omega
      have hat := chIdx_any (hCh.more hE) hnS nm
      have htk := take_snocL hnm
      have htl : (G.take k).length ≤ 1000 := by rw [List.length_take]; omega
      replace hat := Lib.hid hat
      replace htk := Lib.hid htk
      cases hm1 : inN (namesS S) nm
      · have hno := inN_false.1 hm1
        rw [hm1] at hat0
        have hsc : f = 8 := by rw [← hf]; exact (scan_is (v := 8) hzz hlt hat0 (by decide)).symm
        subst hsc
        clear hgE hnm hm hO hzz hat0 hf hf0
        replace hm1 := Lib.hid hm1
        go_wp2_with (go_at_call 75; (with_reducible refine Calls.mono hat.out ?_); rintro e w2 ⟨i, rfl, hi, hb2⟩; have hi0 : i < 0 := Int.not_le.1 fun h9 => hno ((idx_sign hi).1 h9))
        go_ret2
        exact ⟨rfl, hEw.trans hb2⟩
      · have hyes := inN_iff.1 hm1
        rw [hm1] at hat0
        have hpk : ∀ w2, Ext wr w2 → ∃ w5, (Instr.lookup 114 (.map (some gm)) (.string nm) false).run Tryz.prog w2 = .ok (.bool (inN (G.take k) nm)) w2 ∧ (Instr.mapUpdate 114 (.map (some gm)) (.string nm) (.bool true)).run Tryz.prog w2 = .ok () w5 ∧ OwnB w5 gm (G.take k ++ [nm]) ∧ w2.grownBy w5 (some gm) := fun w2 hb2 => by
          obtain ⟨cc, hrun, hcc⟩ := (hO.ext hb2).look hsz
          obtain ⟨w5, hput, hO5, hg5⟩ := (hO.ext hb2).put hsz htl
          have : cc = inN (G.take k) nm := by rw [Bool.eq_iff_iff, hcc, inN_iff]
          subst this
          exact ⟨w5, hrun, hput, hO5, hg5⟩
        replace hm1 := Lib.hid hm1
        cases hd : inN (G.take k) nm
        · rw [hd] at hat0 hpk
          have hz2 := hzz.succ hat0
          replace hpk := Lib.hid hpk
          replace hz2 := Lib.hid hz2
          clear hgE hnm hm hO hzz hat0
          replace hd := Lib.hid hd
          replace hf := Lib.hid hf
          go_wp2_with (first
            | (go_at_call 75; (with_reducible refine Calls.mono hat.out ?_); rintro e w2 ⟨i, rfl, hi, hb2⟩; have hi0 : ¬ i < 0 := Int.not_lt.2 ((idx_sign hi).2 hyes); obtain ⟨w5, hrun, hput, hO5, hg5⟩ := hpk.out w2 hb2)
            | (refine wpList_lookB rfl _ _ 114 false rfl (.map (some gm)) (.string nm) _ rfl rfl hrun ?_)
            | (refine wpList_putB rfl _ _ _ 114 rfl (.map (some gm)) (.string nm) (.bool true) rfl rfl rfl w5 hput ?_))
          go_roundw
          case rel => exact ⟨k + 1, by go_num, by omega, hz2.out, by rw [htk.out]; exact hO5, (hE.trans hb2).grown hg5 (fun j e => by cases e; rw [hgm.out]; exact Nat.le_refl _)⟩
          case measure => simp [intOf]; omega
        · rw [hd] at hat0 hpk
          have hsc : f = 6 := by rw [← hf]; exact (scan_is (v := 6) hzz hlt hat0 (by decide)).symm
          subst hsc
          replace hpk := Lib.hid hpk
          clear hgE hnm hm hO hzz hat0 hf hf0
          replace hd := Lib.hid hd
          go_wp2_with (first
            | (go_at_call 75; (with_reducible refine Calls.mono hat.out ?_); rintro e w2 ⟨i, rfl, hi, hb2⟩; have hi0 : ¬ i < 0 := Int.not_lt.2 ((idx_sign hi).2 hyes); obtain ⟨w5, hrun, -, -, -⟩ := hpk.out w2 hb2)
            | (refine wpList_lookB rfl _ _ 114 false rfl (.map (some gm)) (.string nm) _ rfl rfl hrun ?_))
          go_ret2
          exact ⟨rfl, hEw.trans hb2⟩
    · obtain rfl : k = G.length := by omega
      exact absurd (hf.symm.trans (scan_zero hzz)) hf0
end
end Go.Proofs.YtakfanmoepiagaaGreatDoor
