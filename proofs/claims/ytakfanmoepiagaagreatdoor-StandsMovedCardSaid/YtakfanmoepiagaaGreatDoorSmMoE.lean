/- Gaps closed, by the document's text: the walk. Conditions: stands and names lie in memory; the stands are in strict order. -/
import Derived.Test.YtakfanmoepiagaaGreatDoorSmMoC
set_option linter.unusedSimpArgs false
set_option linter.unusedVariables false
namespace Go.Proofs.YtakfanmoepiagaaGreatDoor
open Go Go.RowKit

def cntI (S : List StandV) (g : StandV → Bool) (x : StandV) (i : Nat) : Nat := ((S.take i).filter fun z => g z && (decide (z.row = x.row) && decide (z.place < x.place))).length
theorem cntI_all (S : List StandV) (g : StandV → Bool) (x : StandV) : cntI S g x S.length = cntG S g x := by unfold cntI cntG; rw [List.take_length]
theorem cntI_succ {S : List StandV} {g : StandV → Bool} {x z : StandV} {i : Nat} (h : S[i]? = some z) : cntI S g x (i + 1) = cntI S g x i + (if (z.row == x.row) && (decide (z.place < x.place) && g z) then 1 else 0) := by
  unfold cntI
  rw [take_snocL h, List.filter_append, List.length_append]
  congr 1
  have e : (z.row == x.row) = decide (z.row = x.row) := rfl
  rw [e]
  cases h1 : g z <;> cases h2 : decide (z.row = x.row) <;> cases h3 : decide (z.place < x.place) <;> simp [h1, h2, h3]
theorem cntI_le (S : List StandV) (g : StandV → Bool) (x : StandV) (i : Nat) : cntI S g x i ≤ i := by
  unfold cntI
  exact Nat.le_trans (List.length_filter_le _ _) (by rw [List.length_take]; omega)
set_option maxRecDepth 100000 in
set_option maxHeartbeats 6400000 in
theorem closedOf_any {lp : Option Addr} {lc : Nat} {S : List StandV} {gp : Option Addr} {gc : Nat} {G : List ByteArray} {w : World} (h : Slc 3 staC w lp S.length lc S) (hnS : S.length ≤ 1000) (hSs : ∀ x ∈ S, x.Small) (hG : Slc 1 strC w gp G.length gc G) (hGl : G.length ≤ 200) :
    Calls Tryz.prog 30 #[.slice lp S.length lc, .slice gp G.length gc] w fun e w' => ∃ (q : Option Addr) (c : Nat), e = .returned (.slice q (closeL S (inG G)).length c) ∧ Slc 3 staC w' q (closeL S (inG G)).length c (closeL S (inG G)) ∧ Ext w w' := by
  have hct := fun u (hu : Ext w u) (nm : ByteArray) (v : Bool) (hv : inN G nm = v) => containsS_is gp G.length gc G nm u (hG.ext hu) (by omega) hv
  replace hct := Lib.hid hct
  go_enter Tryz.func30, Tryz.ntmps30
  go_wp2
  go_loopw [5, 13] (fun v5 v13 wr => ∃ (k n : Nat) (v : Value), v5 = v ∧ v13 = .int .i64 k ∧ k ≤ S.length ∧ wr.ownsRow w.heap.size 46 3 v n ((closeT S (inG G) k).flatMap staC) ∧ n = (closeT S (inG G) k).length ∧ Ext w wr) (fun _ v13 _ => S.length - (intOf v13).toNat)
  case atStart => exact ⟨0, 0, _, rfl, rfl, Nat.zero_le _, World.ownsRow_nil _ _ _ _, rfl, Ext.refl _⟩
  case round =>
    obtain ⟨k, n, v, rfl, rfl, hk, hown, rfl, hE⟩ := hrel
    by_cases hlt : k < S.length
    · obtain ⟨x, hx⟩ := getD_some (rfl : S.length = S.length) hlt
      obtain ⟨x1, x2, x3, x4, x5⟩ := hSs x (List.mem_of_getElem? hx)
      have hkI : (k : Int) < S.length := by omega
      rcases (slcC h).2 with ⟨-, e⟩ | ⟨sb, so, rfl, hsb, hEl⟩
      · rw [e] at hx; cases hx
      obtain ⟨c0, c1, c2⟩ := (hEl.ext hE hsb).sta hx
      have hbw := Nat.lt_of_lt_of_le hsb hE.size
      have hY := Blk.new' (w := wr) (t := 46) (cs := #[.string x.name, .int .i64 x.row, .int .i64 x.place]) rfl
      have hEa : Ext wr (wr.alloc (.cells #[.string x.name, .int .i64 x.row, .int .i64 x.place] 46)) := (Ext.refl _).alloc _
      have hE2 := hE.trans hEa
      have hown2 := own_ext hEa hown
      have hcl := closeT_len S (inG G) k
      have hwl := hE.size
      replace hown2 := Lib.hid hown2
      replace hEl := Lib.hid hEl
      cases hg : inG G x
      rotate_left
      · have hctx := fun u hu => hct.out u hu x.name true hg
        have hst := closeT_in hx hg
        replace hctx := Lib.hid hctx
        replace hst := Lib.hid hst
        replace hg := Lib.hid hg
        clear hown hE hx
        go_wp2_with (go_at_call 65; (with_reducible refine Calls.mono (hctx.out _ hE2) ?_); rintro e w2 ⟨rfl, hb2⟩)
        go_roundw
        case rel => exact ⟨k + 1, _, _, rfl, by go_num, by omega, by rw [hst.out]; exact own_ext hb2 hown2.out, by rw [hst.out], hE2.trans hb2⟩
        case measure => simp [intOf]; omega
      · have hctx := fun u hu => hct.out u hu x.name false hg
        have hst := closeT_out hx hg
        replace hctx := Lib.hid hctx
        replace hst := Lib.hid hst
        replace hg := Lib.hid hg
        clear hown hE hx hEa
        go_upto_region 7 with (go_at_call 65; (with_reducible refine Calls.mono (hctx.out _ hE2) ?_); rintro e w2 ⟨rfl, hb2⟩; obtain ⟨y1, -⟩ := (hY.ext hb2).walk; have yl := (hY.ext hb2).lt)
        have hY2 := hY.ext hb2
        have hE3 := hE2.trans hb2
        have hown3 := own_ext hb2 hown2.out
        have hEb : Ext w2 (w2.alloc (.cells #[.string x.name, .int .i64 x.row, .int .i64 x.place] 46)) := (Ext.refl _).alloc _
        have hZ := Blk.new' (w := w2) (t := 46) (cs := #[.string x.name, .int .i64 x.row, .int .i64 x.place]) rfl
        have hY3 := hY2.ext hEb
        have hE4 := hE3.trans hEb
        have hown4 := own_ext hEb hown3
        have hol := hown3.lt
        have hyl2 := hY2.lt
        have hgzw := hE3.size
        clear y1 yl hY hY2 hE3 hown3 hEb hown2 hE2 hb2 c0 c1 c2 hctx
        generalize w2.alloc (.cells #[.string x.name, .int .i64 x.row, .int .i64 x.place] 46) = W at *
        generalize wr.heap.size = gx at *
        generalize w2.heap.size = gz at *
        have hne : gx ≠ gz := by omega
        replace hown4 := Lib.hid hown4
        go_wp2
        go_loopw [24] (fun v24 wq => ∃ i : Nat, v24 = .int .i64 i ∧ i ≤ S.length ∧ Blk wq gz 46 #[.string x.name, .int .i64 x.row, .int .i64 (x.place - cntI S (inG G) x i)] ∧ Blk wq gx 46 #[.string x.name, .int .i64 x.row, .int .i64 x.place] ∧ wq.ownsRow w.heap.size 46 3 u5 (closeT S (inG G) k).length ((closeT S (inG G) k).flatMap staC) ∧ Ext w wq) (fun v24 _ => S.length - (intOf v24).toNat)
        case atStart => exact ⟨0, rfl, Nat.zero_le _, by simpa [cntI] using hZ, hY3, hown4.out, hE4⟩
        case round =>
          clear hZ hY3 hown4 hE4
          obtain ⟨i, rfl, hi, hZ, hY, hown, hE⟩ := hrel
          by_cases hil : i < S.length
          · obtain ⟨z, hz⟩ := getD_some (rfl : S.length = S.length) hil
            obtain ⟨z1, z2, z3, z4, z5⟩ := hSs z (List.mem_of_getElem? hz)
            have hiI : (i : Int) < S.length := by omega
            obtain ⟨c0, c1, c2⟩ := (hEl.out.ext hE hsb).sta hz
            have hbq := Nat.lt_of_lt_of_le hsb hE.size
            have hEa : Ext wr (wr.alloc (.cells #[.string z.name, .int .i64 z.row, .int .i64 z.place] 46)) := (Ext.refl _).alloc _
            have hE2 := hE.trans hEa
            have hZ2 := hZ.ext hEa
            have hY2 := hY.ext hEa
            have hown2 := own_ext hEa hown
            have hsu := cntI_succ (g := inG G) (x := x) hz
            have hcb := cntI_le S (inG G) x i
            have hzl := hE.size
            have hcz := fun u hu v hv => hct.out u hu z.name v hv
            have hV : Blk (wr.alloc (.cells #[.string z.name, .int .i64 z.row, .int .i64 z.place] 46)) wr.heap.size 46 #[.string z.name, .int .i64 z.row, .int .i64 z.place] := Blk.new' rfl
            obtain ⟨y1, -⟩ := hY2.walk
            have yl := hY2.lt
            replace hown2 := Lib.hid hown2
            replace hcz := Lib.hid hcz
            clear hown hE hZ hY hz hEa
            cases h1 : (z.row == x.row)
            · rw [h1] at hsu
              simp only [Bool.false_and, Bool.false_eq_true, if_false, Nat.add_zero] at hsu
              replace hsu := Lib.hid hsu
              replace hZ2 := Lib.hid hZ2
              replace hY2 := Lib.hid hY2
              go_wp2
              go_roundw
              case rel => exact ⟨i + 1, by go_num, by omega, by rw [hsu.out]; exact hZ2.out, hY2.out, hown2.out, hE2⟩
              case measure => simp [intOf]; omega
            · rw [h1] at hsu
              cases h2 : decide (z.place < x.place)
              · rw [h2] at hsu
                simp only [Bool.false_and, Bool.and_false, Bool.false_eq_true, if_false, Nat.add_zero] at hsu
                have h2' := of_decide_eq_false h2
                clear h2
                replace hsu := Lib.hid hsu
                replace hZ2 := Lib.hid hZ2
                replace hY2 := Lib.hid hY2
                go_wp2
                go_roundw
                case rel => exact ⟨i + 1, by go_num, by omega, by rw [hsu.out]; exact hZ2.out, hY2.out, hown2.out, hE2⟩
                case measure => simp [intOf]; omega
              · have h2' := of_decide_eq_true h2
                cases h3 : inG G z
                · rw [h2, h3] at hsu
                  simp only [Bool.and_false, Bool.false_eq_true, if_false, Nat.add_zero] at hsu
                  clear h2
                  have hc3 := hcz.out _ hE2 false h3
                  replace hc3 := Lib.hid hc3
                  replace hsu := Lib.hid hsu
                  replace hZ2 := Lib.hid hZ2
                  replace hY2 := Lib.hid hY2
                  replace h3 := Lib.hid h3
                  go_wp2_with (go_at_call 65; (with_reducible refine Calls.mono hc3.out ?_); rintro e w3 ⟨rfl, hb3⟩)
                  go_roundw
                  case rel => exact ⟨i + 1, by go_num, by omega, by rw [hsu.out]; exact hZ2.out.ext hb3, hY2.out.ext hb3, own_ext hb3 hown2.out, hE2.trans hb3⟩
                  case measure => simp [intOf]; omega
                · rw [h2, h3] at hsu
                  simp only [Bool.and_self, if_true] at hsu
                  clear h2
                  have hc3 := hcz.out _ hE2 true h3
                  have hsuI : (cntI S (inG G) x (i + 1) : Int) = (cntI S (inG G) x i : Int) + 1 := by omega
                  have hcvb : (0 : Int) ≤ (cntI S (inG G) x i : Int) ∧ (cntI S (inG G) x i : Int) ≤ 1000 := by omega
                  clear hsu hcb
                  generalize (cntI S (inG G) x i : Int) = cv at *
                  have hw1 : IntKind.i64.wrap (x.place - cv - 1) = x.place - cv - 1 := IntWalk.i64_in _ (by omega)
                  replace hc3 := Lib.hid hc3
                  replace hsuI := Lib.hid hsuI
                  replace h3 := Lib.hid h3
                  go_upto_region 11 with (go_at_call 65; (with_reducible refine Calls.mono hc3.out ?_); rintro e w3 ⟨rfl, hb3⟩)
                  have hZ3 := hZ2.ext hb3
                  have hY3 := hY2.ext hb3
                  have hE3 := hE2.trans hb3
                  have hown3 := own_ext hb3 hown2.out
                  have hol3 := hol
                  obtain ⟨y8, y8f⟩ := hZ3.walk
                  have yl8 := hZ3.lt
                  have hZ4 := (hZ3.set_ 2 (.int .i64 (x.place - cv - 1))).cast (cs' := #[.string x.name, .int .i64 x.row, .int .i64 (x.place - (cv + 1))]) (by simp; omega)
                  have hY4 := hY3.far (p := ⟨gz, 2, none⟩) hne (.int .i64 (x.place - cv - 1))
                  have hE4 := hE3.setCell (p := ⟨gz, 2, none⟩) hgzw (.int .i64 (x.place - cv - 1))
                  have hown4 := own_same (w' := w3.setCell ⟨gz, 2, none⟩ (.int .i64 (x.place - cv - 1))) hown3 (fun j e => Below.heap_setCell _ _ _ j (by have := (hol j e).2; simp only; omega))
                  replace hZ4 := Lib.hid hZ4
                  replace hY4 := Lib.hid hY4
                  replace hE4 := Lib.hid hE4
                  replace hown4 := Lib.hid hown4
                  clear hZ2 hY2 hE2 hown2 hb3 hZ3 hY3 hE3 hown3 y1 yl c0 c1 c2 hV
                  go_wp2
                  go_roundw
                  case rel => exact ⟨i + 1, by go_num, by omega, by rw [hsuI.out]; exact hZ4.out, hY4.out, hown4.out, hE4.out⟩
                  case measure => simp [intOf]; omega
          · obtain rfl : i = S.length := by omega
            rw [cntI_all] at hZ
            obtain ⟨y8, -⟩ := hZ.walk
            have yl8 := hZ.lt
            have ho6 := hown.alloc (.cells #[.string x.name, .int .i64 x.row, .int .i64 (x.place - cntG S (inG G) x)] 46)
            have hlc : (closeT S (inG G) k ++ [closeS S (inG G) x]).length = (closeT S (inG G) k).length + 1 := by rw [List.length_append]; rfl
            go_wp2_with (at_builtin; go_loud (refine wp_app1 _ (.tmp 51) (.tmp 53) 34 46 3 32 _ rfl rfl Tryz.underlying34 staInfo rfl (by decide) (by decide) w.heap.size _ _ _ rfl ho6 wr.heap.size (staC ⟨x.name, x.row, x.place - cntG S (inG G) x⟩) rfl rfl (Blk.new' rfl) (sta_one _) (by omega) (by simp; omega) ?_; intro v' w6 hown6 hgrow6 _))
            go_roundw
            case rel => exact ⟨k + 1, _, v', rfl, by go_num, by omega, by rw [hst.out, flat_snoc]; exact hown6, by rw [hst.out, hlc], (hE.alloc _).grown hgrow6 fun j e => (ho6.lt j e).1⟩
            case measure => simp [intOf]; omega
    · obtain rfl : k = S.length := by omega
      have hcl := closeT_len S (inG G) S.length
      rw [closeT_all] at hown hcl
      obtain ⟨q, c, rfl, hSl⟩ := slc_of_own staC_len hown (by decide) (by omega)
      replace hSl := Lib.hid hSl
      clear hown
      go_wp2
      go_ret
      exact ⟨q, c, rfl, hSl.out, hE⟩
end Go.Proofs.YtakfanmoepiagaaGreatDoor
