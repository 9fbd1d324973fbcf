/- The law that rows are right: it answers true. Conditions: the argument is a list of ints that lies in memory; the table of powers. -/
import Derived.Test.YtfbegdcmnfkhgaaGreatDoorRxJ39
import Derived.Test.YtfbegdcmnfkhgaaGreatDoorRxRrC
import Derived.Test.YtfbegdcmnfkhgaaGreatDoorRxRoK
import Derived.Test.YtfbegdcmnfkhgaaGreatDoorRxStX
import Derived.Test.YtfbegdcmnfkhgaaGreatDoorRxJ33
import Derived.Test.YtfbegdcmnfkhgaaGreatDoorRxJ32
import Derived.Test.YtfbegdcmnfkhgaaGreatDoorRxJ47
import Derived.Deep.DeepCutAuto
set_option linter.unusedSimpArgs false
set_option linter.unusedVariables false
namespace Go.Proofs.YtfbegdcmnfkhgaaGreatDoor
open Go Go.RowKit

def tenorB : ByteArray := ⟨#[116, 101, 110, 111, 114]⟩
def altoB : ByteArray := ⟨#[97, 108, 116, 111]⟩
def bassB : ByteArray := ⟨#[98, 97, 115, 115]⟩
def inBass (x : PersonV) : PersonV := ⟨x.name, x.high, bassB⟩
theorem bass_people {P : List PersonV} (h : peopleF P = 0) : peopleF (P.map inBass) = 0 := by
  unfold peopleF at h ⊢
  rw [List.length_map]
  by_cases hl : 200 < P.length
  · rw [if_pos hl] at h; cases h
  rw [if_neg hl] at h ⊢
  have hz := scan_all h
  refine scan_zero fun i hi => ?_
  have h4 := hz i hi
  have hx : P[i]? = some P[i] := List.getElem?_eq_getElem hi
  have hx2 : (P.map inBass)[i]? = some (inBass P[i]) := by rw [List.getElem?_map, hx]; rfl
  have hk : keyB bassB = true := by decide +kernel
  unfold chkPer at h4 ⊢
  rw [atL_of hx] at h4
  rw [atL_of hx2]
  have e1 : (inBass P[i]).name = P[i].name := rfl
  have e2 : (inBass P[i]).sect = bassB := rfl
  have e3 : (inBass P[i]).high = P[i].high := rfl
  rw [e1, e2, e3, hk]
  cases k0 : keyB P[i].name
  · rw [k0] at h4; simp at h4
  cases k1 : keyB P[i].sect
  · rw [k0, k1] at h4; simp at h4
  rw [k0, k1] at h4
  rcases Nat.eq_zero_or_pos i with hz0 | hz0
  · subst hz0
    simpa using h4
  · have hi1 : i - 1 < P.length := by omega
    have hy : P[i - 1]? = some P[i - 1] := List.getElem?_eq_getElem hi1
    have hy2 : (P.map inBass)[i - 1]? = some (inBass P[i - 1]) := by rw [List.getElem?_map, hy]; rfl
    rw [atL_of hy] at h4
    rw [atL_of hy2]
    exact h4
theorem cov_of {P : List PersonV} (hok : PeopleOk P) (h : ∀ x ∈ P, SecIn x) : ∀ x ∈ P, x.sect ∈ [tenorB, altoB, bassB] := fun x hx => by
  have h1 := h x hx
  have h2 := (hok.one x hx).2.1
  unfold SecIn at h1
  simp only [List.mem_cons, List.not_mem_nil, or_false] at h1 ⊢
  rcases h1 with h1 | h1 | h1 | h1
  · exact .inr (.inl h1)
  · exact .inr (.inr h1)
  · exact .inl h1
  · rw [h1] at h2
    have : keyB ⟨#[]⟩ = false := by decide +kernel
    rw [this] at h2
    cases h2
theorem smallS_of {P : List PersonV} {wide high : List Int} {S : List StandV} (h : standsF P wide high S = 0) (hP : ∀ x ∈ P, x.Small) : ∀ x ∈ S, x.Small := fun x hx => by
  obtain ⟨a1, ⟨a2, a3⟩, a4, a5⟩ := (standsF_right h).2.2.1 x hx
  have hwo := (standsF_ok h).1.wo
  unfold hasP at a1
  obtain ⟨p, hp, e⟩ := List.any_eq_true.1 a1
  have e2 : p.name = x.name := baL.1 e
  have h7 : wide.getD x.row.toNat 0 ≤ 30 := by
    rw [List.getD_eq_getElem?_getD]
    cases hg : wide[x.row.toNat]? with
    | none => simp
    | some v => simpa using (hwo.2 v (List.mem_of_getElem? hg)).2
  have h8 := hwo.1
  exact ⟨by rw [← e2]; exact (hP p hp).1, by omega, by omega, by omega, by omega⟩

theorem order3 : orderF [tenorB, altoB, bassB] = 0 := by decide +kernel
theorem order1 : orderF [bassB] = 0 := by decide +kernel
theorem one_rows2 {wide : List Int} {M : List PersonV} (h : ∀ x ∈ M, x.sect = bassB) (r : Nat) : bsL wide M.length (lensL (grpsL [bassB] M)) (grpsL [bassB] M) r = bhL wide M r := by
  rw [one_group h]
  exact one_rows r

theorem oneS_any {w : World} {pp : Option Addr} {pc : Nat} {Q : List PersonV} {wp : Option Addr} {wcap : Nat} {wide : List Int} {hp : Option Addr} {hc : Nat} {high : List Int} {g : Nat} (h : PsM w pp pc Q wp wcap wide hp hc high none 0 []) (hB : Blk w g 9 #[.string bassB]) (ho : ostF Q wide high = 0) (hf : fullF Q wide = 0) (hP : Q.length ≤ 19) (hb : ∀ x ∈ Q, x.sect = bassB) :
    Calls Tryz.prog 22 #[.slice pp Q.length pc, .agg #[.slice wp wide.length wcap, .slice hp high.length hc], .slice (some ⟨g, 0, none⟩) 1 1] w fun e w' => ∃ (q : Option Addr) (c : Nat) (M : List PersonV), e = .returned (.tuple #[.slice q (bhL wide M wide.length).length c, .int .i64 0]) ∧ ByH Q M ∧ Slc 3 staC w' q (bhL wide M wide.length).length c (bhL wide M wide.length) ∧ Ext w w' :=
  (bySectionS_any (op := some ⟨g, 0, none⟩) (oc := 1) (O := [bassB]) h (slc_of_blk (xs := [bassB]) (enc := strC) (fun _ => rfl) hB (by decide)) (by intro x hx; simp at hx; subst hx; decide) ho hf order1 hP (by decide) (fun x hx => by rw [hb x hx]; simp)).mono fun e w' ⟨q, c, M, he, hBy, hS, hE⟩ => by
    have hMb : ∀ x ∈ M, x.sect = bassB := fun x hx => hb x (hBy.1.subset hx)
    rw [one_rows2 hMb] at he hS
    exact ⟨q, c, M, he, hBy, hS, hE⟩

set_option maxRecDepth 100000 in
set_option maxHeartbeats 25600000 in
theorem lawRR_any (B : Nat) (w : World) (p : Option Addr) (n c : Nat) (h : Lst w w.heap.size p n) (ht : Tab B w) :
    Calls Tryz.prog 5 #[.slice p n c] w fun e w' => e = .returned (.bool true) ∧ Ext w w' := by
  have hS0 : Str (w.alloc (.cells #[.slice p n c, .int .i64 0] 25)) w.heap.size 0 := ⟨p, n, c, 0, Nat.le_refl _, Blk.new' rfl, h.low fun j hj => Below.heap_alloc w _ j hj⟩
  have hE0 : Ext w (w.alloc (.cells #[.slice p n c, .int .i64 0] 25)) := (Ext.refl w).alloc _
  clear h
  go_enter Tryz.func5, Tryz.ntmps5
  go_upto_region 3 with (first
    | (go_at_call 7; (with_reducible refine Calls.mono (peopleS_any w.heap.size 0 8 _ (by omega) (by omega) (by exact hS0)) ?_); rintro e w1 ⟨pp, n, pc, P, rfl, hn8, hP, hpf, hPq, hS1, hE1⟩; obtain rfl : n = P.length := (slcC hP).1)
    | (go_at_call 8; (with_reducible refine Calls.mono (stageOf_any w.heap.size (0 + 40) _ (by omega) (by exact hS1)) ?_); rintro e w2 ⟨wp, wcap, hp, hc, wide, high, rfl, hw4, hh4, hws, hhs, hW, hH, hwf, hhf, hS2, hE2⟩))
  have hPs : ∀ x ∈ P, x.Small := fun x hx => (hPq x hx).1
  have hPi : ∀ x ∈ P, SecIn x := fun x hx => (hPq x hx).2
  have hpf2 : ∀ a, pp = some a → a.block ≠ w.heap.size := fun a ha e => by have := hpf a ha; simp at this; omega
  have hEa : Ext w2 (w2.alloc (.cells #[.slice wp wide.length wcap, .slice hp high.length hc] 29)) := (Ext.refl _).alloc _
  have hBS : Blk (w2.alloc (.cells #[.slice wp wide.length wcap, .slice hp high.length hc] 29)) w2.heap.size 29 #[.slice wp wide.length wcap, .slice hp high.length hc] := Blk.new' rfl
  have hM : PsM (w2.alloc (.cells #[.slice wp wide.length wcap, .slice hp high.length hc] 29)) pp pc P wp wcap wide hp hc high none 0 [] := ⟨(hP.extS hE2 hpf2).ext hEa, hW.ext hEa, hH.ext hEa, Slc.nil _ _ _, hPs, hws, hhs, (fun x hx => by cases hx), by omega, by simp⟩
  have hE : Ext w (w2.alloc (.cells #[.slice wp wide.length wcap, .slice hp high.length hc] 29)) := (ExtS.back hE0 (Nat.le_refl _) (hE1.trans hE2)).trans hEa
  clear hS0 hE0 hS1 hE1 hP hpf hE2 hS2 hW hH hwf hhf hpf2 hEa hPs hPq
  generalize w2.alloc (.cells #[.slice wp wide.length wcap, .slice hp high.length hc] 29) = W at *
  generalize w2.heap.size = g at *
  obtain ⟨s0, -⟩ := hBS.walk
  have sl := hBS.lt
  have hf1 := fun u (hu : Ext W u) => faultPeople_any pp P.length pc P u (hM.per.ext hu).1 hM.sP hM.nP
  have hf2 := fun u (hu : Ext W u) => faultStage_any wp wcap hp hc wide high u (hM.wid.ext hu) (hM.hig.ext hu) hM.sw hM.sh
  replace hf1 := Lib.hid hf1
  replace hf2 := Lib.hid hf2
  replace hPi := Lib.hid hPi
  by_cases hp0 : peopleF P = 0
  rotate_left
  · clear hf2 hM
    go_wp2_with (first
      | (go_at_call 14; (with_reducible refine Calls.mono (hf1.out _ (Ext.refl _)) ?_); rintro e w5 ⟨rfl, hb5⟩)
      | (go_at_call 26; refine (ready_any B _ (by exact ht.ext (hE.trans hb5))).mono ?_; rintro e wz ⟨rfl, hzz⟩))
    go_ret
    exact ⟨rfl, (hE.trans hb5).trans hzz⟩
  by_cases hs0 : stageF wide high = 0
  rotate_left
  · rw [hp0] at hf1
    clear hM
    go_wp2_with (first
      | (go_at_call 14; (with_reducible refine Calls.mono (hf1.out _ (Ext.refl _)) ?_); rintro e w5 ⟨rfl, hb5⟩; clear s0; obtain ⟨s1, -⟩ := (hBS.ext hb5).walk; have sl1 := (hBS.ext hb5).lt)
      | (go_at_call 15; (with_reducible refine Calls.mono (hf2.out _ hb5) ?_); rintro e w6 ⟨rfl, hb6⟩; have E6 := hb5.trans hb6)
      | (go_at_call 26; refine (ready_any B _ (by exact ht.ext (hE.trans E6))).mono ?_; rintro e wz ⟨rfl, hzz⟩))
    go_ret
    exact ⟨rfl, (hE.trans E6).trans hzz⟩
  have hwo := (stageF_ok hs0).1
  have ho : ostF P wide high = 0 := by unfold ostF; rw [if_pos hp0]; exact hs0
  have hrl := fun u (hu : Ext W u) => rfull_any pp pc P wp wcap wide hp high.length hc u (hM.wid.ext hu) hwo
  rw [hp0] at hf1
  rw [hs0] at hf2
  by_cases hb0 : fullF P wide = 0
  rotate_left
  · replace hrl := Lib.hid hrl
    replace ho := Lib.hid ho
    replace hs0 := Lib.hid hs0
    replace hp0 := Lib.hid hp0
    clear hM hwo
    go_wp2_with (first
      | (go_at_call 14; (with_reducible refine Calls.mono (hf1.out _ (Ext.refl _)) ?_); rintro e w5 ⟨rfl, hb5⟩; clear s0; obtain ⟨s1, -⟩ := (hBS.ext hb5).walk; have sl1 := (hBS.ext hb5).lt)
      | (go_at_call 15; (with_reducible refine Calls.mono (hf2.out _ hb5) ?_); rintro e w6 ⟨rfl, hb6⟩; have E6 := hb5.trans hb6; clear s1; obtain ⟨s2, -⟩ := (hBS.ext E6).walk; have sl2 := (hBS.ext E6).lt)
      | (go_at_call 20; (with_reducible refine Calls.mono (hrl.out _ E6) ?_); rintro e w7 ⟨rfl, hb7⟩; have E7 := E6.trans hb7)
      | (go_at_call 26; refine (ready_any B _ (by exact ht.ext (hE.trans E7))).mono ?_; rintro e wz ⟨rfl, hzz⟩))
    go_ret
    exact ⟨rfl, (hE.trans E7).trans hzz⟩
  rw [hb0] at hrl
  have hpo := peopleF_ok hp0
  have hcov := cov_of hpo hPi.out
  have hby := fun u (hu : Ext W u) => byHeightS_any (hM.more hu) ho hb0 (by omega)
  have hbr := fun MM (h : ByH P MM) => bhL_right ho hpo hwo hb0 h
  have hbs := fun u g (hu : Ext W u) (hB : Blk u g 9 #[.string tenorB, .string altoB, .string bassB]) => bySectionS_any (op := some ⟨g, 0, none⟩) (oc := 3) (O := [tenorB, altoB, bassB]) (hM.more hu) (slc_of_blk (xs := [tenorB, altoB, bassB]) (enc := strC) (fun _ => rfl) hB (by decide)) (by intro x hx; simp at hx; rcases hx with rfl | rfl | rfl <;> decide) ho hb0 order3 (by omega) (by decide) hcov
  have hbb := fun MM (h : ByH P MM) => bs_right (O := [tenorB, altoB, bassB]) ho hpo hwo hb0 h (by decide) hcov
  replace hrl := Lib.hid hrl
  replace hby := Lib.hid hby
  replace hbr := Lib.hid hbr
  replace hbs := Lib.hid hbs
  replace hbb := Lib.hid hbb
  replace ho := Lib.hid ho
  replace hs0 := Lib.hid hs0
  replace hp0 := Lib.hid hp0
  replace hb0 := Lib.hid hb0
  replace hM := Lib.hid hM
  replace hwo := Lib.hid hwo
  clear hpo hcov hPi
  go_upto_region 6 with (first
    | (go_at_call 14; (with_reducible refine Calls.mono (hf1.out _ (Ext.refl _)) ?_); rintro e w5 ⟨rfl, hb5⟩; clear s0; obtain ⟨s1, -⟩ := (hBS.ext hb5).walk; have sl1 := (hBS.ext hb5).lt)
    | (go_at_call 15; (with_reducible refine Calls.mono (hf2.out _ hb5) ?_); rintro e w6 ⟨rfl, hb6⟩; have E6 := hb5.trans hb6; clear s1; obtain ⟨s2, -⟩ := (hBS.ext E6).walk; have sl2 := (hBS.ext E6).lt)
    | (go_at_call 20; (with_reducible refine Calls.mono (hrl.out _ E6) ?_); rintro e w7 ⟨rfl, hb7⟩; have E7 := E6.trans hb7; clear s2; obtain ⟨s3, -⟩ := (hBS.ext E7).walk; have sl3 := (hBS.ext E7).lt)
    | (go_at_call 21; (with_reducible refine Calls.mono (hby.out _ E7) ?_); rintro e w8 ⟨q1, c1, M1, rfl, hBy1, hQ1, hb8⟩; have E8 := E7.trans hb8; clear s3; obtain ⟨s4, -⟩ := (hBS.ext E8).walk; have sl4 := (hBS.ext E8).lt))
  obtain ⟨hAl, hAr, -⟩ := hbr.out M1 hBy1
  generalize bhL wide M1 wide.length = A1 at *
  have hAlI : (A1.length : Int) = P.length := by omega
  replace hAr := Lib.hid hAr
  replace hAl := Lib.hid hAl
  clear hf1 hf2 hrl hby hbr hBy1
  go_upto_region 7 with (go_at_call 22; refine (hbs.out _ _ (E8.alloc _) (Blk.new' rfl)).mono ?_; rintro e w9 ⟨q2, c2, M2, rfl, hBy2, hQ2, hb9⟩; have E9 := (E8.alloc _).trans hb9; have hQ1' := hQ1.ext (((Ext.refl _).alloc _).trans hb9); clear s4; obtain ⟨s5, -⟩ := (hBS.ext E9).walk; have sl5 := (hBS.ext E9).lt)
  obtain ⟨hBl, hBr⟩ := hbb.out M2 hBy2
  generalize bsL wide M2.length (lensL (grpsL [tenorB, altoB, bassB] M2)) (grpsL [tenorB, altoB, bassB] M2) wide.length = B1 at *
  have hBlI : (B1.length : Int) = P.length := by omega
  have hM9 := hM.out.more E9
  have hPA : PsM w9 pp pc P wp wcap wide hp hc high q1 c1 A1 := ⟨hM9.per, hM9.wid, hM9.hig, hQ1', hM9.sP, hM9.sw, hM9.sh, smallS_of hAr.out hM9.sP, hM9.nP, by have := hAl.out; omega⟩
  have hPB : PsM w9 pp pc P wp wcap wide hp hc high q2 c2 B1 := ⟨hM9.per, hM9.wid, hM9.hig, hQ2, hM9.sP, hM9.sw, hM9.sh, smallS_of hBr hM9.sP, hM9.nP, by omega⟩
  have hc1 := fun u (hu : Ext w9 u) => checkStands_any pp pc P wp wcap wide hp hc high q1 c1 A1 u (hPA.more hu)
  have hc2 := fun u (hu : Ext w9 u) => checkStands_any pp pc P wp wcap wide hp hc high q2 c2 B1 u (hPB.more hu)
  rw [hAr.out] at hc1
  rw [hBr] at hc2
  have hcl := fun u (hu : Ext w9 u) => clonePer_any pp P.length pc P u (hM9.per.ext hu) (by omega)
  replace hc1 := Lib.hid hc1
  replace hc2 := Lib.hid hc2
  replace hcl := Lib.hid hcl
  replace hBl := Lib.hid hBl
  clear hPA hPB hM9 hQ1 hQ1' hQ2 hBr hBy2 hbb hbs hAr
  go_upto_region 10 with (first
    | (go_at_call 27; (with_reducible refine Calls.mono (hc1.out _ (Ext.refl _)) ?_); rintro e x1 ⟨rfl, hx1⟩; clear s5; obtain ⟨s6, -⟩ := (hBS.ext (E9.trans hx1)).walk; have sl6 := (hBS.ext (E9.trans hx1)).lt)
    | (go_at_call 27; (with_reducible refine Calls.mono (hc2.out _ hx1) ?_); rintro e x2 ⟨rfl, hx2⟩; have X2 := hx1.trans hx2)
    | (go_at_call 28; (with_reducible refine Calls.mono (hcl.out _ X2) ?_); rintro e x3 ⟨v, rfl, hown, hx3⟩; obtain ⟨q3, c3, rfl, -⟩ := slc_of_own perC_len hown (by decide) (by omega)))
  have E10 := E9.trans (X2.trans hx3)
  clear s6 hc1 hc2 hcl hAl hBl
  have hszk := hx3.size
  go_wp2
  go_loopw [87] (fun v87 wr => ∃ j : Nat, v87 = .int .i64 j ∧ j ≤ P.length ∧ wr.ownsRow x2.heap.size 59 3 (.slice q3 P.length c3) P.length (((P.map inBass).take j ++ P.drop j).flatMap perC) ∧ Ext W wr ∧ Ext x2 wr) (fun v87 _ => P.length - (intOf v87).toNat)
  case atStart => exact ⟨0, rfl, Nat.zero_le _, by simpa using hown, E10, hx3⟩
  case round =>
    clear hown
    obtain ⟨j, rfl, hj, hown, hEr, hXr⟩ := hrel
    have hlm : (P.map inBass).length = P.length := by simp
    by_cases hlt : j < P.length
    · obtain ⟨x, hx⟩ := getD_some (rfl : P.length = P.length) hlt
      have hjI : (j : Int) < P.length := by omega
      obtain ⟨g3, cap, e9, hg3, hgl3⟩ := hown.form (by omega)
      cases e9
      have hat := mid_at (ys := P.map inBass) (by simp) hx
      have hxb : (P.map inBass)[j]? = some (inBass x) := by rw [List.getElem?_map, hx]; rfl
      have hset := set_take_drop (xs := P) (by simp) hxb
      have c2 := own_cell perC_len hown hat 2 (v := .string x.sect) rfl hlt
      have h2 := own_set1 perC_len hown (inBass x) hat 2 (by decide) (.string bassB) rfl
      rw [hset] at h2
      have z0 : ∀ o, wr.frozen? ⟨g3, o, none⟩ = false := fun o => hown.frozenAt o
      have hX2s := X2.size
      have hE9s := E9.size
      have hEn := hEr.setCell (p := ⟨g3, j * 3 + 2, none⟩) (by simp only; omega) (.string bassB)
      have hXn := hXr.setCell (p := ⟨g3, j * 3 + 2, none⟩) hg3 (.string bassB)
      replace h2 := Lib.hid h2
      clear hx hat hxb hset hown
      go_wp2
      go_roundw
      case rel => exact ⟨j + 1, by go_num, by omega, h2.out, hEn, hXn⟩
      case measure => simp [intOf]; omega
    · obtain rfl : j = P.length := by omega
      have e1 : (P.map inBass).take P.length ++ P.drop P.length = P.map inBass := by
        rw [List.take_of_length_le (by simp), List.drop_length, List.append_nil]
      rw [e1] at hown
      obtain ⟨q9, c9, e9, hSq⟩ := slc_of_own perC_len hown (by decide) (by omega)
      cases e9
      have hMw := hM.out.more hEr
      have hMQ : PsM wr q3 c3 (P.map inBass) wp wcap wide hp hc high none 0 [] := ⟨by rw [hlm]; exact hSq, hMw.wid, hMw.hig, Slc.nil _ _ _, (fun x hx => by
        obtain ⟨y, hy, rfl⟩ := List.mem_map.1 hx
        obtain ⟨s1, s2, s3, s4⟩ := hMw.sP y hy
        exact ⟨s1, (show bassB.size ≤ 1000 by decide), s3, s4⟩), hMw.sw, hMw.sh, (fun x hx => by cases hx), by rw [hlm]; exact hMw.nP, by simp⟩
      have hpQ := bass_people hp0.out
      have hoQ : ostF (P.map inBass) wide high = 0 := by unfold ostF; rw [if_pos hpQ]; exact hs0.out
      have hfQ : fullF (P.map inBass) wide = 0 := by have := hb0.out; unfold fullF at this ⊢; rw [hlm]; exact this
      have hbas : ∀ x ∈ P.map inBass, x.sect = bassB := fun x hx => by obtain ⟨y, -, rfl⟩ := List.mem_map.1 hx; rfl
      have hb3 := fun u g (hu : Ext wr u) (hB : Blk u g 9 #[.string bassB]) => oneS_any (g := g) (hMQ.more hu) hB hoQ hfQ (by rw [hlm]; omega) hbas
      have hb4 := fun u (hu : Ext wr u) => byHeightS_any (hMQ.more hu) hoQ hfQ (by rw [hlm]; omega)
      simp only [hlm] at hb3 hb4
      have hwn : ∀ MM, ByH (P.map inBass) MM → (bhL wide MM wide.length).length ≤ 8 := fun MM h => by
        have h1 := bhL_bound wide MM wide.length
        have h2 := h.1.length_eq
        rw [hlm] at h2
        omega
      replace hb3 := Lib.hid hb3
      replace hb4 := Lib.hid hb4
      replace hwn := Lib.hid hwn
      have hBw := hBS.ext hEr
      obtain ⟨s7, -⟩ := hBw.walk
      have sl7 := hBw.lt
      have hEw := hE.trans hEr
      clear hown hSq hMw hMQ hpQ hoQ hfQ hbas e1 hlm hXr
      go_wp2_with (first
        | (go_at_call 22; refine (hb3.out _ _ ((Ext.refl _).alloc _) (Blk.new' rfl)).mono ?_; rintro e y1 ⟨q4, c4, M3, rfl, hBy3, hQ4, hy1⟩; have Y1 := ((Ext.refl _).alloc _).trans hy1; clear s7; obtain ⟨s8, -⟩ := (hBw.ext Y1).walk; have sl8 := (hBw.ext Y1).lt; replace hBy3 := Lib.hid hBy3)
        | (go_at_call 21; (with_reducible refine Calls.mono (hb4.out _ Y1) ?_); rintro e y2 ⟨q5, c5, M4, rfl, hBy4, hQ5, hy2⟩; have heq := byH_uniq hBy3.out hBy4; subst heq; have Y2 := Y1.trans hy2; have hl8 := hwn.out _ hBy4; replace hBy4 := Lib.hid hBy4)
        | (go_at_call 18; (with_reducible refine Calls.mono (eqSta_any q4 q5 _ c4 c5 _ _ (hQ4.ext hy2) hQ5 (by omega)) ?_); rintro e y3 ⟨rfl, hy3⟩; have Y3 := Y2.trans hy3; have E11 := hEw.trans Y3)
        | (go_at_call 26; refine (ready_any B _ (by exact ht.ext E11)).mono ?_; rintro e wz ⟨rfl, hzz⟩))
      go_ret
      exact ⟨rfl, E11.trans hzz⟩
end Go.Proofs.YtfbegdcmnfkhgaaGreatDoor
