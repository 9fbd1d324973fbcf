/- How many singers are lacking, by the program: the greatest need of a set of parts. Conditions: the choir lies in memory. -/
import Derived.Test.YtdehmioobkneiaaGreatDoorVsGiD
import Derived.Deep.OwnRows
set_option linter.unusedSimpArgs false
set_option linter.unusedVariables false
namespace Go.Proofs.YtdehmioobkneiaaGreatDoor
open Go Go.RowKit

theorem needN_le {P : List PartV} (h : ∀ x ∈ P, 0 ≤ x.least ∧ x.least ≤ 1000) (X : Nat → Bool) : ∀ k, k ≤ P.length → needN (lstP P) X k ≤ 1000 * k
  | 0, _ => Nat.le_refl _
  | k + 1, hk => by
    have ih := needN_le h X k (by omega)
    obtain ⟨x, hx⟩ := getD_some (rfl : P.length = P.length) (show k < P.length by omega)
    have := h x (List.mem_of_getElem? hx)
    have e := lstP_at hx
    simp only [needN]
    split <;> omega
set_option maxRecDepth 100000 in
theorem together_any (p : Option Addr) (c : Nat) (P : List PartV) (w : World) (h : Slc 5 partC w p P.length c P) (hn : P.length ≤ 12) (hs : ∀ x ∈ P, 0 ≤ x.least ∧ x.least ≤ 1000) :
    Calls Tryz.prog 102 #[.slice p P.length c] w fun e w' => e = .returned (.int .i64 (needN (lstP P) (fun _ => true) P.length)) ∧ Ext w w' := by
  obtain ⟨-, hP⟩ := slcC h
  go_enter Tryz.func102, Tryz.ntmps102
  go_wp2
  go_loopw [8, 3] (fun v8 v3 wr => ∃ k : Nat, v8 = .int .i64 k ∧ k ≤ P.length ∧ v3 = .int .i64 (needN (lstP P) (fun _ => true) k) ∧ Ext w wr) (fun v8 _ _ => P.length - (intOf v8).toNat)
  case atStart => exact ⟨0, rfl, Nat.zero_le _, rfl, Ext.refl _⟩
  case round =>
    obtain ⟨k, rfl, hk, rfl, hE⟩ := hrel
    by_cases hlt : k < P.length
    · obtain ⟨x, hx⟩ := getD_some (rfl : P.length = P.length) hlt
      rcases hP with ⟨_, rfl⟩ | ⟨b, off, rfl, hb, hEl⟩
      · cases hx
      obtain ⟨c0, c1, c2, c3, c4⟩ := (hEl.ext hE hb).part hx
      have hxb := hs x (List.mem_of_getElem? hx)
      have hle := needN_le hs (fun _ => true) k hk
      have hnx : (needN (lstP P) (fun _ => true) (k + 1) : Int) = needN (lstP P) (fun _ => true) k + x.least := by
        have e := lstP_at hx
        simp only [needN, if_true]
        omega
      have hbw := Nat.lt_of_lt_of_le hb hE.size
      have hkI : (k : Int) < P.length := by omega
      have hE2 := hE.trans ((Ext.refl wr).alloc (.cells #[.string x.name, .int .i64 x.lo, .int .i64 x.hi, .int .i64 x.least, .int .i64 x.most] 46))
      generalize needN (lstP P) (fun _ => true) k = s at *
      replace hnx := Lib.hid hnx
      replace hx := Lib.hid hx
      clear hEl
      go_wp2
      go_roundw
      case rel => exact ⟨k + 1, by go_num, by omega, by rw [hnx.out], hE2⟩
      case measure => simp [intOf]; omega
    · obtain rfl : k = P.length := by omega
      go_wp2
      go_ret
      exact ⟨rfl, hE⟩

theorem made_bools (n : Nat) : madeCells #[Value.bool false] n = boolsV (List.replicate n false) := by
  unfold madeCells boolsV
  refine Array.toList_inj.1 ?_
  refine List.ext_getElem? fun j => ?_
  simp only [Array.toList_map, Array.toList_range, List.getElem?_map, List.getElem?_replicate]
  by_cases hj : j < n
  · rw [List.getElem?_range hj, if_pos hj]
    simp [Nat.mod_one]
  · rw [List.getElem?_eq_none (by simp; omega), if_neg hj]
    rfl
theorem boolInfo : (Tryz.prog.info? 4).map (fun i => (i.zero, i.size, i.bytes)) = some (some (.bool false), 1, 1) := by kernel_rfl
set_option maxRecDepth 100000 in
set_option maxHeartbeats 3200000 in
theorem lacking_any {w : World} {cb : Nat} {P : List PartV} {pp : Option Addr} {pc : Nat} {C : List (List Int)} {sp : Option Addr} {sc : Nat} {cp : Option Addr} {cc : Nat} (hC : ChoirM w cb P pp pc C sp sc cp cc) :
    Calls Tryz.prog 60 #[.pointer (some ⟨cb, 0, none⟩)] w fun e w' => e = .returned (.int .i64 (lackF (canC C) (lstP P) P.length C.length)) ∧ Ext w w' := by
  obtain ⟨i0, hi, hz0, hz1, hz2⟩ := info_parts intsInfo
  obtain ⟨i1, hi1, hy0, hy1, hy2⟩ := info_parts boolInfo
  have hnP := hC.nP
  have hnC := hC.nC
  have htg := together_any pp pc P
  obtain ⟨z1, -⟩ := hC.blk.walk
  have hcl := hC.blk.lt
  replace hi := Lib.hid hi
  replace hz0 := Lib.hid hz0
  replace hz1 := Lib.hid hz1
  replace hz2 := Lib.hid hz2
  replace hi1 := Lib.hid hi1
  replace hy0 := Lib.hid hy0
  replace hy1 := Lib.hid hy1
  replace hy2 := Lib.hid hy2
  replace hC := Lib.hid hC
  go_enter Tryz.func60, Tryz.ntmps60
  go_upto_region 2 with (refine wpList_make_full _ rfl _ _ 82 rfl w.heap.size 22 i0 (.slice none 0 0) 1 Tryz.underlying82 hi.out hz0.out hz1.out .i64 .i64 P.length P.length P.length rfl rfl rfl rfl (by rw [hz2.out]; omega) (by unfold maxLen; omega) (Nat.le_refl _) ?_; intro w1 hown1 hg1)
  have hE1 : Ext w w1 := (Ext.refl w).grown hg1 (fun j hj => by cases hj)
  have hO1 : OutI w w1 w.heap.size (List.replicate P.length []) (List.replicate P.length (.slice none 0 0)) := OutI.made hE1 (Nat.le_refl _) hown1
  have hM2 : GivM w (w1.alloc (.cells #[.pointer (some ⟨cb, 0, none⟩), .slice (some ⟨w.heap.size, 0, none⟩) P.length P.length] 164)) cb w1.heap.size w.heap.size (List.replicate P.length []) (List.replicate P.length (.slice none 0 0)) :=
    ⟨hE1.size, by rw [List.length_replicate]; exact Blk.new' rfl, hO1.more ((Ext.refl _).alloc _)⟩
  clear hown1 hg1 hE1 hO1 z1
  generalize w1.alloc (.cells #[.pointer (some ⟨cb, 0, none⟩), .slice (some ⟨w.heap.size, 0, none⟩) P.length P.length] 164) = W2 at *
  generalize w1.heap.size = gb at *
  have hC2 := hC.out.ext hM2.out.ext
  have htg2 := htg W2 hC2.par hnP hC2.need
  obtain ⟨z1, -⟩ := hC2.blk.walk
  replace htg2 := Lib.hid htg2
  replace hM2 := Lib.hid hM2
  clear hC2 htg
  go_upto_region 3 with (go_at_call 102; (with_reducible refine Calls.mono htg2.out ?_); rintro e w3 ⟨rfl, hb3⟩)
  have hM3 := hM2.out.more hb3
  have htot := needN_le (hC.out.need) (fun _ => true) P.length (Nat.le_refl _)
  have hC3 := hC.out.ext hM3.out.ext
  clear hM2 htg2 hb3 z1
  obtain ⟨z1, -⟩ := hC3.blk.walk
  obtain ⟨tot, htt⟩ : ∃ t, needN (lstP P) (fun _ => true) P.length = t := ⟨_, rfl⟩
  rw [htt] at htot ⊢
  replace htt := Lib.hid htt
  replace hM3 := Lib.hid hM3
  clear hC3
  go_wp2
  go_loopw [25, 4] (fun v25 v4 wr => ∃ (i : Nat) (G : List (List Nat)) (vs : List Value) (T : Nat → Prop), v25 = .int .i64 i ∧ i ≤ C.length ∧ v4 = .int .i64 ((tot : Int) - (G.flatten.length : Int)) ∧ G.flatten.length ≤ 200 ∧ LackInv (canC C) (lstP P) P.length i G T ∧ GivM w wr cb gb w.heap.size G vs) (fun v25 _ _ => C.length - (intOf v25).toNat)
  case atStart => exact ⟨0, _, _, _, rfl, Nat.zero_le _, by simp, by simp, LackInv.start, hM3.out⟩
  case round =>
    clear hM3 z1
    obtain ⟨i, G, vs, T, rfl, hi2, rfl, hfl, hinv, hM⟩ := hrel
    have hCr := hC.out.ext hM.out.ext
    obtain ⟨z1, -⟩ := hCr.blk.walk
    by_cases hlt : i < C.length
    · have hM2 := hM.more ((Ext.refl wr).alloc (.cells (madeCells #[.bool false] P.length) 4))
      have hB2 : Blk (wr.alloc (.cells (madeCells #[.bool false] P.length) 4)) wr.heap.size 4 (boolsV (List.replicate P.length false)) := (Blk.new' rfl).cast (made_bools _)
      have hgv := give_any hC.out gb w.heap.size wr.heap.size hM.out.ext.size (unseen (List.replicate P.length false) + 1) i G (List.replicate P.length false) vs _ (Nat.lt_succ_self _) hlt hinv.rows (fun s hs => Nat.lt_trans (hinv.lt s hs) hlt) (by simp) hM2 hB2
      have hiI : (i : Int) < C.length := by omega
      replace hgv := Lib.hid hgv
      replace hinv := Lib.hid hinv
      clear hM hM2 hB2 hCr
      generalize hfn : G.flatten.length = fl at *
      replace hfn := Lib.hid hfn
      go_upto_if 36 with (first
        | (refine wpList_make_row _ rfl _ _ 167 rfl 4 i1 (.bool false) Tryz.underlying167 hi1.out hy0.out hy1.out rfl .i64 .i64 P.length rfl rfl (by rw [hy2.out]; omega) (by omega) ?_)
        | (go_at_call 103; (with_reducible refine Calls.mono hgv.out ?_); rintro e w8 ⟨bb, G', S', vs', rfl, hOK, -, hM8, -⟩))
      obtain ⟨T', hinv2, hlen⟩ := hinv.out.next hOK
      replace hinv2 := Lib.hid hinv2
      replace hM8 := Lib.hid hM8
      rw [hfn.out] at hlen
      have hfi : G'.flatten.length ≤ C.length := by
        have h5 := nodup_le (b := List.range C.length) hinv2.out.nodup fun s hs => List.mem_range.2 (by have := hinv2.out.lt s hs; omega)
        simpa using h5
      clear hOK hgv hinv
      cases bb
      · have hlen2 : G'.flatten.length = fl := by simpa using hlen
        replace hlen2 := Lib.hid hlen2
        clear hlen
        go_wp2
        go_roundw
        case rel => exact ⟨i + 1, G', vs', T', by go_num, by omega, by rw [hlen2.out], by omega, hinv2.out, hM8.out⟩
        case measure => simp [intOf]; omega
      · have hlen2 : G'.flatten.length = fl + 1 := by simpa using hlen
        have hsub : (tot : Int) - ((fl + 1 : Nat) : Int) = (tot : Int) - (fl : Int) - 1 := by omega
        replace hlen2 := Lib.hid hlen2
        replace hsub := Lib.hid hsub
        clear hlen
        go_wp2
        go_roundw
        case rel => exact ⟨i + 1, G', vs', T', by go_num, by omega, by rw [hlen2.out, hsub.out], by omega, hinv2.out, hM8.out⟩
        case measure => simp [intOf]; omega
    · obtain rfl : i = C.length := by omega
      have hd := hinv.done
      rw [htt.out] at hd
      have hEf := hM.out.ext
      replace hd := Lib.hid hd
      clear hM hinv
      go_wp2
      go_ret
      exact ⟨ret_int hd.out.symm, hEf⟩
end Go.Proofs.YtdehmioobkneiaaGreatDoor
