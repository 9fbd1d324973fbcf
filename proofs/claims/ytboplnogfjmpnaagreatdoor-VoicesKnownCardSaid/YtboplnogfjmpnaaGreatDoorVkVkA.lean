/- What is wrong with voices, however many there are, by the document's text. Conditions: sizes. -/
import Derived.Test.YtboplnogfjmpnaaGreatDoorVkVoE
import Derived.Test.YtboplnogfjmpnaaGreatDoorVkAppL
set_option linter.unusedSimpArgs false
set_option linter.unusedVariables false
namespace Go.Proofs.YtboplnogfjmpnaaGreatDoor
open Go Go.RowKit

theorem cb_ltV : ∀ {a b : List UInt8}, Lib.compareBytes a b = -1 → a < b
  | [], [], h => by cases h
  | [], _ :: _, _ => by simp
  | _ :: _, [], h => by cases h
  | a :: x, b :: y, h => by
    unfold Lib.compareBytes at h
    rw [List.cons_lt_cons_iff]
    by_cases h1 : a < b
    · exact .inl h1
    · rw [if_neg h1] at h
      by_cases h2 : b < a
      · rw [if_pos h2] at h; cases h
      · rw [if_neg h2] at h
        exact .inr ⟨u8_tri h1 h2, cb_ltV h⟩
theorem cmpS_leV {a b : ByteArray} (h : cmpS a b = -1) : a.data.toList ≤ b.data.toList ∧ a ≠ b :=
  ⟨List.le_of_lt (cb_ltV h), fun e => by subst e; rw [cmpS_refl] at h; cases h⟩
theorem beq_nm {a b : ByteArray} : (a.toList == b.toList) = true ↔ a = b := by
  rw [beq_iff_eq, Lib.toList_data, Lib.toList_data]
  exact ⟨fun e => by cases a; cases b; simp only at e; congr 1; exact Array.toList_inj.1 e, fun e => by rw [e]⟩
/-- The names of voices in order, each once. -/
def chgVo (xs : List VoiceV) : Nat → List ByteArray
  | 0 => []
  | k + 1 => if newVo xs k then chgVo xs k ++ [(atL default xs k).name] else chgVo xs k
theorem chgVo_len (xs : List VoiceV) : ∀ k, (chgVo xs k).length = manyVo xs k
  | 0 => rfl
  | k + 1 => by
    have ih := chgVo_len xs k
    show (if newVo xs k then chgVo xs k ++ [(atL default xs k).name] else chgVo xs k).length = if newVo xs k then manyVo xs k + 1 else manyVo xs k
    split
    · rw [List.length_append, ih]; rfl
    · exact ih
theorem voi_step {xs : List VoiceV} {j : Nat} (hj : j + 1 < xs.length) (hz : chkVoi xs (j + 1) = 0) : cmpS (atL default xs j).name (atL default xs (j + 1)).name = -1 ∨ (atL default xs j).name = (atL default xs (j + 1)).name := by
  unfold chkVoi at hz
  split at hz
  · split at hz
    · split at hz
      · cases hz
      · rename_i h
        simp only [Nat.add_sub_cancel, Bool.and_eq_true, decide_eq_true_eq, not_and] at h
        have h1 := h (by omega)
        rcases cmpS_three (atL default xs j).name (atL default xs (j + 1)).name with e | e | e
        · exact .inl e
        · exact .inr (cmpS_zero e)
        · exfalso
          apply h1
          unfold voiO orF
          rw [e, if_neg (by decide)]
          decide
    · cases hz
  · cases hz
theorem chgVo_inv {xs : List VoiceV} : ∀ k, k ≤ xs.length → Zeros (chkVoi xs) k → RiseN (chgVo xs k) ∧ (∀ p, p ∈ chgVo xs k ↔ p ∈ (xs.take k).map VoiceV.name) ∧ ∀ p ∈ chgVo xs k, 0 < k ∧ p.data.toList ≤ (atL default xs (k - 1)).name.data.toList
  | 0, _, _ => ⟨List.Pairwise.nil, fun p => by simp [chgVo], fun p hp => by cases hp⟩
  | k + 1, hk, hz => by
    obtain ⟨i1, i2, i3⟩ := chgVo_inv k (by omega) fun j hj => hz j (by omega)
    obtain ⟨x, hx⟩ := getD_some (rfl : xs.length = xs.length) (show k < xs.length by omega)
    have hak : atL default xs k = x := atL_of hx
    have htk : (xs.take (k + 1)).map VoiceV.name = (xs.take k).map VoiceV.name ++ [x.name] := by
      obtain ⟨h1, h2⟩ := List.getElem?_eq_some_iff.1 hx
      rw [List.take_succ_eq_append_getElem h1, h2, List.map_append]; rfl
    have hle : ∀ p ∈ chgVo xs k, p.data.toList ≤ x.name.data.toList ∧ (newVo xs k = true → p ≠ x.name) := fun p hp => by
      obtain ⟨h0, h1⟩ := i3 p hp
      obtain ⟨j, rfl⟩ : ∃ j, k = j + 1 := ⟨k - 1, by omega⟩
      rw [Nat.add_sub_cancel] at h1
      have hs := voi_step (by omega) (hz (j + 1) (by omega))
      rw [hak] at hs
      rcases hs with hs | hs
      · have h2 := cmpS_leV hs
        refine ⟨List.le_trans h1 h2.1, fun _ e => h2.2 ?_⟩
        rw [e] at h1
        have h3 := List.le_antisymm h2.1 h1
        rw [← unB_of (atL default xs j).name, h3, unB_of]
      · refine ⟨hs ▸ h1, fun hn => ?_⟩
        unfold newVo at hn
        rw [Nat.add_sub_cancel, hak, hs] at hn
        simp at hn
    show RiseN (if newVo xs k then chgVo xs k ++ [(atL default xs k).name] else chgVo xs k) ∧ (∀ p, p ∈ (if newVo xs k then chgVo xs k ++ [(atL default xs k).name] else chgVo xs k) ↔ _) ∧ ∀ p ∈ (if newVo xs k then chgVo xs k ++ [(atL default xs k).name] else chgVo xs k), _
    rw [hak, htk, Nat.add_sub_cancel, hak]
    cases hn : newVo xs k
    · simp only [Bool.false_eq_true, if_false]
      obtain ⟨j, rfl⟩ : ∃ j, k = j + 1 := ⟨k - 1, by
        rcases Nat.eq_zero_or_pos k with h | h
        · subst h; unfold newVo at hn; simp at hn
        · omega⟩
      have hsame : x.name = (atL default xs j).name := by
        unfold newVo at hn
        rw [Nat.add_sub_cancel, hak] at hn
        simp only [Bool.or_eq_false_iff, Bool.not_eq_false'] at hn
        exact beq_nm.1 hn.2
      refine ⟨i1, fun p => ?_, fun p hp => ⟨by omega, (hle p hp).1⟩⟩
      rw [i2, List.mem_append, List.mem_singleton]
      constructor
      · exact fun h => .inl h
      · rintro (h | h)
        · exact h
        · rw [h, hsame]
          obtain ⟨y, hy⟩ := getD_some (rfl : xs.length = xs.length) (show j < xs.length by omega)
          rw [atL_of hy]
          refine List.mem_map.2 ⟨y, List.mem_of_getElem? (i := j) ?_, rfl⟩
          rw [List.getElem?_take_of_lt (by omega)]
          exact hy
    · simp only [if_true]
      refine ⟨?_, fun p => ?_, fun p hp => ⟨by omega, ?_⟩⟩
      · unfold RiseN
        rw [List.pairwise_append]
        exact ⟨i1, List.pairwise_singleton _ _, fun a ha b hb => by
          rw [List.mem_singleton] at hb
          subst hb
          exact ⟨(hle a ha).1, (hle a ha).2 hn⟩⟩
      · rw [List.mem_append, List.mem_append, i2]
      · rcases List.mem_append.1 hp with h | h
        · exact (hle p h).1
        · rw [List.mem_singleton.1 h]
          exact List.le_refl _
theorem voicesG_once {xs : List VoiceV} (hn : ¬ 1000 < xs.length) (hz : Zeros (chkVoi xs) xs.length) : voicesG xs = if 200 < (onceL (xs.map VoiceV.name)).length then 2 else 0 := by
  obtain ⟨h1, h2, -⟩ := chgVo_inv xs.length (Nat.le_refl _) hz
  have e : chgVo xs xs.length = onceL (xs.map VoiceV.name) := rise_uniq h1 (onceL_rise _) fun p => by rw [h2, onceL_mem, List.take_length]
  unfold voicesG
  rw [if_neg hn, scan_zero hz, if_pos rfl, ← chgVo_len, e]
theorem voicesG_bad {xs : List VoiceV} {n k : Nat} {v : Int} (hl : xs.length = n) (hbig : ¬ 1000 < n) (hk : k < n) (hz : Zeros (chkVoi xs) k) (hv : chkVoi xs k = v) (h0 : v ≠ 0) : v = voicesG xs := by
  have hs := scan_is hz hk hv h0
  unfold voicesG
  rw [hl, if_neg hbig, if_neg (by rw [← hs]; exact h0)]
  exact hs

set_option maxRecDepth 100000 in
set_option maxHeartbeats 6400000 in
theorem voicesFaultG_any (p : Option Addr) (n c : Nat) (xs : List VoiceV) (w : World) (h : Sl 4 voiC w p n xs) (hs : ∀ x ∈ xs, x.Wide) (hn : n ≤ 1000000000) :
    Calls Tryz.prog 14 #[.slice p n c] w fun e w' => e = .returned (.int .i64 (voicesG xs)) ∧ Ext w w' := by
  have hl := h.1
  have hl0 := hl
  by_cases hbig : 1000 < n
  · have hF : voicesG xs = 2 := by unfold voicesG; rw [hl, if_pos hbig]
    rw [hF]
    clear h hl hl0 hs hF
    go_enter Tryz.func14, Tryz.ntmps14
    go_wp2
    go_ret
    exact ⟨rfl, Ext.refl _⟩
  have hF := fun (k : Nat) (v : Int) (hk : k < n) (hz : Zeros (chkVoi xs) k) (hv : chkVoi xs k = v) (h0 : v ≠ 0) => voicesG_bad hl0 hbig hk hz hv h0
  have hd : decide (1000 < (n : Int)) = false := by simp; omega
  replace hF := Lib.hid hF
  replace hl0 := Lib.hid hl0
  go_enter Tryz.func14, Tryz.ntmps14
  go_wp2
  go_loopw [3, 11] (fun v3 v11 wr => ∃ (k : Nat) (v : Value) (T : List ByteArray), k ≤ n ∧ v11 = .int .i64 k ∧ v3 = v ∧ T = (xs.take k).map VoiceV.name ∧ T.length = k ∧ wr.ownsRow w.heap.size 9 1 v k (T.flatMap strC) ∧ Zeros (chkVoi xs) k ∧ Ext w wr) (fun _ v11 _ => n - (intOf v11).toNat)
  case atStart => exact ⟨0, _, [], Nat.zero_le _, rfl, rfl, by simp, rfl, World.ownsRow_nil _ _ _ _, (fun j hj => by omega), Ext.refl _⟩
  case round =>
    obtain ⟨k, v, T, hk, rfl, rfl, hTn, hTl, hown, hz, he⟩ := hrel
    replace hTn := Lib.hid hTn
    by_cases hlt : k < n
    · obtain ⟨b, off, rfl, hb, hE⟩ := h.2.2 (by omega)
      obtain ⟨x, hx⟩ := getD_some hl hlt
      have hbw := Nat.lt_of_lt_of_le hb he.size
      have hTs : T ++ [x.name] = (xs.take (k + 1)).map VoiceV.name := by rw [hTn.out, take_snocL hx, List.map_append]; rfl
      replace hTs := Lib.hid hTs
      obtain ⟨c0, c1, c2, c3⟩ := (hE.ext he hb).voi hx
      obtain ⟨s1, ⟨s2, s3⟩, ⟨s4, s5⟩, ⟨s6, s7⟩⟩ := hs x (List.mem_of_getElem? hx)
      have hprev : ∀ j y, k = j + 1 → xs[j]? = some y → True ∧ wr.cell? ⟨b, off + j * 4, none⟩ = some (.string y.name) ∧ wr.cell? ⟨b, off + j * 4 + 1, none⟩ = some (.int .i64 y.fr) := fun j y _ hy => ⟨trivial, ((hE.ext he hb).voi hy).1, ((hE.ext he hb).voi hy).2.1⟩
      have hv : chkVoi xs k = if keyB x.name then (if momB x.fr && rightR x.lo x.hi then (if 0 < k && decide (0 ≤ voiO (atL default xs (k - 1)) x) then 7 else 0) else 1) else 5 := by
        unfold chkVoi; rw [atL_of hx]
      have hX := Blk.new' (w := wr) (t := 37) (cs := #[.string x.name, .int .i64 x.fr, .int .i64 x.lo, .int .i64 x.hi]) rfl
      have he0 : Ext wr (wr.alloc (.cells #[.string x.name, .int .i64 x.fr, .int .i64 x.lo, .int .i64 x.hi] 37)) := (Ext.refl _).alloc _
      have hkI : (k : Int) < n := by omega
      have ho0 := own_ext he0 hown
      have hsz := he.size
      replace hprev := Lib.hid hprev
      replace hX := Lib.hid hX
      replace hx := Lib.hid hx
      replace hv := Lib.hid hv
      replace hs := Lib.hid hs
      replace hTl := Lib.hid hTl
      clear hE hown
      cases hk1 : keyB x.name
      · replace ho0 := Lib.hid ho0
        go_wp2_with (go_at_call 45; (with_reducible refine Calls.mono (key_is hk1 (by omega) _) ?_); rintro e w1 ⟨rfl, hb1⟩)
        go_ret
        exact ⟨ret_int (by exact (hF.out _ _ hlt hz (by rw [hv.out, hk1]; rfl) (by decide))), (he.trans he0).trans hb1⟩
      cases hk2 : momB x.fr
      · replace ho0 := Lib.hid ho0
        have hm := fun u => momF_any x.fr u
        simp only [hk2, Bool.false_eq_true, if_false] at hm
        replace hm := Lib.hid hm
        go_wp2_with (first
          | (go_at_call 45; (with_reducible refine Calls.mono (key_is hk1 (by omega) _) ?_); rintro e w1 ⟨rfl, hb1⟩; obtain ⟨p1, q1⟩ := (hX.out.ext hb1).walk; have lt1 := (hX.out.ext hb1).lt)
          | (go_at_call 21; (with_reducible refine Calls.mono (hm.out _) ?_); rintro e w2 ⟨rfl, hb2⟩))
        go_ret
        exact ⟨ret_int (by exact (hF.out _ _ hlt hz (by rw [hv.out, hk1, hk2]; rfl) (by decide))), ((he.trans he0).trans hb1).trans hb2⟩
      have hm := fun u => momF_any x.fr u
      simp only [hk2, if_true] at hm
      replace hm := Lib.hid hm
      cases hk3 : rightR x.lo x.hi
      · replace ho0 := Lib.hid ho0
        go_wp2_with (first
          | (go_at_call 45; (with_reducible refine Calls.mono (key_is hk1 (by omega) _) ?_); rintro e w1 ⟨rfl, hb1⟩; obtain ⟨p1, q1⟩ := (hX.out.ext hb1).walk; have lt1 := (hX.out.ext hb1).lt)
          | (go_at_call 21; (with_reducible refine Calls.mono (hm.out _) ?_); rintro e w2 ⟨rfl, hb2⟩; clear p1 q1; obtain ⟨p2, q2⟩ := ((hX.out.ext hb1).ext hb2).walk; have lt2 := ((hX.out.ext hb1).ext hb2).lt)
          | (go_at_call 46; (with_reducible refine Calls.mono (rangeRight_any x.lo x.hi _) ?_); rintro e w3 ⟨rfl, hb3⟩; rw [hk3]))
        go_ret
        exact ⟨ret_int (by exact (hF.out _ _ hlt hz (by rw [hv.out, hk1, hk2, hk3]; rfl) (by decide))), (((he.trans he0).trans hb1).trans hb2).trans hb3⟩
      replace ho0 := Lib.hid ho0
      go_upto_region 11 with (first
        | (go_at_call 45; (with_reducible refine Calls.mono (key_is hk1 (by omega) _) ?_); rintro e w1 ⟨rfl, hb1⟩; obtain ⟨p1, q1⟩ := (hX.out.ext hb1).walk; have lt1 := (hX.out.ext hb1).lt)
        | (go_at_call 21; (with_reducible refine Calls.mono (hm.out _) ?_); rintro e w2 ⟨rfl, hb2⟩; clear p1 q1; obtain ⟨p2, q2⟩ := ((hX.out.ext hb1).ext hb2).walk; have lt2 := ((hX.out.ext hb1).ext hb2).lt)
        | (go_at_call 46; (with_reducible refine Calls.mono (rangeRight_any x.lo x.hi _) ?_); rintro e w3 ⟨rfl, hb3⟩; rw [hk3]))
      have hX2 := ((hX.out.ext hb1).ext hb2).ext hb3
      have he2 : Ext wr w3 := ((he0.trans hb1).trans hb2).trans hb3
      have ho2 := own_ext ((hb1.trans hb2).trans hb3) ho0.out
      replace ho2 := Lib.hid ho2
      clear hX p2 q2 lt2 hb1 hb2 hb3 he0 c0 c1 c2 c3 ho0 hm
      rcases Nat.eq_zero_or_pos k with hk0 | hk0
      · subst hk0
        have hz0 : ((0 : Nat) : Int) = 0 := rfl
        refine wp_region_facts [] [([], false, false), ([0], false, false), ([0, 1], false, false), ([0, 1, 2], false, false), ([0, 1, 2], false, false), ([0, 1, 2, 4], false, false), ([0, 1, 2, 3, 4, 5], false, false), ([0, 1, 2, 3, 4, 5, 6], false, false), ([0, 1, 2, 3, 4, 5, 6, 7], false, false), ([0, 1, 2], false, false), ([0, 1, 2, 9], false, false), ([0, 1, 2, 3, 4, 5, 6, 7, 8, 9, 10], false, false), ([0, 1, 2], false, false), ([0, 1, 2], false, false), ([0, 1, 2, 13], false, false), ([0, 1, 2, 12, 13, 14], false, false), ([0, 1, 2, 12, 13, 14, 15], false, false), ([0, 1, 2, 12, 13, 14, 15, 16], false, false), ([0, 1, 2], false, false), ([0, 1, 2, 18], false, false), ([0, 1, 2, 12, 13, 14, 15, 16, 17, 18, 19], false, false), ([0, 1, 2, 3, 4, 5, 6, 7, 8, 9, 10, 11, 12, 13, 14, 15, 16, 17, 18, 19, 20], false, false), ([0, 1, 2, 3, 4, 5, 6, 7, 8, 9, 10, 11, 12, 13, 14, 15, 16, 17, 18, 19, 20, 21], false, false), ([0, 1, 2, 3, 4, 5, 6, 7, 8, 9, 10, 11, 12, 13, 14, 15, 16, 17, 18, 19, 20, 21, 22], false, false), ([0, 1, 2, 3, 4, 5, 6, 7, 8, 9, 10, 11, 12, 13, 14, 15, 16, 17, 18, 19, 20, 21, 22, 23], false, false), ([0, 1, 2, 3, 4, 5, 6, 7, 8, 9, 10, 11, 12, 13, 14, 15, 16, 17, 18, 19, 20, 21, 22, 23, 24], false, false)] (Ext) Ext (fun _ => True) (by kernel_rfl) (by kernel_rfl) Ext.refl (fun _ _ _ => Ext.trans) (fun _ _ h => h) (fun _ _ h => h.size) (fun _ _ h _ => h) trivial ?_
        dsimp only [List.length_cons, List.length_nil, List.drop_succ_cons, List.drop_zero, List.drop_nil]
        refine fac_quiet 0 rfl rfl rfl (fun _ _ h _ => h) rfl rfl ?_
        apply Exists.intro
        refine ⟨fun sv w' hw' hfa => ?_, ?_⟩
        · refine ⟨rfl, ?_⟩
          simp only [putsL]
          change quietTo _ _ _ _ (Sem.run _ (execOp (Act.eval _) _) _)
          try simp only [Act.put, List.setIfInBounds_toArray, List.set_cons_succ, List.set_cons_zero]
          simp [go_sem, quietTo, Ext.refl]
          all_goals first
            | rfl
        refine fac_quiet 1 rfl rfl rfl (fun _ _ h _ => h) rfl rfl ?_
        apply Exists.intro
        refine ⟨fun sv w' hw' hfa => ?_, ?_⟩
        · obtain ⟨f0, -⟩ := hfa
          replace f0 : sv 0 = _ := f0
          try dsimp only at f0
          refine ⟨rfl, ?_⟩
          simp only [putsL]
          change quietTo _ _ _ _ (Sem.run _ (execOp (Act.eval (Act.put _ (some 33) (sv 0))) _) _)
          try simp only [Act.put, List.setIfInBounds_toArray, List.set_cons_succ, List.set_cons_zero]
          simp [go_sem, quietTo, Ext.refl, ↓IntWalk.iteOmega, f0, hz0]
          all_goals try simp (disch := omega) only [IntWalk.i64_in]
          all_goals first
            | rfl
        refine fac_quiet 2 rfl rfl rfl (fun _ _ h _ => h) rfl rfl ?_
        apply Exists.intro
        refine ⟨fun sv w' hw' hfa => ?_, ?_⟩
        · obtain ⟨_, f1, -⟩ := hfa
          replace f1 : sv 1 = _ := f1
          try dsimp only at f1
          refine ⟨rfl, ?_⟩
          simp only [putsL]
          change quietTo _ _ _ _ (Sem.run _ (execOp (Act.eval (Act.put (Act.put _ (some 34) (sv 1)) (some 33) (sv 0))) _) _)
          try simp only [Act.put, List.setIfInBounds_toArray, List.set_cons_succ, List.set_cons_zero]
          simp [go_sem, quietTo, Ext.refl, f1]
          all_goals first
            | rfl
        refine fac_skip 3 rfl rfl rfl (fun _ _ h _ => h) Ext.refl ?_ ?_
        · intro sv w' hw' hfa
          obtain ⟨f0, f1, f2, -⟩ := hfa
          replace f0 : sv 0 = _ := f0
          try dsimp only at f0
          replace f1 : sv 1 = _ := f1
          try dsimp only at f1
          replace f2 : sv 2 = _ := f2
          try dsimp only at f2
          simp [Region.wanted, yielded, putsL, Act.put, f2]
        refine fac_skip 4 rfl rfl rfl (fun _ _ h _ => h) Ext.refl ?_ ?_
        · intro sv w' hw' hfa
          obtain ⟨f0, f1, f2, -⟩ := hfa
          replace f0 : sv 0 = _ := f0
          try dsimp only at f0
          replace f1 : sv 1 = _ := f1
          try dsimp only at f1
          replace f2 : sv 2 = _ := f2
          try dsimp only at f2
          simp [Region.wanted, yielded, putsL, Act.put, f2]
        refine fac_skip 5 rfl rfl rfl (fun _ _ h _ => h) Ext.refl ?_ ?_
        · intro sv w' hw' hfa
          obtain ⟨f0, f1, f2, f4, -⟩ := hfa
          replace f0 : sv 0 = _ := f0
          try dsimp only at f0
          replace f1 : sv 1 = _ := f1
          try dsimp only at f1
          replace f2 : sv 2 = _ := f2
          try dsimp only at f2
          replace f4 : sv 4 = _ := f4
          try dsimp only at f4
          simp [Region.wanted, yielded, putsL, Act.put, f2, f4]
        refine fac_skip 6 rfl rfl rfl (fun _ _ h _ => h) Ext.refl ?_ ?_
        · intro sv w' hw' hfa
          obtain ⟨f0, f1, f2, f3, f4, f5, -⟩ := hfa
          replace f0 : sv 0 = _ := f0
          try dsimp only at f0
          replace f1 : sv 1 = _ := f1
          try dsimp only at f1
          replace f2 : sv 2 = _ := f2
          try dsimp only at f2
          replace f3 : sv 3 = _ := f3
          try dsimp only at f3
          replace f4 : sv 4 = _ := f4
          try dsimp only at f4
          replace f5 : sv 5 = _ := f5
          try dsimp only at f5
          simp [Region.wanted, yielded, putsL, Act.put, f2, f3, f5]
        refine fac_skip 7 rfl rfl rfl (fun _ _ h _ => h) Ext.refl ?_ ?_
        · intro sv w' hw' hfa
          obtain ⟨f0, f1, f2, f3, f4, f5, f6, -⟩ := hfa
          replace f0 : sv 0 = _ := f0
          try dsimp only at f0
          replace f1 : sv 1 = _ := f1
          try dsimp only at f1
          replace f2 : sv 2 = _ := f2
          try dsimp only at f2
          replace f3 : sv 3 = _ := f3
          try dsimp only at f3
          replace f4 : sv 4 = _ := f4
          try dsimp only at f4
          replace f5 : sv 5 = _ := f5
          try dsimp only at f5
          replace f6 : sv 6 = _ := f6
          try dsimp only at f6
          simp [Region.wanted, yielded, putsL, Act.put, f2, f6]
        refine fac_skip 8 rfl rfl rfl (fun _ _ h _ => h) Ext.refl ?_ ?_
        · intro sv w' hw' hfa
          obtain ⟨f0, f1, f2, f3, f4, f5, f6, f7, -⟩ := hfa
          replace f0 : sv 0 = _ := f0
          try dsimp only at f0
          replace f1 : sv 1 = _ := f1
          try dsimp only at f1
          replace f2 : sv 2 = _ := f2
          try dsimp only at f2
          replace f3 : sv 3 = _ := f3
          try dsimp only at f3
          replace f4 : sv 4 = _ := f4
          try dsimp only at f4
          replace f5 : sv 5 = _ := f5
          try dsimp only at f5
          replace f6 : sv 6 = _ := f6
          try dsimp only at f6
          replace f7 : sv 7 = _ := f7
          try dsimp only at f7
          simp [Region.wanted, yielded, putsL, Act.put, f2, f7]
        refine fac_skip 9 rfl rfl rfl (fun _ _ h _ => h) Ext.refl ?_ ?_
        · intro sv w' hw' hfa
          obtain ⟨f0, f1, f2, -⟩ := hfa
          replace f0 : sv 0 = _ := f0
          try dsimp only at f0
          replace f1 : sv 1 = _ := f1
          try dsimp only at f1
          replace f2 : sv 2 = _ := f2
          try dsimp only at f2
          simp [Region.wanted, yielded, putsL, Act.put, f2]
        refine fac_skip 10 rfl rfl rfl (fun _ _ h _ => h) Ext.refl ?_ ?_
        · intro sv w' hw' hfa
          obtain ⟨f0, f1, f2, f9, -⟩ := hfa
          replace f0 : sv 0 = _ := f0
          try dsimp only at f0
          replace f1 : sv 1 = _ := f1
          try dsimp only at f1
          replace f2 : sv 2 = _ := f2
          try dsimp only at f2
          replace f9 : sv 9 = _ := f9
          try dsimp only at f9
          simp [Region.wanted, yielded, putsL, Act.put, f2, f9]
        refine fac_skip 11 rfl rfl rfl (fun _ _ h _ => h) Ext.refl ?_ ?_
        · intro sv w' hw' hfa
          obtain ⟨f0, f1, f2, f3, f4, f5, f6, f7, f8, f9, f10, -⟩ := hfa
          replace f0 : sv 0 = _ := f0
          try dsimp only at f0
          replace f1 : sv 1 = _ := f1
          try dsimp only at f1
          replace f2 : sv 2 = _ := f2
          try dsimp only at f2
          replace f3 : sv 3 = _ := f3
          try dsimp only at f3
          replace f4 : sv 4 = _ := f4
          try dsimp only at f4
          replace f5 : sv 5 = _ := f5
          try dsimp only at f5
          replace f6 : sv 6 = _ := f6
          try dsimp only at f6
          replace f7 : sv 7 = _ := f7
          try dsimp only at f7
          replace f8 : sv 8 = _ := f8
          try dsimp only at f8
          replace f9 : sv 9 = _ := f9
          try dsimp only at f9
          replace f10 : sv 10 = _ := f10
          try dsimp only at f10
          simp [Region.wanted, yielded, putsL, Act.put, f2, f8, f10]
        refine fac_skip 12 rfl rfl rfl (fun _ _ h _ => h) Ext.refl ?_ ?_
        · intro sv w' hw' hfa
          obtain ⟨f0, f1, f2, -⟩ := hfa
          replace f0 : sv 0 = _ := f0
          try dsimp only at f0
          replace f1 : sv 1 = _ := f1
          try dsimp only at f1
          replace f2 : sv 2 = _ := f2
          try dsimp only at f2
          simp [Region.wanted, yielded, putsL, Act.put, f2]
        refine fac_skip 13 rfl rfl rfl (fun _ _ h _ => h) Ext.refl ?_ ?_
        · intro sv w' hw' hfa
          obtain ⟨f0, f1, f2, -⟩ := hfa
          replace f0 : sv 0 = _ := f0
          try dsimp only at f0
          replace f1 : sv 1 = _ := f1
          try dsimp only at f1
          replace f2 : sv 2 = _ := f2
          try dsimp only at f2
          simp [Region.wanted, yielded, putsL, Act.put, f2]
        refine fac_skip 14 rfl rfl rfl (fun _ _ h _ => h) Ext.refl ?_ ?_
        · intro sv w' hw' hfa
          obtain ⟨f0, f1, f2, f13, -⟩ := hfa
          replace f0 : sv 0 = _ := f0
          try dsimp only at f0
          replace f1 : sv 1 = _ := f1
          try dsimp only at f1
          replace f2 : sv 2 = _ := f2
          try dsimp only at f2
          replace f13 : sv 13 = _ := f13
          try dsimp only at f13
          simp [Region.wanted, yielded, putsL, Act.put, f2, f13]
        refine fac_skip 15 rfl rfl rfl (fun _ _ h _ => h) Ext.refl ?_ ?_
        · intro sv w' hw' hfa
          obtain ⟨f0, f1, f2, f12, f13, f14, -⟩ := hfa
          replace f0 : sv 0 = _ := f0
          try dsimp only at f0
          replace f1 : sv 1 = _ := f1
          try dsimp only at f1
          replace f2 : sv 2 = _ := f2
          try dsimp only at f2
          replace f12 : sv 12 = _ := f12
          try dsimp only at f12
          replace f13 : sv 13 = _ := f13
          try dsimp only at f13
          replace f14 : sv 14 = _ := f14
          try dsimp only at f14
          simp [Region.wanted, yielded, putsL, Act.put, f2, f12, f14]
        refine fac_skip 16 rfl rfl rfl (fun _ _ h _ => h) Ext.refl ?_ ?_
        · intro sv w' hw' hfa
          obtain ⟨f0, f1, f2, f12, f13, f14, f15, -⟩ := hfa
          replace f0 : sv 0 = _ := f0
          try dsimp only at f0
          replace f1 : sv 1 = _ := f1
          try dsimp only at f1
          replace f2 : sv 2 = _ := f2
          try dsimp only at f2
          replace f12 : sv 12 = _ := f12
          try dsimp only at f12
          replace f13 : sv 13 = _ := f13
          try dsimp only at f13
          replace f14 : sv 14 = _ := f14
          try dsimp only at f14
          replace f15 : sv 15 = _ := f15
          try dsimp only at f15
          simp [Region.wanted, yielded, putsL, Act.put, f2, f15]
        refine fac_skip 17 rfl rfl rfl (fun _ _ h _ => h) Ext.refl ?_ ?_
        · intro sv w' hw' hfa
          obtain ⟨f0, f1, f2, f12, f13, f14, f15, f16, -⟩ := hfa
          replace f0 : sv 0 = _ := f0
          try dsimp only at f0
          replace f1 : sv 1 = _ := f1
          try dsimp only at f1
          replace f2 : sv 2 = _ := f2
          try dsimp only at f2
          replace f12 : sv 12 = _ := f12
          try dsimp only at f12
          replace f13 : sv 13 = _ := f13
          try dsimp only at f13
          replace f14 : sv 14 = _ := f14
          try dsimp only at f14
          replace f15 : sv 15 = _ := f15
          try dsimp only at f15
          replace f16 : sv 16 = _ := f16
          try dsimp only at f16
          simp [Region.wanted, yielded, putsL, Act.put, f2, f16]
        refine fac_skip 18 rfl rfl rfl (fun _ _ h _ => h) Ext.refl ?_ ?_
        · intro sv w' hw' hfa
          obtain ⟨f0, f1, f2, -⟩ := hfa
          replace f0 : sv 0 = _ := f0
          try dsimp only at f0
          replace f1 : sv 1 = _ := f1
          try dsimp only at f1
          replace f2 : sv 2 = _ := f2
          try dsimp only at f2
          simp [Region.wanted, yielded, putsL, Act.put, f2]
        refine fac_skip 19 rfl rfl rfl (fun _ _ h _ => h) Ext.refl ?_ ?_
        · intro sv w' hw' hfa
          obtain ⟨f0, f1, f2, f18, -⟩ := hfa
          replace f0 : sv 0 = _ := f0
          try dsimp only at f0
          replace f1 : sv 1 = _ := f1
          try dsimp only at f1
          replace f2 : sv 2 = _ := f2
          try dsimp only at f2
          replace f18 : sv 18 = _ := f18
          try dsimp only at f18
          simp [Region.wanted, yielded, putsL, Act.put, f2, f18]
        refine fac_skip 20 rfl rfl rfl (fun _ _ h _ => h) Ext.refl ?_ ?_
        · intro sv w' hw' hfa
          obtain ⟨f0, f1, f2, f12, f13, f14, f15, f16, f17, f18, f19, -⟩ := hfa
          replace f0 : sv 0 = _ := f0
          try dsimp only at f0
          replace f1 : sv 1 = _ := f1
          try dsimp only at f1
          replace f2 : sv 2 = _ := f2
          try dsimp only at f2
          replace f12 : sv 12 = _ := f12
          try dsimp only at f12
          replace f13 : sv 13 = _ := f13
          try dsimp only at f13
          replace f14 : sv 14 = _ := f14
          try dsimp only at f14
          replace f15 : sv 15 = _ := f15
          try dsimp only at f15
          replace f16 : sv 16 = _ := f16
          try dsimp only at f16
          replace f17 : sv 17 = _ := f17
          try dsimp only at f17
          replace f18 : sv 18 = _ := f18
          try dsimp only at f18
          replace f19 : sv 19 = _ := f19
          try dsimp only at f19
          simp [Region.wanted, yielded, putsL, Act.put, f2, f17, f19]
        refine fac_skip 21 rfl rfl rfl (fun _ _ h _ => h) Ext.refl ?_ ?_
        · intro sv w' hw' hfa
          obtain ⟨f0, f1, f2, f3, f4, f5, f6, f7, f8, f9, f10, f11, f12, f13, f14, f15, f16, f17, f18, f19, f20, -⟩ := hfa
          replace f0 : sv 0 = _ := f0
          try dsimp only at f0
          replace f1 : sv 1 = _ := f1
          try dsimp only at f1
          replace f2 : sv 2 = _ := f2
          try dsimp only at f2
          replace f3 : sv 3 = _ := f3
          try dsimp only at f3
          replace f4 : sv 4 = _ := f4
          try dsimp only at f4
          replace f5 : sv 5 = _ := f5
          try dsimp only at f5
          replace f6 : sv 6 = _ := f6
          try dsimp only at f6
          replace f7 : sv 7 = _ := f7
          try dsimp only at f7
          replace f8 : sv 8 = _ := f8
          try dsimp only at f8
          replace f9 : sv 9 = _ := f9
          try dsimp only at f9
          replace f10 : sv 10 = _ := f10
          try dsimp only at f10
          replace f11 : sv 11 = _ := f11
          try dsimp only at f11
          replace f12 : sv 12 = _ := f12
          try dsimp only at f12
          replace f13 : sv 13 = _ := f13
          try dsimp only at f13
          replace f14 : sv 14 = _ := f14
          try dsimp only at f14
          replace f15 : sv 15 = _ := f15
          try dsimp only at f15
          replace f16 : sv 16 = _ := f16
          try dsimp only at f16
          replace f17 : sv 17 = _ := f17
          try dsimp only at f17
          replace f18 : sv 18 = _ := f18
          try dsimp only at f18
          replace f19 : sv 19 = _ := f19
          try dsimp only at f19
          replace f20 : sv 20 = _ := f20
          try dsimp only at f20
          simp [Region.wanted, yielded, putsL, Act.put, f2, f11, f20]
        refine fac_skip 22 rfl rfl rfl (fun _ _ h _ => h) Ext.refl ?_ ?_
        · intro sv w' hw' hfa
          obtain ⟨f0, f1, f2, f3, f4, f5, f6, f7, f8, f9, f10, f11, f12, f13, f14, f15, f16, f17, f18, f19, f20, f21, -⟩ := hfa
          replace f0 : sv 0 = _ := f0
          try dsimp only at f0
          replace f1 : sv 1 = _ := f1
          try dsimp only at f1
          replace f2 : sv 2 = _ := f2
          try dsimp only at f2
          replace f3 : sv 3 = _ := f3
          try dsimp only at f3
          replace f4 : sv 4 = _ := f4
          try dsimp only at f4
          replace f5 : sv 5 = _ := f5
          try dsimp only at f5
          replace f6 : sv 6 = _ := f6
          try dsimp only at f6
          replace f7 : sv 7 = _ := f7
          try dsimp only at f7
          replace f8 : sv 8 = _ := f8
          try dsimp only at f8
          replace f9 : sv 9 = _ := f9
          try dsimp only at f9
          replace f10 : sv 10 = _ := f10
          try dsimp only at f10
          replace f11 : sv 11 = _ := f11
          try dsimp only at f11
          replace f12 : sv 12 = _ := f12
          try dsimp only at f12
          replace f13 : sv 13 = _ := f13
          try dsimp only at f13
          replace f14 : sv 14 = _ := f14
          try dsimp only at f14
          replace f15 : sv 15 = _ := f15
          try dsimp only at f15
          replace f16 : sv 16 = _ := f16
          try dsimp only at f16
          replace f17 : sv 17 = _ := f17
          try dsimp only at f17
          replace f18 : sv 18 = _ := f18
          try dsimp only at f18
          replace f19 : sv 19 = _ := f19
          try dsimp only at f19
          replace f20 : sv 20 = _ := f20
          try dsimp only at f20
          replace f21 : sv 21 = _ := f21
          try dsimp only at f21
          simp [Region.wanted, yielded, putsL, Act.put, f2, f21]
        refine fac_skip 23 rfl rfl rfl (fun _ _ h _ => h) Ext.refl ?_ ?_
        · intro sv w' hw' hfa
          obtain ⟨f0, f1, f2, f3, f4, f5, f6, f7, f8, f9, f10, f11, f12, f13, f14, f15, f16, f17, f18, f19, f20, f21, f22, -⟩ := hfa
          replace f0 : sv 0 = _ := f0
          try dsimp only at f0
          replace f1 : sv 1 = _ := f1
          try dsimp only at f1
          replace f2 : sv 2 = _ := f2
          try dsimp only at f2
          replace f3 : sv 3 = _ := f3
          try dsimp only at f3
          replace f4 : sv 4 = _ := f4
          try dsimp only at f4
          replace f5 : sv 5 = _ := f5
          try dsimp only at f5
          replace f6 : sv 6 = _ := f6
          try dsimp only at f6
          replace f7 : sv 7 = _ := f7
          try dsimp only at f7
          replace f8 : sv 8 = _ := f8
          try dsimp only at f8
          replace f9 : sv 9 = _ := f9
          try dsimp only at f9
          replace f10 : sv 10 = _ := f10
          try dsimp only at f10
          replace f11 : sv 11 = _ := f11
          try dsimp only at f11
          replace f12 : sv 12 = _ := f12
          try dsimp only at f12
          replace f13 : sv 13 = _ := f13
          try dsimp only at f13
          replace f14 : sv 14 = _ := f14
          try dsimp only at f14
          replace f15 : sv 15 = _ := f15
          try dsimp only at f15
          replace f16 : sv 16 = _ := f16
          try dsimp only at f16
          replace f17 : sv 17 = _ := f17
          try dsimp only at f17
          replace f18 : sv 18 = _ := f18
          try dsimp only at f18
          replace f19 : sv 19 = _ := f19
          try dsimp only at f19
          replace f20 : sv 20 = _ := f20
          try dsimp only at f20
          replace f21 : sv 21 = _ := f21
          try dsimp only at f21
          replace f22 : sv 22 = _ := f22
          try dsimp only at f22
          simp [Region.wanted, yielded, putsL, Act.put, f2, f22]
        refine fac_quiet 24 rfl rfl rfl (fun _ _ h _ => h) rfl rfl ?_
        apply Exists.intro
        refine ⟨fun sv w' hw' hfa => ?_, ?_⟩
        · obtain ⟨_, _, f2, _, _, _, _, _, _, _, _, _, _, _, _, _, _, _, _, _, _, _, _, f23, -⟩ := hfa
          replace f2 : sv 2 = _ := f2
          try dsimp only at f2
          replace f23 : sv 23 = _ := f23
          try dsimp only at f23
          refine ⟨rfl, ?_⟩
          simp only [putsL]
          change quietTo _ _ _ _ (Sem.run _ (execOp (Act.eval (Act.put (Act.put (Act.put (Act.put (Act.put (Act.put (Act.put (Act.put (Act.put (Act.put (Act.put (Act.put (Act.put (Act.put (Act.put (Act.put (Act.put (Act.put (Act.put (Act.put (Act.put (Act.put (Act.put (Act.put _ (some 56) (sv 23)) (some 55) (sv 22)) (some 54) (sv 21)) (some 53) (sv 20)) (some 52) (sv 19)) (some 51) (sv 18)) (some 50) (sv 17)) (some 49) (sv 16)) (some 48) (sv 15)) (some 47) (sv 14)) (some 46) (sv 13)) (some 45) (sv 12)) (some 44) (sv 11)) (some 43) (sv 10)) (some 42) (sv 9)) (some 41) (sv 8)) (some 40) (sv 7)) (some 39) (sv 6)) (some 38) (sv 5)) (some 37) (sv 4)) (some 36) (sv 3)) (some 35) (sv 2)) (some 34) (sv 1)) (some 33) (sv 0))) _) _)
          try simp only [Act.put, List.setIfInBounds_toArray, List.set_cons_succ, List.set_cons_zero]
          simp [go_sem, quietTo, Ext.refl, ↓IntWalk.iteOmega, f2, f23, hz0]
          all_goals try simp (disch := omega) only [IntWalk.i64_in]
          all_goals first
            | rfl
        refine fac_quiet 25 rfl rfl rfl (fun _ _ h _ => h) rfl rfl ?_
        apply Exists.intro
        refine ⟨fun sv w' hw' hfa => ?_, ?_⟩
        · obtain ⟨_, _, _, _, _, _, _, _, _, _, _, _, _, _, _, _, _, _, _, _, _, _, _, _, f24, -⟩ := hfa
          replace f24 : sv 24 = _ := f24
          try dsimp only at f24
          refine ⟨rfl, ?_⟩
          simp only [putsL]
          change quietTo _ _ _ _ (Sem.run _ (execOp (Act.eval (Act.put (Act.put (Act.put (Act.put (Act.put (Act.put (Act.put (Act.put (Act.put (Act.put (Act.put (Act.put (Act.put (Act.put (Act.put (Act.put (Act.put (Act.put (Act.put (Act.put (Act.put (Act.put (Act.put (Act.put (Act.put _ (some 57) (sv 24)) (some 56) (sv 23)) (some 55) (sv 22)) (some 54) (sv 21)) (some 53) (sv 20)) (some 52) (sv 19)) (some 51) (sv 18)) (some 50) (sv 17)) (some 49) (sv 16)) (some 48) (sv 15)) (some 47) (sv 14)) (some 46) (sv 13)) (some 45) (sv 12)) (some 44) (sv 11)) (some 43) (sv 10)) (some 42) (sv 9)) (some 41) (sv 8)) (some 40) (sv 7)) (some 39) (sv 6)) (some 38) (sv 5)) (some 37) (sv 4)) (some 36) (sv 3)) (some 35) (sv 2)) (some 34) (sv 1)) (some 33) (sv 0))) _) _)
          try simp only [Act.put, List.setIfInBounds_toArray, List.set_cons_succ, List.set_cons_zero]
          simp [go_sem, quietTo, Ext.refl, f24]
          all_goals first
            | rfl
        refine fac_nil fun xa wra hera hfra hcra holda hapa => ?_
        obtain ⟨f0, f1, f2, f3, f4, f5, f6, f7, f8, f9, f10, f11, f12, f13, f14, f15, f16, f17, f18, f19, f20, f21, f22, f23, f24, f25, -⟩ := hfra
        replace f0 : xa 0 = _ := f0
        try dsimp only at f0
        replace f1 : xa 1 = _ := f1
        try dsimp only at f1
        replace f2 : xa 2 = _ := f2
        try dsimp only at f2
        replace f3 : xa 3 = _ := f3
        try dsimp only at f3
        replace f4 : xa 4 = _ := f4
        try dsimp only at f4
        replace f5 : xa 5 = _ := f5
        try dsimp only at f5
        replace f6 : xa 6 = _ := f6
        try dsimp only at f6
        replace f7 : xa 7 = _ := f7
        try dsimp only at f7
        replace f8 : xa 8 = _ := f8
        try dsimp only at f8
        replace f9 : xa 9 = _ := f9
        try dsimp only at f9
        replace f10 : xa 10 = _ := f10
        try dsimp only at f10
        replace f11 : xa 11 = _ := f11
        try dsimp only at f11
        replace f12 : xa 12 = _ := f12
        try dsimp only at f12
        replace f13 : xa 13 = _ := f13
        try dsimp only at f13
        replace f14 : xa 14 = _ := f14
        try dsimp only at f14
        replace f15 : xa 15 = _ := f15
        try dsimp only at f15
        replace f16 : xa 16 = _ := f16
        try dsimp only at f16
        replace f17 : xa 17 = _ := f17
        try dsimp only at f17
        replace f18 : xa 18 = _ := f18
        try dsimp only at f18
        replace f19 : xa 19 = _ := f19
        try dsimp only at f19
        replace f20 : xa 20 = _ := f20
        try dsimp only at f20
        replace f21 : xa 21 = _ := f21
        try dsimp only at f21
        replace f22 : xa 22 = _ := f22
        try dsimp only at f22
        replace f23 : xa 23 = _ := f23
        try dsimp only at f23
        replace f24 : xa 24 = _ := f24
        try dsimp only at f24
        replace f25 : xa 25 = _ := f25
        try dsimp only at f25
        change wpList _ _ _ _ (Act.put (Act.put (Act.put (Act.put (Act.put (Act.put (Act.put (Act.put (Act.put (Act.put (Act.put (Act.put (Act.put (Act.put (Act.put (Act.put (Act.put (Act.put (Act.put (Act.put (Act.put (Act.put (Act.put (Act.put (Act.put (Act.put _ (some 33) (xa 0)) (some 34) (xa 1)) (some 35) (xa 2)) (some 36) (xa 3)) (some 37) (xa 4)) (some 38) (xa 5)) (some 39) (xa 6)) (some 40) (xa 7)) (some 41) (xa 8)) (some 42) (xa 9)) (some 43) (xa 10)) (some 44) (xa 11)) (some 45) (xa 12)) (some 46) (xa 13)) (some 47) (xa 14)) (some 48) (xa 15)) (some 49) (xa 16)) (some 50) (xa 17)) (some 51) (xa 18)) (some 52) (xa 19)) (some 53) (xa 20)) (some 54) (xa 21)) (some 55) (xa 22)) (some 56) (xa 23)) (some 57) (xa 24)) (some 32) (xa 25)) _
        simp only [putsL, Nat.reduceAdd, List.drop_succ_cons, List.drop_zero, List.drop_nil, Act.put, List.setIfInBounds_toArray, List.set_cons_succ, List.set_cons_zero]
        try simp only [f0, f1, f2, f3, f4, f5, f6, f7, f8, f9, f10, f11, f12, f13, f14, f15, f16, f17, f18, f19, f20, f21, f22, f23, f24, f25]
        clear f0 f1 f2 f3 f4 f5 f6 f7 f8 f9 f10 f11 f12 f13 f14 f15 f16 f17 f18 f19 f20 f21 f22 f23 f24 f25
        clear holda hapa
        have hka := (Ext.refl w3).drew.trans hera
        have ho3 := own_ext hka ho2.out
        have he3 := (he.trans he2).trans hka
        obtain ⟨y1, -⟩ := (hX2.ext hka).walk
        have yl := (hX2.ext hka).lt
        have hzs := hz.succ (k := 0) (by rw [hv.out, hk1, hk2, hk3]; rfl)
        have hTl2 : (T ++ [x.name]).length = 0 + 1 := by rw [List.length_append, hTl.out]; rfl
        clear hX2 hprev
        go_wp2_with (at_builtin; go_loud (refine wp_app1 _ (.tmp 58) (.tmp 61) 46 9 1 16 _ rfl rfl Tryz.underlying46 nmInfo rfl (by decide) (by decide) w.heap.size _ 0 _ rfl (ho3.alloc _) wra.heap.size (strC x.name) rfl rfl (Blk.new' rfl) (by simp [strC, Value.oneCell']) (by omega) (by have := he3.size; simp; omega) ?_; intro v' w6 hown6 hgrow6 _))
        go_roundw
        case rel => exact ⟨1, v', T ++ [x.name], by omega, rfl, rfl, hTs.out, hTl2, by rw [flat_snoc]; exact hown6, hzs, (he3.alloc _).grown hgrow6 fun j e => (ho3.lt j e).1⟩
        case measure => simp [intOf]; omega
      · obtain ⟨j, rfl⟩ : ∃ j, k = j + 1 := ⟨k - 1, by omega⟩
        obtain ⟨y, hy⟩ := getD_some hl (show j < n by omega)
        obtain ⟨-, d0, d1⟩ := hprev.out j y rfl hy
        obtain ⟨t1, ⟨t2, t3⟩, -, -⟩ := hs.out y (List.mem_of_getElem? hy)
        have hat : atL default xs (j + 1 - 1) = y := by rw [Nat.add_sub_cancel]; exact atL_of hy
        have hv' := hv.out
        clear hv
        rw [hat] at hv'
        have hv := Lib.hid hv'
        clear hv'
        have hwj : IntKind.i64.wrap (j : Int) = j := IntWalk.i64_in _ (by omega)
        have hjl : (j : Int) < n := by omega
        have hj0 : 0 < (j : Int) + 1 := by omega
        clear hat hy hprev
        have hbk : Ext w w3 := he.trans he2
        rcases voiO_three y x with hlc | hlc | hlc
        all_goals
          refine wp_region_facts [] [([], false, false), ([0], false, false), ([0, 1], false, false), ([0, 1, 2], false, false), ([0, 1, 2], false, false), ([0, 1, 2, 4], false, false), ([0, 1, 2, 3, 4, 5], false, false), ([0, 1, 2, 3, 4, 5, 6], false, false), ([0, 1, 2, 3, 4, 5, 6, 7], false, false), ([0, 1, 2], false, false), ([0, 1, 2, 9], false, false), ([0, 1, 2, 3, 4, 5, 6, 7, 8, 9, 10], false, false), ([0, 1, 2], false, false), ([0, 1, 2], false, false), ([0, 1, 2, 13], false, false), ([0, 1, 2, 12, 13, 14], false, false), ([0, 1, 2, 12, 13, 14, 15], false, false), ([0, 1, 2, 12, 13, 14, 15, 16], false, false), ([0, 1, 2], false, false), ([0, 1, 2, 18], false, false), ([0, 1, 2, 12, 13, 14, 15, 16, 17, 18, 19], false, false), ([0, 1, 2, 3, 4, 5, 6, 7, 8, 9, 10, 11, 12, 13, 14, 15, 16, 17, 18, 19, 20], false, true), ([0, 1, 2, 3, 4, 5, 6, 7, 8, 9, 10, 11, 12, 13, 14, 15, 16, 17, 18, 19, 20, 21], false, false), ([0, 1, 2, 3, 4, 5, 6, 7, 8, 9, 10, 11, 12, 13, 14, 15, 16, 17, 18, 19, 20, 21, 22], false, false), ([0, 1, 2, 3, 4, 5, 6, 7, 8, 9, 10, 11, 12, 13, 14, 15, 16, 17, 18, 19, 20, 21, 22, 23], false, false), ([0, 1, 2, 3, 4, 5, 6, 7, 8, 9, 10, 11, 12, 13, 14, 15, 16, 17, 18, 19, 20, 21, 22, 23, 24], false, false)] (Ext) Ext (fun _ => True) (by kernel_rfl) (by kernel_rfl) Ext.refl (fun _ _ _ => Ext.trans) (fun _ _ h => h) (fun _ _ h => h.size) (fun _ _ h _ => h) trivial ?_
          dsimp only [List.length_cons, List.length_nil, List.drop_succ_cons, List.drop_zero, List.drop_nil]
          refine fac_quiet 0 rfl rfl rfl (fun _ _ h _ => h) rfl rfl ?_
          apply Exists.intro
          refine ⟨fun sv w' hw' hfa => ?_, ?_⟩
          · refine ⟨rfl, ?_⟩
            simp only [putsL]
            change quietTo _ _ _ _ (Sem.run _ (execOp (Act.eval _) _) _)
            try simp only [Act.put, List.setIfInBounds_toArray, List.set_cons_succ, List.set_cons_zero]
            simp [go_sem, quietTo, Ext.refl]
            all_goals first
              | rfl
          refine fac_quiet 1 rfl rfl rfl (fun _ _ h _ => h) rfl rfl ?_
          apply Exists.intro
          refine ⟨fun sv w' hw' hfa => ?_, ?_⟩
          · obtain ⟨f0, -⟩ := hfa
            replace f0 : sv 0 = _ := f0
            try dsimp only at f0
            obtain ⟨hc, hf, hz9⟩ := (he2.drew.trans hw').walk; obtain ⟨hc2, hf2, hz8⟩ := ((Ext.refl w3).drew.trans hw').walk; have y0 := (hc _ (off + j * 4) hbw).trans d0; have y1 := (hc _ (off + j * 4 + 1) hbw).trans d1; have x0 := (hc2 _ 0 hX2.lt).trans (hX2.cell 0); have x1 := (hc2 _ 1 hX2.lt).trans (hX2.cell 1)
            refine ⟨rfl, ?_⟩
            simp only [putsL]
            change quietTo _ _ _ _ (Sem.run _ (execOp (Act.eval (Act.put _ (some 33) (sv 0))) _) _)
            try simp only [Act.put, List.setIfInBounds_toArray, List.set_cons_succ, List.set_cons_zero]
            simp [go_sem, quietTo, Ext.refl, ↓IntWalk.iteOmega, f0, hj0]
            all_goals try simp (disch := omega) only [IntWalk.i64_in]
            all_goals first
              | rfl
          refine fac_quiet 2 rfl rfl rfl (fun _ _ h _ => h) rfl rfl ?_
          apply Exists.intro
          refine ⟨fun sv w' hw' hfa => ?_, ?_⟩
          · obtain ⟨_, f1, -⟩ := hfa
            replace f1 : sv 1 = _ := f1
            try dsimp only at f1
            refine ⟨rfl, ?_⟩
            simp only [putsL]
            change quietTo _ _ _ _ (Sem.run _ (execOp (Act.eval (Act.put (Act.put _ (some 34) (sv 1)) (some 33) (sv 0))) _) _)
            try simp only [Act.put, List.setIfInBounds_toArray, List.set_cons_succ, List.set_cons_zero]
            simp [go_sem, quietTo, Ext.refl, f1]
            all_goals first
              | rfl
          refine fac_quiet 3 rfl rfl rfl (fun _ _ h _ => h) rfl rfl ?_
          apply Exists.intro
          refine ⟨fun sv w' hw' hfa => ?_, ?_⟩
          · obtain ⟨_, _, f2, -⟩ := hfa
            replace f2 : sv 2 = _ := f2
            try dsimp only at f2
            refine ⟨by simp [Region.wanted, yielded, putsL, Act.put, f2], ?_⟩
            simp only [putsL]
            change quietTo _ _ _ _ (Sem.run _ (execOp (Act.eval (Act.put (Act.put (Act.put _ (some 35) (sv 2)) (some 34) (sv 1)) (some 33) (sv 0))) _) _)
            try simp only [Act.put, List.setIfInBounds_toArray, List.set_cons_succ, List.set_cons_zero]
            simp [go_sem, quietTo, Ext.refl, f2]
            all_goals first
              | rfl
          refine fac_quiet 4 rfl rfl rfl (fun _ _ h _ => h) rfl rfl ?_
          apply Exists.intro
          refine ⟨fun sv w' hw' hfa => ?_, ?_⟩
          · obtain ⟨_, _, f2, -⟩ := hfa
            replace f2 : sv 2 = _ := f2
            try dsimp only at f2
            refine ⟨by simp [Region.wanted, yielded, putsL, Act.put, f2], ?_⟩
            simp only [putsL]
            change quietTo _ _ _ _ (Sem.run _ (execOp (Act.eval (Act.put (Act.put (Act.put _ (some 35) (sv 2)) (some 34) (sv 1)) (some 33) (sv 0))) _) _)
            try simp only [Act.put, List.setIfInBounds_toArray, List.set_cons_succ, List.set_cons_zero]
            simp [go_sem, quietTo, Ext.refl, f2]
            all_goals first
              | rfl
          refine fac_quiet 5 rfl rfl rfl (fun _ _ h _ => h) rfl rfl ?_
          apply Exists.intro
          refine ⟨fun sv w' hw' hfa => ?_, ?_⟩
          · obtain ⟨_, _, f2, f4, -⟩ := hfa
            replace f2 : sv 2 = _ := f2
            try dsimp only at f2
            replace f4 : sv 4 = _ := f4
            try dsimp only at f4
            obtain ⟨hc, hf, hz9⟩ := (he2.drew.trans hw').walk; obtain ⟨hc2, hf2, hz8⟩ := ((Ext.refl w3).drew.trans hw').walk; have y0 := (hc _ (off + j * 4) hbw).trans d0; have y1 := (hc _ (off + j * 4 + 1) hbw).trans d1; have x0 := (hc2 _ 0 hX2.lt).trans (hX2.cell 0); have x1 := (hc2 _ 1 hX2.lt).trans (hX2.cell 1)
            refine ⟨by simp [Region.wanted, yielded, putsL, Act.put, f2, f4], ?_⟩
            simp only [putsL]
            change quietTo _ _ _ _ (Sem.run _ (execOp (Act.eval (Act.put (Act.put (Act.put (Act.put _ (some 37) (sv 4)) (some 35) (sv 2)) (some 34) (sv 1)) (some 33) (sv 0))) _) _)
            try simp only [Act.put, List.setIfInBounds_toArray, List.set_cons_succ, List.set_cons_zero]
            simp [go_sem, quietTo, Ext.refl, ↓IntWalk.iteOmega, f2, f4, hwj]
            all_goals try simp (disch := omega) only [IntWalk.i64_in]
            all_goals first
              | rfl
          refine fac_quiet 6 rfl rfl rfl (fun _ _ h _ => h) rfl rfl ?_
          apply Exists.intro
          refine ⟨fun sv w' hw' hfa => ?_, ?_⟩
          · obtain ⟨_, _, f2, f3, _, f5, -⟩ := hfa
            replace f2 : sv 2 = _ := f2
            try dsimp only at f2
            replace f3 : sv 3 = _ := f3
            try dsimp only at f3
            replace f5 : sv 5 = _ := f5
            try dsimp only at f5
            obtain ⟨hc, hf, hz9⟩ := (he2.drew.trans hw').walk; obtain ⟨hc2, hf2, hz8⟩ := ((Ext.refl w3).drew.trans hw').walk; have y0 := (hc _ (off + j * 4) hbw).trans d0; have y1 := (hc _ (off + j * 4 + 1) hbw).trans d1; have x0 := (hc2 _ 0 hX2.lt).trans (hX2.cell 0); have x1 := (hc2 _ 1 hX2.lt).trans (hX2.cell 1)
            refine ⟨by simp [Region.wanted, yielded, putsL, Act.put, f2, f3, f5], ?_⟩
            simp only [putsL]
            change quietTo _ _ _ _ (Sem.run _ (execOp (Act.eval (Act.put (Act.put (Act.put (Act.put (Act.put (Act.put _ (some 38) (sv 5)) (some 37) (sv 4)) (some 36) (sv 3)) (some 35) (sv 2)) (some 34) (sv 1)) (some 33) (sv 0))) _) _)
            try simp only [Act.put, List.setIfInBounds_toArray, List.set_cons_succ, List.set_cons_zero]
            simp [go_sem, quietTo, Ext.refl, ↓IntWalk.iteOmega, f2, f3, f5, hjl]
            all_goals try simp (disch := omega) only [IntWalk.i64_in]
            all_goals first
              | rfl
          refine fac_quiet 7 rfl rfl rfl (fun _ _ h _ => h) rfl rfl ?_
          apply Exists.intro
          refine ⟨fun sv w' hw' hfa => ?_, ?_⟩
          · obtain ⟨_, _, f2, _, _, _, f6, -⟩ := hfa
            replace f2 : sv 2 = _ := f2
            try dsimp only at f2
            replace f6 : sv 6 = _ := f6
            try dsimp only at f6
            refine ⟨by simp [Region.wanted, yielded, putsL, Act.put, f2, f6], ?_⟩
            simp only [putsL]
            change quietTo _ _ _ _ (Sem.run _ (execOp (Act.eval (Act.put (Act.put (Act.put (Act.put (Act.put (Act.put (Act.put _ (some 39) (sv 6)) (some 38) (sv 5)) (some 37) (sv 4)) (some 36) (sv 3)) (some 35) (sv 2)) (some 34) (sv 1)) (some 33) (sv 0))) _) _)
            try simp only [Act.put, List.setIfInBounds_toArray, List.set_cons_succ, List.set_cons_zero]
            simp [go_sem, quietTo, Ext.refl, f2, f6]
            all_goals first
              | rfl
          refine fac_quiet 8 rfl rfl rfl (fun _ _ h _ => h) rfl rfl ?_
          apply Exists.intro
          refine ⟨fun sv w' hw' hfa => ?_, ?_⟩
          · obtain ⟨_, _, f2, _, _, _, _, f7, -⟩ := hfa
            replace f2 : sv 2 = _ := f2
            try dsimp only at f2
            replace f7 : sv 7 = _ := f7
            try dsimp only at f7
            obtain ⟨hc, hf, hz9⟩ := (he2.drew.trans hw').walk; obtain ⟨hc2, hf2, hz8⟩ := ((Ext.refl w3).drew.trans hw').walk; have y0 := (hc _ (off + j * 4) hbw).trans d0; have y1 := (hc _ (off + j * 4 + 1) hbw).trans d1; have x0 := (hc2 _ 0 hX2.lt).trans (hX2.cell 0); have x1 := (hc2 _ 1 hX2.lt).trans (hX2.cell 1)
            refine ⟨by simp [Region.wanted, yielded, putsL, Act.put, f2, f7], ?_⟩
            simp only [putsL]
            change quietTo _ _ _ _ (Sem.run _ (execOp (Act.eval (Act.put (Act.put (Act.put (Act.put (Act.put (Act.put (Act.put (Act.put _ (some 40) (sv 7)) (some 39) (sv 6)) (some 38) (sv 5)) (some 37) (sv 4)) (some 36) (sv 3)) (some 35) (sv 2)) (some 34) (sv 1)) (some 33) (sv 0))) _) _)
            try simp only [Act.put, List.setIfInBounds_toArray, List.set_cons_succ, List.set_cons_zero]
            simp [go_sem, quietTo, Ext.refl, ↓IntWalk.iteOmega, f2, f7, y0]
            all_goals try simp (disch := omega) only [IntWalk.i64_in]
            all_goals first
              | rfl
          refine fac_quiet 9 rfl rfl rfl (fun _ _ h _ => h) rfl rfl ?_
          apply Exists.intro
          refine ⟨fun sv w' hw' hfa => ?_, ?_⟩
          · obtain ⟨_, _, f2, -⟩ := hfa
            replace f2 : sv 2 = _ := f2
            try dsimp only at f2
            refine ⟨by simp [Region.wanted, yielded, putsL, Act.put, f2], ?_⟩
            simp only [putsL]
            change quietTo _ _ _ _ (Sem.run _ (execOp (Act.eval (Act.put (Act.put (Act.put _ (some 35) (sv 2)) (some 34) (sv 1)) (some 33) (sv 0))) _) _)
            try simp only [Act.put, List.setIfInBounds_toArray, List.set_cons_succ, List.set_cons_zero]
            simp [go_sem, quietTo, Ext.refl, f2]
            all_goals first
              | rfl
          refine fac_quiet 10 rfl rfl rfl (fun _ _ h _ => h) rfl rfl ?_
          apply Exists.intro
          refine ⟨fun sv w' hw' hfa => ?_, ?_⟩
          · obtain ⟨_, _, f2, f9, -⟩ := hfa
            replace f2 : sv 2 = _ := f2
            try dsimp only at f2
            replace f9 : sv 9 = _ := f9
            try dsimp only at f9
            obtain ⟨hc, hf, hz9⟩ := (he2.drew.trans hw').walk; obtain ⟨hc2, hf2, hz8⟩ := ((Ext.refl w3).drew.trans hw').walk; have y0 := (hc _ (off + j * 4) hbw).trans d0; have y1 := (hc _ (off + j * 4 + 1) hbw).trans d1; have x0 := (hc2 _ 0 hX2.lt).trans (hX2.cell 0); have x1 := (hc2 _ 1 hX2.lt).trans (hX2.cell 1)
            refine ⟨by simp [Region.wanted, yielded, putsL, Act.put, f2, f9], ?_⟩
            simp only [putsL]
            change quietTo _ _ _ _ (Sem.run _ (execOp (Act.eval (Act.put (Act.put (Act.put (Act.put _ (some 42) (sv 9)) (some 35) (sv 2)) (some 34) (sv 1)) (some 33) (sv 0))) _) _)
            try simp only [Act.put, List.setIfInBounds_toArray, List.set_cons_succ, List.set_cons_zero]
            simp [go_sem, quietTo, Ext.refl, ↓IntWalk.iteOmega, f2, f9, x0]
            all_goals try simp (disch := omega) only [IntWalk.i64_in]
            all_goals first
              | rfl
          refine fac_quiet 11 rfl rfl rfl (fun _ _ h _ => h) rfl rfl ?_
          apply Exists.intro
          refine ⟨fun sv w' hw' hfa => ?_, ?_⟩
          · obtain ⟨f0, f1, f2, f3, f4, f5, f6, f7, f8, f9, f10, -⟩ := hfa
            replace f0 : sv 0 = _ := f0
            try dsimp only at f0
            replace f1 : sv 1 = _ := f1
            try dsimp only at f1
            replace f2 : sv 2 = _ := f2
            try dsimp only at f2
            replace f3 : sv 3 = _ := f3
            try dsimp only at f3
            replace f4 : sv 4 = _ := f4
            try dsimp only at f4
            replace f5 : sv 5 = _ := f5
            try dsimp only at f5
            replace f6 : sv 6 = _ := f6
            try dsimp only at f6
            replace f7 : sv 7 = _ := f7
            try dsimp only at f7
            replace f8 : sv 8 = _ := f8
            try dsimp only at f8
            replace f9 : sv 9 = _ := f9
            try dsimp only at f9
            replace f10 : sv 10 = _ := f10
            try dsimp only at f10
            obtain ⟨hc, hf, hz9⟩ := (he2.drew.trans hw').walk; obtain ⟨hc2, hf2, hz8⟩ := ((Ext.refl w3).drew.trans hw').walk; have y0 := (hc _ (off + j * 4) hbw).trans d0; have y1 := (hc _ (off + j * 4 + 1) hbw).trans d1; have x0 := (hc2 _ 0 hX2.lt).trans (hX2.cell 0); have x1 := (hc2 _ 1 hX2.lt).trans (hX2.cell 1)
            refine ⟨by simp [Region.wanted, yielded, putsL, Act.put, f2, f8, f10], ?_⟩
            simp only [putsL]
            change quietTo _ _ _ _ (Sem.run _ (execOp (Act.eval (Act.put (Act.put (Act.put (Act.put (Act.put (Act.put (Act.put (Act.put (Act.put (Act.put (Act.put _ (some 43) (sv 10)) (some 42) (sv 9)) (some 41) (sv 8)) (some 40) (sv 7)) (some 39) (sv 6)) (some 38) (sv 5)) (some 37) (sv 4)) (some 36) (sv 3)) (some 35) (sv 2)) (some 34) (sv 1)) (some 33) (sv 0))) _) _)
            try simp only [Act.put, List.setIfInBounds_toArray, List.set_cons_succ, List.set_cons_zero]
            simp [go_sem, quietTo, Ext.refl, ↓IntWalk.iteOmega, f2, f8, f10]
            all_goals try simp (disch := omega) only [IntWalk.i64_in]
            all_goals first
              | rfl
              | (exact vcmpS_any y.name x.name _)
          refine fac_quiet 12 rfl rfl rfl (fun _ _ h _ => h) rfl rfl ?_
          apply Exists.intro
          refine ⟨fun sv w' hw' hfa => ?_, ?_⟩
          · obtain ⟨_, _, f2, -⟩ := hfa
            replace f2 : sv 2 = _ := f2
            try dsimp only at f2
            refine ⟨by simp [Region.wanted, yielded, putsL, Act.put, f2], ?_⟩
            simp only [putsL]
            change quietTo _ _ _ _ (Sem.run _ (execOp (Act.eval (Act.put (Act.put (Act.put _ (some 35) (sv 2)) (some 34) (sv 1)) (some 33) (sv 0))) _) _)
            try simp only [Act.put, List.setIfInBounds_toArray, List.set_cons_succ, List.set_cons_zero]
            simp [go_sem, quietTo, Ext.refl, f2]
            all_goals first
              | rfl
          refine fac_quiet 13 rfl rfl rfl (fun _ _ h _ => h) rfl rfl ?_
          apply Exists.intro
          refine ⟨fun sv w' hw' hfa => ?_, ?_⟩
          · obtain ⟨_, _, f2, -⟩ := hfa
            replace f2 : sv 2 = _ := f2
            try dsimp only at f2
            refine ⟨by simp [Region.wanted, yielded, putsL, Act.put, f2], ?_⟩
            simp only [putsL]
            change quietTo _ _ _ _ (Sem.run _ (execOp (Act.eval (Act.put (Act.put (Act.put _ (some 35) (sv 2)) (some 34) (sv 1)) (some 33) (sv 0))) _) _)
            try simp only [Act.put, List.setIfInBounds_toArray, List.set_cons_succ, List.set_cons_zero]
            simp [go_sem, quietTo, Ext.refl, f2]
            all_goals first
              | rfl
          refine fac_quiet 14 rfl rfl rfl (fun _ _ h _ => h) rfl rfl ?_
          apply Exists.intro
          refine ⟨fun sv w' hw' hfa => ?_, ?_⟩
          · obtain ⟨_, _, f2, f13, -⟩ := hfa
            replace f2 : sv 2 = _ := f2
            try dsimp only at f2
            replace f13 : sv 13 = _ := f13
            try dsimp only at f13
            obtain ⟨hc, hf, hz9⟩ := (he2.drew.trans hw').walk; obtain ⟨hc2, hf2, hz8⟩ := ((Ext.refl w3).drew.trans hw').walk; have y0 := (hc _ (off + j * 4) hbw).trans d0; have y1 := (hc _ (off + j * 4 + 1) hbw).trans d1; have x0 := (hc2 _ 0 hX2.lt).trans (hX2.cell 0); have x1 := (hc2 _ 1 hX2.lt).trans (hX2.cell 1)
            refine ⟨by simp [Region.wanted, yielded, putsL, Act.put, f2, f13], ?_⟩
            simp only [putsL]
            change quietTo _ _ _ _ (Sem.run _ (execOp (Act.eval (Act.put (Act.put (Act.put (Act.put _ (some 46) (sv 13)) (some 35) (sv 2)) (some 34) (sv 1)) (some 33) (sv 0))) _) _)
            try simp only [Act.put, List.setIfInBounds_toArray, List.set_cons_succ, List.set_cons_zero]
            simp [go_sem, quietTo, Ext.refl, ↓IntWalk.iteOmega, f2, f13, hwj]
            all_goals try simp (disch := omega) only [IntWalk.i64_in]
            all_goals first
              | rfl
          refine fac_quiet 15 rfl rfl rfl (fun _ _ h _ => h) rfl rfl ?_
          apply Exists.intro
          refine ⟨fun sv w' hw' hfa => ?_, ?_⟩
          · obtain ⟨_, _, f2, f12, _, f14, -⟩ := hfa
            replace f2 : sv 2 = _ := f2
            try dsimp only at f2
            replace f12 : sv 12 = _ := f12
            try dsimp only at f12
            replace f14 : sv 14 = _ := f14
            try dsimp only at f14
            obtain ⟨hc, hf, hz9⟩ := (he2.drew.trans hw').walk; obtain ⟨hc2, hf2, hz8⟩ := ((Ext.refl w3).drew.trans hw').walk; have y0 := (hc _ (off + j * 4) hbw).trans d0; have y1 := (hc _ (off + j * 4 + 1) hbw).trans d1; have x0 := (hc2 _ 0 hX2.lt).trans (hX2.cell 0); have x1 := (hc2 _ 1 hX2.lt).trans (hX2.cell 1)
            refine ⟨by simp [Region.wanted, yielded, putsL, Act.put, f2, f12, f14], ?_⟩
            simp only [putsL]
            change quietTo _ _ _ _ (Sem.run _ (execOp (Act.eval (Act.put (Act.put (Act.put (Act.put (Act.put (Act.put _ (some 47) (sv 14)) (some 46) (sv 13)) (some 45) (sv 12)) (some 35) (sv 2)) (some 34) (sv 1)) (some 33) (sv 0))) _) _)
            try simp only [Act.put, List.setIfInBounds_toArray, List.set_cons_succ, List.set_cons_zero]
            simp [go_sem, quietTo, Ext.refl, ↓IntWalk.iteOmega, f2, f12, f14, hjl]
            all_goals try simp (disch := omega) only [IntWalk.i64_in]
            all_goals first
              | rfl
          refine fac_quiet 16 rfl rfl rfl (fun _ _ h _ => h) rfl rfl ?_
          apply Exists.intro
          refine ⟨fun sv w' hw' hfa => ?_, ?_⟩
          · obtain ⟨_, _, f2, _, _, _, f15, -⟩ := hfa
            replace f2 : sv 2 = _ := f2
            try dsimp only at f2
            replace f15 : sv 15 = _ := f15
            try dsimp only at f15
            refine ⟨by simp [Region.wanted, yielded, putsL, Act.put, f2, f15], ?_⟩
            simp only [putsL]
            change quietTo _ _ _ _ (Sem.run _ (execOp (Act.eval (Act.put (Act.put (Act.put (Act.put (Act.put (Act.put (Act.put _ (some 48) (sv 15)) (some 47) (sv 14)) (some 46) (sv 13)) (some 45) (sv 12)) (some 35) (sv 2)) (some 34) (sv 1)) (some 33) (sv 0))) _) _)
            try simp only [Act.put, List.setIfInBounds_toArray, List.set_cons_succ, List.set_cons_zero]
            simp [go_sem, quietTo, Ext.refl, f2, f15]
            all_goals first
              | rfl
          refine fac_quiet 17 rfl rfl rfl (fun _ _ h _ => h) rfl rfl ?_
          apply Exists.intro
          refine ⟨fun sv w' hw' hfa => ?_, ?_⟩
          · obtain ⟨_, _, f2, _, _, _, _, f16, -⟩ := hfa
            replace f2 : sv 2 = _ := f2
            try dsimp only at f2
            replace f16 : sv 16 = _ := f16
            try dsimp only at f16
            obtain ⟨hc, hf, hz9⟩ := (he2.drew.trans hw').walk; obtain ⟨hc2, hf2, hz8⟩ := ((Ext.refl w3).drew.trans hw').walk; have y0 := (hc _ (off + j * 4) hbw).trans d0; have y1 := (hc _ (off + j * 4 + 1) hbw).trans d1; have x0 := (hc2 _ 0 hX2.lt).trans (hX2.cell 0); have x1 := (hc2 _ 1 hX2.lt).trans (hX2.cell 1)
            refine ⟨by simp [Region.wanted, yielded, putsL, Act.put, f2, f16], ?_⟩
            simp only [putsL]
            change quietTo _ _ _ _ (Sem.run _ (execOp (Act.eval (Act.put (Act.put (Act.put (Act.put (Act.put (Act.put (Act.put (Act.put _ (some 49) (sv 16)) (some 48) (sv 15)) (some 47) (sv 14)) (some 46) (sv 13)) (some 45) (sv 12)) (some 35) (sv 2)) (some 34) (sv 1)) (some 33) (sv 0))) _) _)
            try simp only [Act.put, List.setIfInBounds_toArray, List.set_cons_succ, List.set_cons_zero]
            simp [go_sem, quietTo, Ext.refl, ↓IntWalk.iteOmega, f2, f16, y1]
            all_goals try simp (disch := omega) only [IntWalk.i64_in]
            all_goals first
              | rfl
          refine fac_quiet 18 rfl rfl rfl (fun _ _ h _ => h) rfl rfl ?_
          apply Exists.intro
          refine ⟨fun sv w' hw' hfa => ?_, ?_⟩
          · obtain ⟨_, _, f2, -⟩ := hfa
            replace f2 : sv 2 = _ := f2
            try dsimp only at f2
            refine ⟨by simp [Region.wanted, yielded, putsL, Act.put, f2], ?_⟩
            simp only [putsL]
            change quietTo _ _ _ _ (Sem.run _ (execOp (Act.eval (Act.put (Act.put (Act.put _ (some 35) (sv 2)) (some 34) (sv 1)) (some 33) (sv 0))) _) _)
            try simp only [Act.put, List.setIfInBounds_toArray, List.set_cons_succ, List.set_cons_zero]
            simp [go_sem, quietTo, Ext.refl, f2]
            all_goals first
              | rfl
          refine fac_quiet 19 rfl rfl rfl (fun _ _ h _ => h) rfl rfl ?_
          apply Exists.intro
          refine ⟨fun sv w' hw' hfa => ?_, ?_⟩
          · obtain ⟨_, _, f2, f18, -⟩ := hfa
            replace f2 : sv 2 = _ := f2
            try dsimp only at f2
            replace f18 : sv 18 = _ := f18
            try dsimp only at f18
            obtain ⟨hc, hf, hz9⟩ := (he2.drew.trans hw').walk; obtain ⟨hc2, hf2, hz8⟩ := ((Ext.refl w3).drew.trans hw').walk; have y0 := (hc _ (off + j * 4) hbw).trans d0; have y1 := (hc _ (off + j * 4 + 1) hbw).trans d1; have x0 := (hc2 _ 0 hX2.lt).trans (hX2.cell 0); have x1 := (hc2 _ 1 hX2.lt).trans (hX2.cell 1)
            refine ⟨by simp [Region.wanted, yielded, putsL, Act.put, f2, f18], ?_⟩
            simp only [putsL]
            change quietTo _ _ _ _ (Sem.run _ (execOp (Act.eval (Act.put (Act.put (Act.put (Act.put _ (some 51) (sv 18)) (some 35) (sv 2)) (some 34) (sv 1)) (some 33) (sv 0))) _) _)
            try simp only [Act.put, List.setIfInBounds_toArray, List.set_cons_succ, List.set_cons_zero]
            simp [go_sem, quietTo, Ext.refl, ↓IntWalk.iteOmega, f2, f18, x1]
            all_goals try simp (disch := omega) only [IntWalk.i64_in]
            all_goals first
              | rfl
          refine fac_quiet 20 rfl rfl rfl (fun _ _ h _ => h) rfl rfl ?_
          apply Exists.intro
          refine ⟨fun sv w' hw' hfa => ?_, ?_⟩
          · obtain ⟨f0, f1, f2, f12, f13, f14, f15, f16, f17, f18, f19, -⟩ := hfa
            replace f0 : sv 0 = _ := f0
            try dsimp only at f0
            replace f1 : sv 1 = _ := f1
            try dsimp only at f1
            replace f2 : sv 2 = _ := f2
            try dsimp only at f2
            replace f12 : sv 12 = _ := f12
            try dsimp only at f12
            replace f13 : sv 13 = _ := f13
            try dsimp only at f13
            replace f14 : sv 14 = _ := f14
            try dsimp only at f14
            replace f15 : sv 15 = _ := f15
            try dsimp only at f15
            replace f16 : sv 16 = _ := f16
            try dsimp only at f16
            replace f17 : sv 17 = _ := f17
            try dsimp only at f17
            replace f18 : sv 18 = _ := f18
            try dsimp only at f18
            replace f19 : sv 19 = _ := f19
            try dsimp only at f19
            obtain ⟨hc, hf, hz9⟩ := (he2.drew.trans hw').walk; obtain ⟨hc2, hf2, hz8⟩ := ((Ext.refl w3).drew.trans hw').walk; have y0 := (hc _ (off + j * 4) hbw).trans d0; have y1 := (hc _ (off + j * 4 + 1) hbw).trans d1; have x0 := (hc2 _ 0 hX2.lt).trans (hX2.cell 0); have x1 := (hc2 _ 1 hX2.lt).trans (hX2.cell 1)
            refine ⟨by simp [Region.wanted, yielded, putsL, Act.put, f2, f17, f19], ?_⟩
            simp only [putsL]
            change quietTo _ _ _ _ (Sem.run _ (execOp (Act.eval (Act.put (Act.put (Act.put (Act.put (Act.put (Act.put (Act.put (Act.put (Act.put (Act.put (Act.put _ (some 52) (sv 19)) (some 51) (sv 18)) (some 50) (sv 17)) (some 49) (sv 16)) (some 48) (sv 15)) (some 47) (sv 14)) (some 46) (sv 13)) (some 45) (sv 12)) (some 35) (sv 2)) (some 34) (sv 1)) (some 33) (sv 0))) _) _)
            try simp only [Act.put, List.setIfInBounds_toArray, List.set_cons_succ, List.set_cons_zero]
            simp [go_sem, quietTo, Ext.refl, ↓IntWalk.iteOmega, f2, f17, f19]
            all_goals try simp (disch := omega) only [IntWalk.i64_in]
            all_goals first
              | rfl
              | (exact vcmpI_any y.fr x.fr _)
          refine fac_row 21 rfl rfl rfl (fun _ _ h _ => h) (fun _ _ h => h.size) (fun _ _ _ _ _ he _ hb => hb.ext he) ?_
          apply Exists.intro
          apply Exists.intro
          apply Exists.intro
          apply Exists.intro
          refine ⟨fun sv w' hw' hfa => ?_, ?_⟩
          · obtain ⟨_, _, f2, _, _, _, _, _, _, _, _, f11, _, _, _, _, _, _, _, _, f20, -⟩ := hfa
            replace f2 : sv 2 = _ := f2
            try dsimp only at f2
            replace f11 : sv 11 = _ := f11
            try dsimp only at f11
            replace f20 : sv 20 = _ := f20
            try dsimp only at f20
            refine ⟨by simp [Region.wanted, yielded, putsL, Act.put, f2, f11, f20], ?_⟩
            simp only [putsL]
            change rowTo _ _ _ _ _ (Sem.run _ (execOp (Act.eval (Act.put (Act.put (Act.put (Act.put (Act.put (Act.put (Act.put (Act.put (Act.put (Act.put (Act.put (Act.put (Act.put (Act.put (Act.put (Act.put (Act.put (Act.put (Act.put (Act.put (Act.put _ (some 53) (sv 20)) (some 52) (sv 19)) (some 51) (sv 18)) (some 50) (sv 17)) (some 49) (sv 16)) (some 48) (sv 15)) (some 47) (sv 14)) (some 46) (sv 13)) (some 45) (sv 12)) (some 44) (sv 11)) (some 43) (sv 10)) (some 42) (sv 9)) (some 41) (sv 8)) (some 40) (sv 7)) (some 39) (sv 6)) (some 38) (sv 5)) (some 37) (sv 4)) (some 36) (sv 3)) (some 35) (sv 2)) (some 34) (sv 1)) (some 33) (sv 0))) _) _)
            try simp only [Act.put, List.setIfInBounds_toArray, List.set_cons_succ, List.set_cons_zero]
            simp [go_sem, rowTo, Ext.refl, f2, f11, f20]
            all_goals try simp (disch := omega) only [IntWalk.i64_in]
            all_goals first
              | rfl
              | exact ⟨rfl, rfl⟩
              | exact ⟨⟨rfl, rfl⟩, rfl⟩
          refine fac_quiet 22 rfl rfl rfl (fun _ _ h _ => h) rfl rfl ?_
          apply Exists.intro
          refine ⟨fun sv w' hw' hfa => ?_, ?_⟩
          · obtain ⟨f0, f1, f2, f3, f4, f5, f6, f7, f8, f9, f10, f11, f12, f13, f14, f15, f16, f17, f18, f19, f20, f21, -⟩ := hfa
            replace f0 : sv 0 = _ := f0
            try dsimp only at f0
            replace f1 : sv 1 = _ := f1
            try dsimp only at f1
            replace f2 : sv 2 = _ := f2
            try dsimp only at f2
            replace f3 : sv 3 = _ := f3
            try dsimp only at f3
            replace f4 : sv 4 = _ := f4
            try dsimp only at f4
            replace f5 : sv 5 = _ := f5
            try dsimp only at f5
            replace f6 : sv 6 = _ := f6
            try dsimp only at f6
            replace f7 : sv 7 = _ := f7
            try dsimp only at f7
            replace f8 : sv 8 = _ := f8
            try dsimp only at f8
            replace f9 : sv 9 = _ := f9
            try dsimp only at f9
            replace f10 : sv 10 = _ := f10
            try dsimp only at f10
            replace f11 : sv 11 = _ := f11
            try dsimp only at f11
            replace f12 : sv 12 = _ := f12
            try dsimp only at f12
            replace f13 : sv 13 = _ := f13
            try dsimp only at f13
            replace f14 : sv 14 = _ := f14
            try dsimp only at f14
            replace f15 : sv 15 = _ := f15
            try dsimp only at f15
            replace f16 : sv 16 = _ := f16
            try dsimp only at f16
            replace f17 : sv 17 = _ := f17
            try dsimp only at f17
            replace f18 : sv 18 = _ := f18
            try dsimp only at f18
            replace f19 : sv 19 = _ := f19
            try dsimp only at f19
            replace f20 : sv 20 = _ := f20
            try dsimp only at f20
            obtain ⟨g21, f21, l21, b21⟩ := f21
            replace f21 : sv 21 = _ := f21
            obtain ⟨p21, q21⟩ := b21.walk
            obtain ⟨hc, hf, hz9⟩ := (he2.drew.trans hw').walk; obtain ⟨hc2, hf2, hz8⟩ := ((Ext.refl w3).drew.trans hw').walk; have y0 := (hc _ (off + j * 4) hbw).trans d0; have y1 := (hc _ (off + j * 4 + 1) hbw).trans d1; have x0 := (hc2 _ 0 hX2.lt).trans (hX2.cell 0); have x1 := (hc2 _ 1 hX2.lt).trans (hX2.cell 1)
            refine ⟨by simp [Region.wanted, yielded, putsL, Act.put, f2, f21, p21, q21], ?_⟩
            simp only [putsL]
            change quietTo _ _ _ _ (Sem.run _ (execOp (Act.eval (Act.put (Act.put (Act.put (Act.put (Act.put (Act.put (Act.put (Act.put (Act.put (Act.put (Act.put (Act.put (Act.put (Act.put (Act.put (Act.put (Act.put (Act.put (Act.put (Act.put (Act.put (Act.put _ (some 54) (sv 21)) (some 53) (sv 20)) (some 52) (sv 19)) (some 51) (sv 18)) (some 50) (sv 17)) (some 49) (sv 16)) (some 48) (sv 15)) (some 47) (sv 14)) (some 46) (sv 13)) (some 45) (sv 12)) (some 44) (sv 11)) (some 43) (sv 10)) (some 42) (sv 9)) (some 41) (sv 8)) (some 40) (sv 7)) (some 39) (sv 6)) (some 38) (sv 5)) (some 37) (sv 4)) (some 36) (sv 3)) (some 35) (sv 2)) (some 34) (sv 1)) (some 33) (sv 0))) _) _)
            try simp only [Act.put, List.setIfInBounds_toArray, List.set_cons_succ, List.set_cons_zero]
            simp [go_sem, quietTo, Ext.refl, ↓IntWalk.iteOmega, f2, f21, p21, q21]
            all_goals try simp (disch := omega) only [IntWalk.i64_in]
            all_goals first
              | rfl
              | (exact vor_any y x _ _ _ b21)
          refine fac_quiet 23 rfl rfl rfl (fun _ _ h _ => h) rfl rfl ?_
          apply Exists.intro
          refine ⟨fun sv w' hw' hfa => ?_, ?_⟩
          · obtain ⟨_, _, f2, _, _, _, _, _, _, _, _, _, _, _, _, _, _, _, _, _, _, f21, f22, -⟩ := hfa
            replace f2 : sv 2 = _ := f2
            try dsimp only at f2
            obtain ⟨g21, f21, l21, b21⟩ := f21
            replace f21 : sv 21 = _ := f21
            obtain ⟨p21, q21⟩ := b21.walk
            replace f22 : sv 22 = _ := f22
            try dsimp only at f22
            obtain ⟨hc, hf, hz9⟩ := (he2.drew.trans hw').walk; obtain ⟨hc2, hf2, hz8⟩ := ((Ext.refl w3).drew.trans hw').walk; have y0 := (hc _ (off + j * 4) hbw).trans d0; have y1 := (hc _ (off + j * 4 + 1) hbw).trans d1; have x0 := (hc2 _ 0 hX2.lt).trans (hX2.cell 0); have x1 := (hc2 _ 1 hX2.lt).trans (hX2.cell 1)
            refine ⟨by simp [Region.wanted, yielded, putsL, Act.put, f2, f22, p21, q21], ?_⟩
            simp only [putsL]
            change quietTo _ _ _ _ (Sem.run _ (execOp (Act.eval (Act.put (Act.put (Act.put (Act.put (Act.put (Act.put (Act.put (Act.put (Act.put (Act.put (Act.put (Act.put (Act.put (Act.put (Act.put (Act.put (Act.put (Act.put (Act.put (Act.put (Act.put (Act.put (Act.put _ (some 55) (sv 22)) (some 54) (sv 21)) (some 53) (sv 20)) (some 52) (sv 19)) (some 51) (sv 18)) (some 50) (sv 17)) (some 49) (sv 16)) (some 48) (sv 15)) (some 47) (sv 14)) (some 46) (sv 13)) (some 45) (sv 12)) (some 44) (sv 11)) (some 43) (sv 10)) (some 42) (sv 9)) (some 41) (sv 8)) (some 40) (sv 7)) (some 39) (sv 6)) (some 38) (sv 5)) (some 37) (sv 4)) (some 36) (sv 3)) (some 35) (sv 2)) (some 34) (sv 1)) (some 33) (sv 0))) _) _)
            try simp only [Act.put, List.setIfInBounds_toArray, List.set_cons_succ, List.set_cons_zero]
            simp [go_sem, quietTo, Ext.refl, ↓IntWalk.iteOmega, f2, f22, p21, q21, hlc]
            all_goals try simp (disch := omega) only [IntWalk.i64_in]
            all_goals first
              | rfl
          refine fac_quiet 24 rfl rfl rfl (fun _ _ h _ => h) rfl rfl ?_
          apply Exists.intro
          refine ⟨fun sv w' hw' hfa => ?_, ?_⟩
          · obtain ⟨_, _, f2, _, _, _, _, _, _, _, _, _, _, _, _, _, _, _, _, _, _, f21, _, f23, -⟩ := hfa
            replace f2 : sv 2 = _ := f2
            try dsimp only at f2
            obtain ⟨g21, f21, l21, b21⟩ := f21
            replace f21 : sv 21 = _ := f21
            obtain ⟨p21, q21⟩ := b21.walk
            replace f23 : sv 23 = _ := f23
            try dsimp only at f23
            refine ⟨rfl, ?_⟩
            simp only [putsL]
            change quietTo _ _ _ _ (Sem.run _ (execOp (Act.eval (Act.put (Act.put (Act.put (Act.put (Act.put (Act.put (Act.put (Act.put (Act.put (Act.put (Act.put (Act.put (Act.put (Act.put (Act.put (Act.put (Act.put (Act.put (Act.put (Act.put (Act.put (Act.put (Act.put (Act.put _ (some 56) (sv 23)) (some 55) (sv 22)) (some 54) (sv 21)) (some 53) (sv 20)) (some 52) (sv 19)) (some 51) (sv 18)) (some 50) (sv 17)) (some 49) (sv 16)) (some 48) (sv 15)) (some 47) (sv 14)) (some 46) (sv 13)) (some 45) (sv 12)) (some 44) (sv 11)) (some 43) (sv 10)) (some 42) (sv 9)) (some 41) (sv 8)) (some 40) (sv 7)) (some 39) (sv 6)) (some 38) (sv 5)) (some 37) (sv 4)) (some 36) (sv 3)) (some 35) (sv 2)) (some 34) (sv 1)) (some 33) (sv 0))) _) _)
            try simp only [Act.put, List.setIfInBounds_toArray, List.set_cons_succ, List.set_cons_zero]
            simp [go_sem, quietTo, Ext.refl, ↓IntWalk.iteOmega, f2, f23, p21, q21]
            all_goals try simp (disch := omega) only [IntWalk.i64_in]
            all_goals first
              | rfl
          refine fac_quiet 25 rfl rfl rfl (fun _ _ h _ => h) rfl rfl ?_
          apply Exists.intro
          refine ⟨fun sv w' hw' hfa => ?_, ?_⟩
          · obtain ⟨_, _, _, _, _, _, _, _, _, _, _, _, _, _, _, _, _, _, _, _, _, _, _, _, f24, -⟩ := hfa
            replace f24 : sv 24 = _ := f24
            try dsimp only at f24
            refine ⟨rfl, ?_⟩
            simp only [putsL]
            change quietTo _ _ _ _ (Sem.run _ (execOp (Act.eval (Act.put (Act.put (Act.put (Act.put (Act.put (Act.put (Act.put (Act.put (Act.put (Act.put (Act.put (Act.put (Act.put (Act.put (Act.put (Act.put (Act.put (Act.put (Act.put (Act.put (Act.put (Act.put (Act.put (Act.put (Act.put _ (some 57) (sv 24)) (some 56) (sv 23)) (some 55) (sv 22)) (some 54) (sv 21)) (some 53) (sv 20)) (some 52) (sv 19)) (some 51) (sv 18)) (some 50) (sv 17)) (some 49) (sv 16)) (some 48) (sv 15)) (some 47) (sv 14)) (some 46) (sv 13)) (some 45) (sv 12)) (some 44) (sv 11)) (some 43) (sv 10)) (some 42) (sv 9)) (some 41) (sv 8)) (some 40) (sv 7)) (some 39) (sv 6)) (some 38) (sv 5)) (some 37) (sv 4)) (some 36) (sv 3)) (some 35) (sv 2)) (some 34) (sv 1)) (some 33) (sv 0))) _) _)
            try simp only [Act.put, List.setIfInBounds_toArray, List.set_cons_succ, List.set_cons_zero]
            simp [go_sem, quietTo, Ext.refl, f24]
            all_goals first
              | rfl
          refine fac_nil fun xb wrb herb hfrb hcrb holdb hapb => ?_
          obtain ⟨f0, f1, f2, f3, f4, f5, f6, f7, f8, f9, f10, f11, f12, f13, f14, f15, f16, f17, f18, f19, f20, f21, f22, f23, f24, f25, -⟩ := hfrb
          replace f0 : xb 0 = _ := f0
          try dsimp only at f0
          replace f1 : xb 1 = _ := f1
          try dsimp only at f1
          replace f2 : xb 2 = _ := f2
          try dsimp only at f2
          replace f3 : xb 3 = _ := f3
          try dsimp only at f3
          replace f4 : xb 4 = _ := f4
          try dsimp only at f4
          replace f5 : xb 5 = _ := f5
          try dsimp only at f5
          replace f6 : xb 6 = _ := f6
          try dsimp only at f6
          replace f7 : xb 7 = _ := f7
          try dsimp only at f7
          replace f8 : xb 8 = _ := f8
          try dsimp only at f8
          replace f9 : xb 9 = _ := f9
          try dsimp only at f9
          replace f10 : xb 10 = _ := f10
          try dsimp only at f10
          replace f11 : xb 11 = _ := f11
          try dsimp only at f11
          replace f12 : xb 12 = _ := f12
          try dsimp only at f12
          replace f13 : xb 13 = _ := f13
          try dsimp only at f13
          replace f14 : xb 14 = _ := f14
          try dsimp only at f14
          replace f15 : xb 15 = _ := f15
          try dsimp only at f15
          replace f16 : xb 16 = _ := f16
          try dsimp only at f16
          replace f17 : xb 17 = _ := f17
          try dsimp only at f17
          replace f18 : xb 18 = _ := f18
          try dsimp only at f18
          replace f19 : xb 19 = _ := f19
          try dsimp only at f19
          replace f20 : xb 20 = _ := f20
          try dsimp only at f20
          obtain ⟨g21, f21, l21, b21⟩ := f21
          replace f21 : xb 21 = _ := f21
          obtain ⟨p21, q21⟩ := b21.walk
          replace f22 : xb 22 = _ := f22
          try dsimp only at f22
          replace f23 : xb 23 = _ := f23
          try dsimp only at f23
          replace f24 : xb 24 = _ := f24
          try dsimp only at f24
          replace f25 : xb 25 = _ := f25
          try dsimp only at f25
          change wpList _ _ _ _ (Act.put (Act.put (Act.put (Act.put (Act.put (Act.put (Act.put (Act.put (Act.put (Act.put (Act.put (Act.put (Act.put (Act.put (Act.put (Act.put (Act.put (Act.put (Act.put (Act.put (Act.put (Act.put (Act.put (Act.put (Act.put (Act.put _ (some 33) (xb 0)) (some 34) (xb 1)) (some 35) (xb 2)) (some 36) (xb 3)) (some 37) (xb 4)) (some 38) (xb 5)) (some 39) (xb 6)) (some 40) (xb 7)) (some 41) (xb 8)) (some 42) (xb 9)) (some 43) (xb 10)) (some 44) (xb 11)) (some 45) (xb 12)) (some 46) (xb 13)) (some 47) (xb 14)) (some 48) (xb 15)) (some 49) (xb 16)) (some 50) (xb 17)) (some 51) (xb 18)) (some 52) (xb 19)) (some 53) (xb 20)) (some 54) (xb 21)) (some 55) (xb 22)) (some 56) (xb 23)) (some 57) (xb 24)) (some 32) (xb 25)) _
          simp only [putsL, Nat.reduceAdd, List.drop_succ_cons, List.drop_zero, List.drop_nil, Act.put, List.setIfInBounds_toArray, List.set_cons_succ, List.set_cons_zero]
          try simp only [f0, f1, f2, f3, f4, f5, f6, f7, f8, f9, f10, f11, f12, f13, f14, f15, f16, f17, f18, f19, f20, f21, f22, f23, f24, f25]
          clear f0 f1 f2 f3 f4 f5 f6 f7 f8 f9 f10 f11 f12 f13 f14 f15 f16 f17 f18 f19 f20 f22 f23 f24 f25
          clear holdb hapb
          have hka := (Ext.refl w3).drew.trans herb
          have ho3 := own_ext hka ho2.out
          have he3 := hbk.trans hka
          obtain ⟨y1, -⟩ := (hX2.ext hka).walk
          have yl := (hX2.ext hka).lt
          have hTl2 : (T ++ [x.name]).length = j + 1 + 1 := by rw [List.length_append, hTl.out]; rfl
          have hsz3 := he3.size
          clear hX2 d0 d1
          first
            | (have hzs := hz.succ (k := j + 1) (by rw [hv.out, hk1, hk2, hk3, hlc]; simp)
               go_wp2_with (at_builtin; go_loud (refine wp_app1 _ (.tmp 58) (.tmp 61) 46 9 1 16 _ rfl rfl Tryz.underlying46 nmInfo rfl (by decide) (by decide) w.heap.size _ (j + 1) _ rfl (ho3.alloc _) wrb.heap.size (strC x.name) rfl rfl (Blk.new' rfl) (by simp [strC, Value.oneCell']) (by omega) (by simp; omega) ?_; intro v' w6 hown6 hgrow6 _))
               go_roundw
               case rel => exact ⟨j + 1 + 1, v', T ++ [x.name], by omega, by go_num, rfl, hTs.out, hTl2, by rw [flat_snoc]; exact hown6, hzs, (he3.alloc _).grown hgrow6 fun j e => (ho3.lt j e).1⟩
               case measure => simp [intOf]; omega)
            | (replace ho3 := Lib.hid ho3
               go_wp2
               go_ret
               exact ⟨ret_int (by exact (hF.out _ _ hlt hz (by rw [hv.out, hk1, hk2, hk3, hlc]; simp) (by decide))), he3⟩)
    · obtain rfl : k = n := by omega
      have hG : voicesG xs = if 200 < (onceL T).length then 2 else 0 := by
        rw [hTn.out, ← hl, List.take_length]
        exact voicesG_once (by omega) (by rw [hl]; exact hz)
      obtain ⟨q, d, rfl, hSl⟩ := slc_of_own (enc := strC) (fun _ => rfl) hown (by decide) (by omega)
      have hon := onceG_any q k d T wr hSl.1 (by omega)
      have hol := onceL_len_le T
      rw [hTl] at hol
      generalize onceL T = O at *
      replace hG := Lib.hid hG
      replace hon := Lib.hid hon
      replace hown := Lib.hid hown
      replace hSl := Lib.hid hSl
      replace hTl := Lib.hid hTl
      by_cases h2 : 200 < O.length
      · have h200 : decide (200 < (O.length : Int)) = true := by simp; omega
        go_wp2_with (go_at_call 50; (with_reducible refine Calls.mono hon.out ?_); rintro e w1 ⟨q1, d1, rfl, -, hb1⟩)
        go_ret
        exact ⟨ret_int (by rw [hG.out, if_pos h2]), he.trans hb1⟩
      · have h200 : decide (200 < (O.length : Int)) = false := by simp; omega
        go_wp2_with (go_at_call 50; (with_reducible refine Calls.mono hon.out ?_); rintro e w1 ⟨q1, d1, rfl, -, hb1⟩)
        go_ret
        exact ⟨ret_int (by rw [hG.out, if_neg h2]), he.trans hb1⟩
end Go.Proofs.YtboplnogfjmpnaaGreatDoor
