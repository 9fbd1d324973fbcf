/- People that the stream makes, told exactly. Conditions: as each theorem says. -/
import Derived.Test.YtfcoeikekbjgpaaGreatDoorSxDetA
import Derived.Test.YtfcoeikekbjgpaaGreatDoorSxStD
set_option linter.unusedSimpArgs false
set_option linter.unusedVariables false
namespace Go.Proofs.YtfcoeikekbjgpaaGreatDoor
open Go Go.RowKit

def digB (j : Nat) : ByteArray := ⟨(Lib.decDigits j).toArray⟩
theorem digB_size (j : Nat) (hj : j < 10) : (digB j).size = 1 := digit_size ⟨j, hj⟩
theorem digit_det (j : Nat) (hj : j < 10) (w : World) :
    Calls Tryz.prog 29 #[.int .i64 j] w fun e w' => e = .returned (.string (digB j)) ∧ w = w' :=
  (Tryz.strconv_Itoa_small j (by omega) w).mono fun e w' h => ⟨h.1, h.2.symm⟩
def pplAt (L : Src) (a j : Nat) : PersonV := ⟨⟨#[112]⟩ ++ digB j, pkF L (a + 2 * j) [1500, 1600, 1600, 1700, 1800], smF L (a + 2 * j + 1) [⟨#[97, 108, 116, 111]⟩, ⟨#[98, 97, 115, 115]⟩, ⟨#[98, 97, 115, 115]⟩, ⟨#[116, 101, 110, 111, 114]⟩]⟩
def pplN (L : Src) (a n : Nat) : List PersonV := (List.range n).map (pplAt L a)
theorem pplN_succ (L : Src) (a n : Nat) : pplN L a (n + 1) = pplN L a n ++ [pplAt L a n] := by simp [pplN, List.range_succ]
def pplF (L : Src) (a most : Nat) : List PersonV × Nat :=
  let n := (rgF L a 0 most).toNat
  let b := a + 1 + 2 * n
  if n = 0 then ([], b) else if flF L b 15 then
    let i := nxF L (b + 1) n
    let x := (pplN L (a + 1) n).getD i default
    ((pplN L (a + 1) n).set i ⟨smF L (b + 2) [x.name, ⟨#[]⟩, ⟨#[112, 48]⟩], odF L (b + 3) 500 2500, smF L (b + 5) [x.sect, ⟨#[]⟩]⟩, b + 6)
  else (pplN L (a + 1) n, b + 1)
theorem pplF_none {L : Src} {a most : Nat} (h : rgF L a 0 most = ((0 : Nat) : Int)) : pplF L a most = ([], a + 1) := by
  unfold pplF; rw [h]; rfl
theorem pplF_keep {L : Src} {a most n : Nat} (h : rgF L a 0 most = n) (h0 : 0 < n) (hf : flF L (a + 1 + 2 * n) 15 = false) : pplF L a most = (pplN L (a + 1) n, a + 1 + 2 * n + 1) := by
  unfold pplF; rw [h, Int.toNat_natCast]; simp only; rw [if_neg (by omega), hf]; rfl
theorem pplF_mod {L : Src} {a most n i : Nat} {x : PersonV} (h : rgF L a 0 most = n) (h0 : 0 < n) (hf : flF L (a + 1 + 2 * n) 15 = true) (hi : nxF L (a + 1 + 2 * n + 1) n = i) (hx : (pplN L (a + 1) n)[i]? = some x) :
    pplF L a most = ((pplN L (a + 1) n).set i ⟨smF L (a + 1 + 2 * n + 2) [x.name, ⟨#[]⟩, ⟨#[112, 48]⟩], odF L (a + 1 + 2 * n + 3) 500 2500, smF L (a + 1 + 2 * n + 5) [x.sect, ⟨#[]⟩]⟩, a + 1 + 2 * n + 6) := by
  unfold pplF; rw [h, Int.toNat_natCast]; simp only; rw [if_neg (by omega), if_pos hf, hi, List.getD_eq_getElem?_getD, hx]; rfl

set_option maxRecDepth 100000 in
set_option maxHeartbeats 6400000 in
theorem people_det (s k most : Nat) (L : Src) (w : World) (hk : k ≤ 990000) (hmo : most ≤ 9) (h : StrL w s L k) :
    Calls Tryz.prog 5 #[.pointer (some ⟨s, 0, none⟩), .int .i64 most] w fun e w' => ∃ (p : Option Addr) (n c : Nat) (P : List PersonV) (k' : Nat), e = .returned (.slice p n c) ∧ n ≤ 9 ∧ Slc 3 perC w' p n c P ∧ (∀ a, p = some a → w.heap.size ≤ a.block) ∧ (∀ x ∈ P, x.Small) ∧ pplF L k most = (P, k') ∧ k' ≤ k + 40 ∧ StrL w' s L k' ∧ ExtS s w w' := by
  have l0 := h.lt
  have hv01 := rgF_in (L := L) (a := k) (lo := 0) (hi := most) (by omega)
  obtain ⟨m, hm⟩ : ∃ m : Nat, rgF L k 0 most = m := ⟨(rgF L k 0 most).toNat, by omega⟩
  have hrg := range_det s k 0 most L w (by omega) (by omega) (by omega) (by omega) (by omega) h
  rw [hm] at hv01 hrg
  obtain ⟨hv0, hv1⟩ := hv01
  replace hrg := Lib.hid hrg
  replace hm := Lib.hid hm
  go_enter Tryz.func5, Tryz.ntmps5
  go_upto_region 3 with (go_at_call 9; (with_reducible refine Calls.mono hrg.out ?_); rintro e w1 ⟨rfl, hS1, hE1⟩)
  clear h
  go_loopw [5, 11] (fun v i wr => ∃ (j : Nat) (xs : List PersonV), j ≤ m ∧ i = .int .i64 j ∧ wr.ownsRow w.heap.size 59 3 v j (xs.flatMap perC) ∧ (∀ x ∈ xs, x.Small) ∧ xs = pplN L (k + 1) j ∧ StrL wr s L (k + 1 + 2 * j) ∧ ExtS s w wr) (fun _ i _ => m - (intOf i).toNat)
  case atStart => exact ⟨0, [], by omega, rfl, World.ownsRow_nil _ _ _ _, (fun x hx => by cases hx), rfl, hS1, hE1⟩
  case round =>
    clear hS1 hE1
    obtain ⟨j, xs, hj, rfl, hown, hf, hxn, hS, hE⟩ := hrel
    replace hxn := Lib.hid hxn
    by_cases hlt : j < m
    · replace hf := Lib.hid hf
      have hsz0 := hE.2.2.2.1
      have l1 := hS.lt
      have hd := digB_size j (by omega)
      obtain ⟨d, hdd⟩ : ∃ d, digB j = d := ⟨_, rfl⟩
      obtain ⟨mm, hmm⟩ : ∃ mm, pkF L (k + 1 + 2 * j) [1500, 1600, 1600, 1700, 1800] = mm := ⟨_, rfl⟩
      obtain ⟨sc, hsc⟩ : ∃ sc, smF L (k + 1 + 2 * j + 1) [⟨#[97, 108, 116, 111]⟩, ⟨#[98, 97, 115, 115]⟩, ⟨#[98, 97, 115, 115]⟩, ⟨#[116, 101, 110, 111, 114]⟩] = sc := ⟨_, rfl⟩
      have hmb := pkF_in (L := L) (a := k + 1 + 2 * j) (xs := [1500, 1600, 1600, 1700, 1800]) (lo := 1500) (hi := 1800) (by simp) (by decide)
      rw [hmm] at hmb
      have hsm := smF_mem (L := L) (a := k + 1 + 2 * j + 1) (xs := [⟨#[97, 108, 116, 111]⟩, ⟨#[98, 97, 115, 115]⟩, ⟨#[98, 97, 115, 115]⟩, ⟨#[116, 101, 110, 111, 114]⟩]) (by simp)
      rw [hsc] at hsm
      replace hsm := Lib.hid hsm
      have hnx : pplAt L (k + 1) j = ⟨⟨#[112]⟩ ++ d, mm, sc⟩ := by unfold pplAt; rw [hdd, hmm, hsc]
      replace hnx := Lib.hid hnx
      have hdg := fun W => digit_det j (by omega) W
      rw [hdd] at hdg hd
      replace hdg := Lib.hid hdg
      go_wp2_with (first
        | (go_at_call 29; (with_reducible refine Calls.mono (hdg.out _) ?_); rintro e w2 ⟨rfl, rfl⟩)
        | (go_at_call 30; refine (pick_det s (k + 1 + 2 * j) _ _ 5 [1500, 1600, 1600, 1700, 1800] L _ (by omega) (by simp) (by simp) (by exact hS.ext (Ext.alloc (Ext.refl _) _)) (by exact Nat.ne_of_gt l1) (by exact Blk.new' rfl)).mono ?_; rintro e w3 ⟨rfl, hS3, hE3⟩; rw [hmm]; have hE3' := (hE.alloc _).trans hE3; have ho3 := own_extS hE3 (by omega) (hown.alloc _); clear hS hE hE3 hown)
        | (go_at_call 8; have l3 := hS3.lt; refine (somes_det s (k + 1 + 2 * j + 1) _ _ 4 [⟨#[97, 108, 116, 111]⟩, ⟨#[98, 97, 115, 115]⟩, ⟨#[98, 97, 115, 115]⟩, ⟨#[116, 101, 110, 111, 114]⟩] L _ (by omega) (by simp) (by simp) (by exact hS3.ext (Ext.alloc (Ext.refl _) _)) (by exact Nat.ne_of_gt l3) (by exact Blk.new' rfl)).mono ?_; rintro e w4 ⟨rfl, hS4, hE4⟩; rw [hsc]; have hE4' := (hE3'.alloc _).trans hE4; have ho4 := own_extS hE4 (by omega) (ho3.alloc _); clear hS3 hE3' hE4 ho3)
        | (at_builtin; go_loud (refine wp_app1 _ (.tmp 14) (.tmp 25) 26 59 3 40 _ rfl rfl Tryz.underlying26 perInfo rfl (by decide) (by decide) w.heap.size _ j _ rfl (ho4.alloc _) w4.heap.size (perC ⟨⟨#[112]⟩ ++ d, mm, sc⟩) rfl rfl (Blk.new' rfl) (per_one _) (by omega) (by have := hE4'.2.2.2.1; simp; omega) ?_; intro v' w6 hown6 hgrow6 _)))
      go_roundw
      case rel =>
        exact ⟨j + 1, xs ++ [⟨⟨#[112]⟩ ++ d, mm, sc⟩], by omega, by go_num, by rw [flat_snoc]; exact hown6, (fun x hx => by
          rcases List.mem_append.1 hx with h1 | h1
          · exact hf.out x h1
          · obtain rfl : x = ⟨⟨#[112]⟩ ++ d, mm, sc⟩ := by simpa using h1
            refine ⟨by simp only [ByteArray.size_append, hd]; decide, ?_, by simp only; omega, by simp only; omega⟩
            have h3 := hsm.out
            simp only [List.mem_cons, List.not_mem_nil, or_false] at h3
            rcases h3 with rfl | rfl | rfl | rfl <;> simp only <;> decide), by rw [pplN_succ, ← hxn.out, hnx.out], ((hS4.ext (Ext.alloc (Ext.refl _) _)).app (ho4.alloc _) (by omega) hgrow6).at (by omega), (hE4'.alloc _).app (ho4.alloc _) (by omega) hgrow6⟩
      case measure => simp [intOf]; omega
    · obtain rfl : j = m := by omega
      rcases Nat.eq_zero_or_pos j with h0 | h0
      · subst h0
        obtain ⟨p, c, rfl, hSl⟩ := slc_of_own perC_len hown (by decide) (by omega)
        have hpa : ∀ a, p = some a → w.heap.size ≤ a.block := fun a ha => by
          subst ha
          exact (hown.lt a.block rfl).1
        replace hpa := Lib.hid hpa
        replace hown := Lib.hid hown
        replace hf := Lib.hid hf
        replace hSl := Lib.hid hSl
        go_wp2
        go_ret
        exact ⟨p, 0, c, xs, k + 1, rfl, by omega, hSl.out, hpa.out, hf.out, by rw [hxn.out, pplF_none hm.out]; rfl, by omega, hS.at (by omega), hE⟩
      · obtain ⟨g, cap, rfl, hg, hgl⟩ := hown.form h0
        have hxl : xs.length = j := by
          have := hown.1
          rw [per_flat_len] at this
          omega
        replace hown := Lib.hid hown
        replace hf := Lib.hid hf
        replace hxl := Lib.hid hxl
        obtain ⟨bb, hbb⟩ : ∃ bb, flF L (k + 1 + 2 * j) 15 = bb := ⟨_, rfl⟩
        go_upto_if 34 with (go_at_call 7; (with_reducible refine Calls.mono (flip_det s (k + 1 + 2 * j) 15 L _ (by omega) (by omega) (by omega) hS) ?_); rintro e w2 ⟨rfl, hS2, hE2⟩; rw [hbb])
        have hE2' := hE.trans hE2
        have ho2 := own_extS hE2 (by omega) hown.out
        clear hS hE hE2 hown
        replace ho2 := Lib.hid ho2
        cases bb
        · obtain ⟨p, c, hpc, hSl⟩ := slc_of_own perC_len ho2.out (by decide) (by omega)
          cases hpc
          replace hSl := Lib.hid hSl
          go_wp2
          go_ret
          exact ⟨_, j, _, xs, _, rfl, by omega, hSl.out, (fun a ha => by cases ha; exact hg), hf.out, by rw [hxn.out]; exact pplF_keep hm.out h0 hbb, by omega, hS2, hE2'⟩
        · obtain ⟨i, hi0⟩ : ∃ i, nxF L (k + 1 + 2 * j + 1) j = i := ⟨_, rfl⟩
          have hi : i < j := hi0 ▸ nxF_lt L _ j (by omega)
          replace hi0 := Lib.hid hi0
          go_upto_region 9 with (go_at_call 31; (with_reducible refine Calls.mono (next_det s (k + 1 + 2 * j + 1) j L _ (by omega) (by omega) (by omega) hS2) ?_); rintro e w3 ⟨rfl, hS3, hE3⟩; rw [hi0.out])
          have hE3' := hE2'.trans hE3
          have ho3 := own_extS hE3 (by omega) ho2.out
          clear hS2 hE2' hE3 ho2 hgl
          obtain ⟨x, hx⟩ := getD_some hxl.out hi
          obtain ⟨s1, s2, s3, s4⟩ := hf.out x (List.mem_of_getElem? hx)
          have hgl : g < w3.heap.size := (ho3.lt g rfl).2
          have hgs : g ≠ s := by omega
          have hsl : s < w3.heap.size := hS3.lt
          have c0 : w3.cell? ⟨g, i * 3, none⟩ = some (.string x.name) := own_cell perC_len ho3 hx 0 rfl hi
          have c2 : w3.cell? ⟨g, i * 3 + 2, none⟩ = some (.string x.sect) := own_cell perC_len ho3 hx 2 rfl hi
          have hsl' : s < w3.drew.heap.size := hsl
          obtain ⟨nm, hnm0⟩ : ∃ nm, smF L (k + 1 + 2 * j + 2) [x.name, ⟨#[]⟩, ⟨#[112, 48]⟩] = nm := ⟨_, rfl⟩
          obtain ⟨z2, hz20⟩ : ∃ z, odF L (k + 1 + 2 * j + 3) 500 2500 = z := ⟨_, rfl⟩
          obtain ⟨sc, hsc0⟩ : ∃ nm, smF L (k + 1 + 2 * j + 5) [x.sect, ⟨#[]⟩] = nm := ⟨_, rfl⟩
          have hnm : nm.size ≤ 1000 := by
            have := smF_mem (L := L) (a := k + 1 + 2 * j + 2) (xs := [x.name, ⟨#[]⟩, ⟨#[112, 48]⟩]) (by simp)
            rw [hnm0] at this
            rcases (by simpa using this : nm = x.name ∨ nm = ⟨#[]⟩ ∨ nm = ⟨#[112, 48]⟩) with rfl | rfl | rfl
            · exact s1
            · decide
            · decide
          have hsc : sc.size ≤ 1000 := by
            have := smF_mem (L := L) (a := k + 1 + 2 * j + 5) (xs := [x.sect, ⟨#[]⟩]) (by simp)
            rw [hsc0] at this
            rcases (by simpa using this : sc = x.sect ∨ sc = ⟨#[]⟩) with rfl | rfl
            · exact s2
            · decide
          have hz2 := odF_in (L := L) (a := k + 1 + 2 * j + 3) (lo := 500) (hi := 2500) (by omega) (by omega) (by omega)
          rw [hz20] at hz2
          have hmod := pplF_mod hm.out h0 hbb hi0.out (hxn.out ▸ hx)
          rw [hnm0, hz20, hsc0, ← hxn.out] at hmod
          replace hmod := Lib.hid hmod
          have hS3d : StrL w3.drew s L (k + 1 + 2 * j + 1 + 1) := hS3.ext (Ext.drew (Ext.refl _))
          replace ho3 := Lib.hid ho3
          replace hx := Lib.hid hx
          refine wp_region_facts [1, 2] [([], false, false), ([], false, false), ([], false, false), ([], false, false), ([], false, false), ([4], false, false), ([4, 5], false, false), ([4, 5, 6], false, false), ([4, 5, 6, 7], false, true), ([3, 4, 5, 6, 7, 8], true, false), ([], false, false), ([10], true, false), ([], false, false), ([], false, false), ([13], false, false), ([13, 14], false, false), ([13, 14, 15], false, false), ([13, 14, 15, 16], false, true), ([12, 13, 14, 15, 16, 17], true, false), ([0], false, false), ([0, 19], false, false)] (ExtS s) Ext (fun w => StrL w s L (k + 1 + 2 * j + 1 + 1)) (by kernel_rfl) (by kernel_rfl) Ext.refl (fun _ _ _ => ExtS.trans) (fun _ _ h => h.extS) (fun _ _ h => h.2.2.2.1) (fun _ _ h he => h.ext he) hS3d ?_
          dsimp only [List.length_cons, List.length_nil, List.drop_succ_cons, List.drop_zero, List.drop_nil]
          refine fac_quiet 0 rfl rfl rfl (fun _ _ h he => h.ext he) rfl rfl ?_
          apply Exists.intro
          refine ⟨fun sv w' hw' hfa => ?_, ?_⟩
          · refine ⟨rfl, ?_⟩
            simp only [putsL]
            change quietTo _ _ _ _ (Sem.run _ (execOp (Act.eval _) _) _)
            try simp only [Act.put, List.setIfInBounds_toArray, List.set_cons_succ, List.set_cons_zero]
            simp [go_sem, quietTo, Ext.refl]
            all_goals first
              | rfl
          refine fac_late 1 rfl rfl Ext.refl (fun _ _ h he => h.ext he) rfl rfl (fun _ _ _ _ h => h) ?_
          apply Exists.intro
          refine ⟨fun sv w' hw' hfa => ?_, ?_⟩
          · refine ⟨rfl, fun w2 => ?_⟩
            simp only [putsL]
            change pureTo _ _ (Sem.run _ (execOp (Act.eval _) _) _)
            try simp only [Act.put, List.setIfInBounds_toArray, List.set_cons_succ, List.set_cons_zero]
            simp [go_sem, pureTo]
            all_goals try simp (disch := omega) only [IntWalk.i64_in]
            all_goals first
              | rfl
          refine fac_late 2 rfl rfl Ext.refl (fun _ _ h he => h.ext he) rfl rfl (fun _ _ _ _ h => h) ?_
          apply Exists.intro
          refine ⟨fun sv w' hw' hfa => ?_, ?_⟩
          · refine ⟨rfl, fun w2 => ?_⟩
            simp only [putsL]
            change pureTo _ _ (Sem.run _ (execOp (Act.eval _) _) _)
            try simp only [Act.put, List.setIfInBounds_toArray, List.set_cons_succ, List.set_cons_zero]
            simp [go_sem, pureTo]
            all_goals try simp (disch := omega) only [IntWalk.i64_in]
            all_goals first
              | rfl
          refine fac_quiet 3 rfl rfl rfl (fun _ _ h he => h.ext he) rfl rfl ?_
          apply Exists.intro
          refine ⟨fun sv w' hw' hfa => ?_, ?_⟩
          · refine ⟨rfl, ?_⟩
            simp only [putsL]
            change quietTo _ _ _ _ (Sem.run _ (execOp (Act.eval _) _) _)
            try simp only [Act.put, List.setIfInBounds_toArray, List.set_cons_succ, List.set_cons_zero]
            simp [go_sem, quietTo, Ext.refl]
            all_goals first
              | rfl
          refine fac_quiet 4 rfl rfl rfl (fun _ _ h he => h.ext he) rfl rfl ?_
          apply Exists.intro
          refine ⟨fun sv w' hw' hfa => ?_, ?_⟩
          · refine ⟨rfl, ?_⟩
            simp only [putsL]
            change quietTo _ _ _ _ (Sem.run _ (execOp (Act.eval _) _) _)
            try simp only [Act.put, List.setIfInBounds_toArray, List.set_cons_succ, List.set_cons_zero]
            simp [go_sem, quietTo, Ext.refl]
            all_goals first
              | rfl
          refine fac_quiet 5 rfl rfl rfl (fun _ _ h he => h.ext he) rfl rfl ?_
          apply Exists.intro
          refine ⟨fun sv w' hw' hfa => ?_, ?_⟩
          · obtain ⟨f4, -⟩ := hfa
            replace f4 : sv 4 = _ := f4
            try dsimp only at f4
            refine ⟨rfl, ?_⟩
            simp only [putsL]
            change quietTo _ _ _ _ (Sem.run _ (execOp (Act.eval (Act.put _ (some 45) (sv 4))) _) _)
            try simp only [Act.put, List.setIfInBounds_toArray, List.set_cons_succ, List.set_cons_zero]
            simp [go_sem, quietTo, Ext.refl, f4]
            all_goals first
              | rfl
          refine fac_quiet 6 rfl rfl rfl (fun _ _ h he => h.ext he) rfl rfl ?_
          apply Exists.intro
          refine ⟨fun sv w' hw' hfa => ?_, ?_⟩
          · obtain ⟨_, f5, -⟩ := hfa
            replace f5 : sv 5 = _ := f5
            try dsimp only at f5
            refine ⟨rfl, ?_⟩
            simp only [putsL]
            change quietTo _ _ _ _ (Sem.run _ (execOp (Act.eval (Act.put (Act.put _ (some 46) (sv 5)) (some 45) (sv 4))) _) _)
            try simp only [Act.put, List.setIfInBounds_toArray, List.set_cons_succ, List.set_cons_zero]
            simp [go_sem, quietTo, Ext.refl, f5]
            all_goals first
              | rfl
          refine fac_quiet 7 rfl rfl rfl (fun _ _ h he => h.ext he) rfl rfl ?_
          apply Exists.intro
          refine ⟨fun sv w' hw' hfa => ?_, ?_⟩
          · obtain ⟨_, _, f6, -⟩ := hfa
            replace f6 : sv 6 = _ := f6
            try dsimp only at f6
            have d0 : w'.cell? ⟨g, i * 3, none⟩ = some (.string x.name) := (hw'.cell hgl hgs _).trans c0
            have d2 : w'.cell? ⟨g, i * 3 + 2, none⟩ = some (.string x.sect) := (hw'.cell hgl hgs _).trans c2
            refine ⟨rfl, ?_⟩
            simp only [putsL]
            change quietTo _ _ _ _ (Sem.run _ (execOp (Act.eval (Act.put (Act.put (Act.put _ (some 47) (sv 6)) (some 46) (sv 5)) (some 45) (sv 4))) _) _)
            try simp only [Act.put, List.setIfInBounds_toArray, List.set_cons_succ, List.set_cons_zero]
            simp [go_sem, quietTo, Ext.refl, ↓IntWalk.iteOmega, f6, d0, d2]
            all_goals try simp (disch := omega) only [IntWalk.i64_in]
            all_goals first
              | rfl
          refine fac_row 8 rfl rfl rfl (fun _ _ h he => h.ext he) (fun _ _ h => h.2.2.2.1) (fun _ _ _ _ _ he hg hb => hb.extS (Nat.ne_of_gt (Nat.lt_of_lt_of_le hsl hg)) he) ?_
          apply Exists.intro
          apply Exists.intro
          apply Exists.intro
          apply Exists.intro
          refine ⟨fun sv w' hw' hfa => ?_, ?_⟩
          · obtain ⟨_, _, _, f7, -⟩ := hfa
            replace f7 : sv 7 = _ := f7
            try dsimp only at f7
            refine ⟨rfl, ?_⟩
            simp only [putsL]
            change rowTo _ _ _ _ _ (Sem.run _ (execOp (Act.eval (Act.put (Act.put (Act.put (Act.put _ (some 48) (sv 7)) (some 47) (sv 6)) (some 46) (sv 5)) (some 45) (sv 4))) _) _)
            try simp only [Act.put, List.setIfInBounds_toArray, List.set_cons_succ, List.set_cons_zero]
            simp [go_sem, rowTo, Ext.refl, f7]
            all_goals try simp (disch := omega) only [IntWalk.i64_in]
            all_goals first
              | rfl
              | exact ⟨rfl, rfl⟩
              | exact ⟨⟨rfl, rfl⟩, rfl⟩
          refine fac_loud 9 rfl rfl rfl ?_
          refine ⟨(fun y _ => y 9 = .string nm), (fun w => StrL w s L (k + 1 + 2 * j + 1 + 1 + 1)), fun sv w' hw' hfa hcc => ?_, ?_, ?_, ?_⟩
          · obtain ⟨f3, f4, f5, f6, f7, f8, -⟩ := hfa
            replace f3 : sv 3 = _ := f3
            try dsimp only at f3
            replace f4 : sv 4 = _ := f4
            try dsimp only at f4
            replace f5 : sv 5 = _ := f5
            try dsimp only at f5
            replace f6 : sv 6 = _ := f6
            try dsimp only at f6
            replace f7 : sv 7 = _ := f7
            try dsimp only at f7
            obtain ⟨g8, f8, l8, b8⟩ := f8
            replace f8 : sv 8 = _ := f8
            obtain ⟨p8, q8⟩ := b8.walk
            have d0 : w'.cell? ⟨g, i * 3, none⟩ = some (.string x.name) := (hw'.cell hgl hgs _).trans c0
            have d2 : w'.cell? ⟨g, i * 3 + 2, none⟩ = some (.string x.sect) := (hw'.cell hgl hgs _).trans c2
            refine ⟨rfl, ?_⟩
            simp only [putsL]
            change outc _ _ (Sem.run _ (execOp (Act.eval (Act.put (Act.put (Act.put (Act.put (Act.put (Act.put _ (some 49) (sv 8)) (some 48) (sv 7)) (some 47) (sv 6)) (some 46) (sv 5)) (some 45) (sv 4)) (some 44) (sv 3))) _) _)
            try simp only [Act.put, List.setIfInBounds_toArray, List.set_cons_succ, List.set_cons_zero]
            simp [go_sem, outc, f3, f8, p8, q8, d0, d2]
            refine (somes_det s (k + 1 + 2 * j + 1 + 1) _ _ 3 [x.name, ⟨#[]⟩, ⟨#[112, 48]⟩] L _ (by omega) (by simp) (by simp) hcc (by omega) b8).mono ?_
            rintro e w4 ⟨rfl, hS4, hE4⟩
            exact ⟨_, rfl, ⟨hE4, hS4⟩, by rw [← hnm0]; rfl⟩
          · intro x w w' h he; exact h
          · exact fun _ _ h he => h.ext he
          refine fac_quiet 10 rfl rfl rfl (fun _ _ h he => h.ext he) rfl rfl ?_
          apply Exists.intro
          refine ⟨fun sv w' hw' hfa => ?_, ?_⟩
          · refine ⟨rfl, ?_⟩
            simp only [putsL]
            change quietTo _ _ _ _ (Sem.run _ (execOp (Act.eval _) _) _)
            try simp only [Act.put, List.setIfInBounds_toArray, List.set_cons_succ, List.set_cons_zero]
            simp [go_sem, quietTo, Ext.refl]
            all_goals first
              | rfl
          refine fac_loud 11 rfl rfl rfl ?_
          refine ⟨(fun y _ => y 11 = .int .i64 z2), (fun w => StrL w s L (k + 1 + 2 * j + 1 + 1 + 1 + 2)), fun sv w' hw' hfa hcc => ?_, ?_, ?_, ?_⟩
          · obtain ⟨f10, -⟩ := hfa
            replace f10 : sv 10 = _ := f10
            try dsimp only at f10
            have d0 : w'.cell? ⟨g, i * 3, none⟩ = some (.string x.name) := (hw'.cell hgl hgs _).trans c0
            have d2 : w'.cell? ⟨g, i * 3 + 2, none⟩ = some (.string x.sect) := (hw'.cell hgl hgs _).trans c2
            refine ⟨rfl, ?_⟩
            simp only [putsL]
            change outc _ _ (Sem.run _ (execOp (Act.eval (Act.put _ (some 51) (sv 10))) _) _)
            try simp only [Act.put, List.setIfInBounds_toArray, List.set_cons_succ, List.set_cons_zero]
            simp [go_sem, outc, f10, d0, d2]
            refine (odd_det s (k + 1 + 2 * j + 1 + 1 + 1) 500 2500 L _ (by omega) (by omega) (by omega) (by omega) (by omega) hcc).mono ?_
            rintro e w4 ⟨rfl, hS4, hE4⟩
            exact ⟨_, rfl, ⟨hE4, hS4⟩, by rw [← hz20]; rfl⟩
          · intro x w w' h he; exact h
          · exact fun _ _ h he => h.ext he
          refine fac_quiet 12 rfl rfl rfl (fun _ _ h he => h.ext he) rfl rfl ?_
          apply Exists.intro
          refine ⟨fun sv w' hw' hfa => ?_, ?_⟩
          · refine ⟨rfl, ?_⟩
            simp only [putsL]
            change quietTo _ _ _ _ (Sem.run _ (execOp (Act.eval _) _) _)
            try simp only [Act.put, List.setIfInBounds_toArray, List.set_cons_succ, List.set_cons_zero]
            simp [go_sem, quietTo, Ext.refl]
            all_goals first
              | rfl
          refine fac_quiet 13 rfl rfl rfl (fun _ _ h he => h.ext he) rfl rfl ?_
          apply Exists.intro
          refine ⟨fun sv w' hw' hfa => ?_, ?_⟩
          · refine ⟨rfl, ?_⟩
            simp only [putsL]
            change quietTo _ _ _ _ (Sem.run _ (execOp (Act.eval _) _) _)
            try simp only [Act.put, List.setIfInBounds_toArray, List.set_cons_succ, List.set_cons_zero]
            simp [go_sem, quietTo, Ext.refl]
            all_goals first
              | rfl
          refine fac_quiet 14 rfl rfl rfl (fun _ _ h he => h.ext he) rfl rfl ?_
          apply Exists.intro
          refine ⟨fun sv w' hw' hfa => ?_, ?_⟩
          · obtain ⟨f13, -⟩ := hfa
            replace f13 : sv 13 = _ := f13
            try dsimp only at f13
            refine ⟨rfl, ?_⟩
            simp only [putsL]
            change quietTo _ _ _ _ (Sem.run _ (execOp (Act.eval (Act.put _ (some 54) (sv 13))) _) _)
            try simp only [Act.put, List.setIfInBounds_toArray, List.set_cons_succ, List.set_cons_zero]
            simp [go_sem, quietTo, Ext.refl, f13]
            all_goals first
              | rfl
          refine fac_quiet 15 rfl rfl rfl (fun _ _ h he => h.ext he) rfl rfl ?_
          apply Exists.intro
          refine ⟨fun sv w' hw' hfa => ?_, ?_⟩
          · obtain ⟨_, f14, -⟩ := hfa
            replace f14 : sv 14 = _ := f14
            try dsimp only at f14
            refine ⟨rfl, ?_⟩
            simp only [putsL]
            change quietTo _ _ _ _ (Sem.run _ (execOp (Act.eval (Act.put (Act.put _ (some 55) (sv 14)) (some 54) (sv 13))) _) _)
            try simp only [Act.put, List.setIfInBounds_toArray, List.set_cons_succ, List.set_cons_zero]
            simp [go_sem, quietTo, Ext.refl, f14]
            all_goals first
              | rfl
          refine fac_quiet 16 rfl rfl rfl (fun _ _ h he => h.ext he) rfl rfl ?_
          apply Exists.intro
          refine ⟨fun sv w' hw' hfa => ?_, ?_⟩
          · obtain ⟨_, _, f15, -⟩ := hfa
            replace f15 : sv 15 = _ := f15
            try dsimp only at f15
            have d0 : w'.cell? ⟨g, i * 3, none⟩ = some (.string x.name) := (hw'.cell hgl hgs _).trans c0
            have d2 : w'.cell? ⟨g, i * 3 + 2, none⟩ = some (.string x.sect) := (hw'.cell hgl hgs _).trans c2
            refine ⟨rfl, ?_⟩
            simp only [putsL]
            change quietTo _ _ _ _ (Sem.run _ (execOp (Act.eval (Act.put (Act.put (Act.put _ (some 56) (sv 15)) (some 55) (sv 14)) (some 54) (sv 13))) _) _)
            try simp only [Act.put, List.setIfInBounds_toArray, List.set_cons_succ, List.set_cons_zero]
            simp [go_sem, quietTo, Ext.refl, ↓IntWalk.iteOmega, f15, d0, d2]
            all_goals try simp (disch := omega) only [IntWalk.i64_in]
            all_goals first
              | rfl
          refine fac_row 17 rfl rfl rfl (fun _ _ h he => h.ext he) (fun _ _ h => h.2.2.2.1) (fun _ _ _ _ _ he hg hb => hb.extS (Nat.ne_of_gt (Nat.lt_of_lt_of_le hsl hg)) he) ?_
          apply Exists.intro
          apply Exists.intro
          apply Exists.intro
          apply Exists.intro
          refine ⟨fun sv w' hw' hfa => ?_, ?_⟩
          · obtain ⟨_, _, _, f16, -⟩ := hfa
            replace f16 : sv 16 = _ := f16
            try dsimp only at f16
            refine ⟨rfl, ?_⟩
            simp only [putsL]
            change rowTo _ _ _ _ _ (Sem.run _ (execOp (Act.eval (Act.put (Act.put (Act.put (Act.put _ (some 57) (sv 16)) (some 56) (sv 15)) (some 55) (sv 14)) (some 54) (sv 13))) _) _)
            try simp only [Act.put, List.setIfInBounds_toArray, List.set_cons_succ, List.set_cons_zero]
            simp [go_sem, rowTo, Ext.refl, f16]
            all_goals try simp (disch := omega) only [IntWalk.i64_in]
            all_goals first
              | rfl
              | exact ⟨rfl, rfl⟩
              | exact ⟨⟨rfl, rfl⟩, rfl⟩
          refine fac_loud 18 rfl rfl rfl ?_
          refine ⟨(fun y _ => y 18 = .string sc), (fun w => StrL w s L (k + 1 + 2 * j + 1 + 1 + 1 + 2 + 1)), fun sv w' hw' hfa hcc => ?_, ?_, ?_, ?_⟩
          · obtain ⟨f12, f13, f14, f15, f16, f17, -⟩ := hfa
            replace f12 : sv 12 = _ := f12
            try dsimp only at f12
            replace f13 : sv 13 = _ := f13
            try dsimp only at f13
            replace f14 : sv 14 = _ := f14
            try dsimp only at f14
            replace f15 : sv 15 = _ := f15
            try dsimp only at f15
            replace f16 : sv 16 = _ := f16
            try dsimp only at f16
            obtain ⟨g17, f17, l17, b17⟩ := f17
            replace f17 : sv 17 = _ := f17
            obtain ⟨p17, q17⟩ := b17.walk
            have d0 : w'.cell? ⟨g, i * 3, none⟩ = some (.string x.name) := (hw'.cell hgl hgs _).trans c0
            have d2 : w'.cell? ⟨g, i * 3 + 2, none⟩ = some (.string x.sect) := (hw'.cell hgl hgs _).trans c2
            refine ⟨rfl, ?_⟩
            simp only [putsL]
            change outc _ _ (Sem.run _ (execOp (Act.eval (Act.put (Act.put (Act.put (Act.put (Act.put (Act.put _ (some 58) (sv 17)) (some 57) (sv 16)) (some 56) (sv 15)) (some 55) (sv 14)) (some 54) (sv 13)) (some 53) (sv 12))) _) _)
            try simp only [Act.put, List.setIfInBounds_toArray, List.set_cons_succ, List.set_cons_zero]
            simp [go_sem, outc, f12, f17, p17, q17, d0, d2]
            refine (somes_det s (k + 1 + 2 * j + 1 + 1 + 1 + 2) _ _ 2 [x.sect, ⟨#[]⟩] L _ (by omega) (by simp) (by simp) hcc (by omega) b17).mono ?_
            rintro e w4 ⟨rfl, hS4, hE4⟩
            exact ⟨_, rfl, ⟨hE4, hS4⟩, by rw [← hsc0]; rfl⟩
          · intro x w w' h he; exact h
          · exact fun _ _ h he => h.ext he
          refine fac_quiet 19 rfl rfl rfl (fun _ _ h he => h.ext he) rfl rfl ?_
          apply Exists.intro
          refine ⟨fun sv w' hw' hfa => ?_, ?_⟩
          · obtain ⟨f0, -⟩ := hfa
            replace f0 : sv 0 = _ := f0
            try dsimp only at f0
            refine ⟨rfl, ?_⟩
            simp only [putsL]
            change quietTo _ _ _ _ (Sem.run _ (execOp (Act.eval (Act.put _ (some 41) (sv 0))) _) _)
            try simp only [Act.put, List.setIfInBounds_toArray, List.set_cons_succ, List.set_cons_zero]
            simp [go_sem, quietTo, Ext.refl, f0]
            all_goals first
              | rfl
          refine fac_quiet 20 rfl rfl rfl (fun _ _ h he => h.ext he) rfl rfl ?_
          apply Exists.intro
          refine ⟨fun sv w' hw' hfa => ?_, ?_⟩
          · obtain ⟨_, f19, -⟩ := hfa
            replace f19 : sv 19 = _ := f19
            try dsimp only at f19
            refine ⟨rfl, ?_⟩
            simp only [putsL]
            change quietTo _ _ _ _ (Sem.run _ (execOp (Act.eval (Act.put (Act.put _ (some 60) (sv 19)) (some 41) (sv 0))) _) _)
            try simp only [Act.put, List.setIfInBounds_toArray, List.set_cons_succ, List.set_cons_zero]
            simp [go_sem, quietTo, Ext.refl, f19]
            all_goals first
              | rfl
          refine fac_nil fun xq wrq herq hfrq hcrq holdq hapq => ?_
          obtain ⟨f0, f1, f2, f3, f4, f5, f6, f7, f8, f9, f10, f11, f12, f13, f14, f15, f16, f17, f18, f19, f20, -⟩ := hfrq
          replace f0 : xq 0 = _ := f0
          try dsimp only at f0
          replace f1 : xq 1 = _ := f1
          try dsimp only at f1
          replace f2 : xq 2 = _ := f2
          try dsimp only at f2
          replace f3 : xq 3 = _ := f3
          try dsimp only at f3
          replace f4 : xq 4 = _ := f4
          try dsimp only at f4
          replace f5 : xq 5 = _ := f5
          try dsimp only at f5
          replace f6 : xq 6 = _ := f6
          try dsimp only at f6
          replace f7 : xq 7 = _ := f7
          try dsimp only at f7
          obtain ⟨g8, f8, l8, b8⟩ := f8
          replace f8 : xq 8 = _ := f8
          obtain ⟨p8, q8⟩ := b8.walk
          replace f9 : xq 9 = _ := f9
          replace f10 : xq 10 = _ := f10
          try dsimp only at f10
          replace f11 : xq 11 = _ := f11
          replace f12 : xq 12 = _ := f12
          try dsimp only at f12
          replace f13 : xq 13 = _ := f13
          try dsimp only at f13
          replace f14 : xq 14 = _ := f14
          try dsimp only at f14
          replace f15 : xq 15 = _ := f15
          try dsimp only at f15
          replace f16 : xq 16 = _ := f16
          try dsimp only at f16
          obtain ⟨g17, f17, l17, b17⟩ := f17
          replace f17 : xq 17 = _ := f17
          obtain ⟨p17, q17⟩ := b17.walk
          replace f18 : xq 18 = _ := f18
          replace f19 : xq 19 = _ := f19
          try dsimp only at f19
          replace f20 : xq 20 = _ := f20
          try dsimp only at f20
          change wpList _ _ _ _ (Act.put (Act.put (Act.put (Act.put (Act.put (Act.put (Act.put (Act.put (Act.put (Act.put (Act.put (Act.put (Act.put (Act.put (Act.put (Act.put (Act.put (Act.put (Act.put (Act.put (Act.put _ (some 41) (xq 0)) (some 42) (xq 1)) (some 43) (xq 2)) (some 44) (xq 3)) (some 45) (xq 4)) (some 46) (xq 5)) (some 47) (xq 6)) (some 48) (xq 7)) (some 49) (xq 8)) (some 50) (xq 9)) (some 51) (xq 10)) (some 52) (xq 11)) (some 53) (xq 12)) (some 54) (xq 13)) (some 55) (xq 14)) (some 56) (xq 15)) (some 57) (xq 16)) (some 58) (xq 17)) (some 59) (xq 18)) (some 60) (xq 19)) (some 61) (xq 20)) _
          simp only [putsL, Nat.reduceAdd, List.drop_succ_cons, List.drop_zero, List.drop_nil, Act.put, List.setIfInBounds_toArray, List.set_cons_succ, List.set_cons_zero]
          try simp only [f0, f1, f2, f3, f4, f5, f6, f7, f8, f9, f10, f11, f12, f13, f14, f15, f16, f17, f18, f19, f20]
          clear f0 f1 f2 f3 f4 f5 f6 f7 f10 f12 f13 f14 f15 f16 f19 f20
          clear holdq hapq
          have hoq := own_extS herq (by omega) (World.ownsRow.drew ho3.out)
          have hEq : ExtS s w wrq := ((hE3'.drew).trans herq)
          clear ho3 hE3' herq c0 c2 b8 p8 q8 b17 p17 q17 l8 l17 hS3 hS3d hsl hsl' hgl
          have c0 : wrq.cell? ⟨g, i * 3, none⟩ = some (.string x.name) := own_cell perC_len hoq hx.out 0 rfl hi
          have c1 : wrq.cell? ⟨g, i * 3 + 1, none⟩ = some (.int .i64 x.high) := own_cell perC_len hoq hx.out 1 rfl hi
          have c2 : wrq.cell? ⟨g, i * 3 + 2, none⟩ = some (.string x.sect) := own_cell perC_len hoq hx.out 2 rfl hi
          have z0 : ∀ o, wrq.frozen? ⟨g, o, none⟩ = false := fun o => hoq.frozenAt o
          have hsg : s < g := by omega
          have hwg : w.heap.size ≤ g := by omega
          have hset := per_mod3 hoq hx.out nm sc z2
          obtain ⟨p, c, hpc, hSl⟩ := slc_of_own perC_len hset (by decide) (by omega)
          cases hpc
          replace hoq := Lib.hid hoq
          replace hset := Lib.hid hset
          replace hSl := Lib.hid hSl
          clear hg
          go_wp2
          go_ret
          exact ⟨_, j, _, xs.set i ⟨nm, z2, sc⟩, _, rfl, by omega, hSl.out, (fun a ha => by cases ha; exact hwg), (fun y hy => by
            rcases List.mem_or_eq_of_mem_set hy with h1 | h1
            · exact hf.out y h1
            · subst h1
              exact ⟨hnm, hsc, hz2.1, hz2.2⟩), hmod.out, by omega, (((hcrq.set hsg _).set hsg _).set hsg _).at (by omega), ((hEq.setCell (.inr hwg) _).setCell (.inr hwg) _).setCell (.inr hwg) _⟩
end Go.Proofs.YtfcoeikekbjgpaaGreatDoor
