/- Parts that the stream makes, told exactly. Conditions: as each theorem says. -/
import Derived.Test.YtdehmioobkneiaaGreatDoorTdPartsD
import Derived.Test.YtdehmioobkneiaaGreatDoorTdDetA
set_option linter.unusedSimpArgs false
set_option linter.unusedVariables false
namespace Go.Proofs.YtdehmioobkneiaaGreatDoor
open Go Go.RowKit
def nm3 : List ByteArray := [⟨#[116, 101, 110, 111, 114]⟩, ⟨#[97, 108, 116, 111]⟩, ⟨#[98, 97, 115, 115]⟩]
def ptOne (L : Src) (a j : Nat) : PartV :=
  ⟨nm3.getD j ⟨#[]⟩, pkF L (a + 4 * j) [42, 48, 50, 50, 52], pkF L (a + 4 * j) [42, 48, 50, 50, 52] + pkF L (a + 4 * j + 1 + 1) [7, 10, 12, 14], pkF L (a + 4 * j + 1) [0, 0, 1, 1, 2], pkF L (a + 4 * j + 1) [0, 0, 1, 1, 2] + pkF L (a + 4 * j + 1 + 1 + 1) [0, 1, 3]⟩
def ptN (L : Src) (a n : Nat) : List PartV := (List.range n).map (ptOne L a)
theorem ptN_succ (L : Src) (a n : Nat) : ptN L a (n + 1) = ptN L a n ++ [ptOne L a n] := by simp [ptN, List.range_succ]
def ptF (L : Src) (a : Nat) : List PartV × Nat :=
  let n := (rgF L a 0 3).toNat
  let b := a + 1 + 4 * n
  if n = 0 then ([], b) else if flF L b 12 then
    let i := nxF L (b + 1) n
    let x := (ptN L (a + 1) n).getD i default
    ((ptN L (a + 1) n).set i ⟨smF L (b + 1 + 1) [x.name, ⟨#[]⟩, ⟨#[116, 101, 110, 111, 114]⟩], pkF L (b + 1 + 1 + 1 + 1 + 1) [x.lo, 100], x.hi, pkF L (b + 1 + 1 + 1) [x.least, -1, 5], pkF L (b + 1 + 1 + 1 + 1) [x.most, 101]⟩, b + 6)
  else (ptN L (a + 1) n, b + 1)
theorem ptF_none {L : Src} {a : Nat} (h : rgF L a 0 3 = ((0 : Nat) : Int)) : ptF L a = ([], a + 1) := by
  unfold ptF; rw [h]; rfl
theorem ptF_keep {L : Src} {a n : Nat} (h : rgF L a 0 3 = n) (h0 : 0 < n) (hf : flF L (a + 1 + 4 * n) 12 = false) : ptF L a = (ptN L (a + 1) n, a + 1 + 4 * n + 1) := by
  unfold ptF; rw [h, Int.toNat_natCast]; simp only; rw [if_neg (by omega), hf]; rfl
theorem ptF_mod {L : Src} {a n i : Nat} {x : PartV} (h : rgF L a 0 3 = n) (h0 : 0 < n) (hf : flF L (a + 1 + 4 * n) 12 = true) (hi : nxF L (a + 1 + 4 * n + 1) n = i) (hx : (ptN L (a + 1) n)[i]? = some x) :
    ptF L a = ((ptN L (a + 1) n).set i ⟨smF L (a + 1 + 4 * n + 1 + 1) [x.name, ⟨#[]⟩, ⟨#[116, 101, 110, 111, 114]⟩], pkF L (a + 1 + 4 * n + 1 + 1 + 1 + 1 + 1) [x.lo, 100], x.hi, pkF L (a + 1 + 4 * n + 1 + 1 + 1) [x.least, -1, 5], pkF L (a + 1 + 4 * n + 1 + 1 + 1 + 1) [x.most, 101]⟩, a + 1 + 4 * n + 6) := by
  unfold ptF; rw [h, Int.toNat_natCast]; simp only; rw [if_neg (by omega), if_pos hf, hi, List.getD_eq_getElem?_getD, hx]; rfl
/-- What the makers of parts answer. -/
def PartR (F : List PartV × Nat) (s k d : Nat) (L : Src) (w : World) (e : Ending) (w' : World) : Prop :=
  ∃ (p : Option Addr) (n c : Nat) (P : List PartV) (k' : Nat), e = .returned (.slice p n c) ∧ n ≤ 3 ∧ w'.ownsRow (w.heap.size + 1) 46 5 (.slice p n c) n (P.flatMap partC) ∧ P.length = n ∧ (∀ x ∈ P, x.Fine) ∧ F = (P, k') ∧ k' ≤ k + d ∧ StrL w' s L k' ∧ ExtS s w w'
set_option maxRecDepth 100000 in
set_option maxHeartbeats 3200000 in
theorem partList_det (s k : Nat) (L : Src) (w : World) (hk : k ≤ 999000) (h : StrL w s L k) :
    Calls Tryz.prog 25 #[.pointer (some ⟨s, 0, none⟩)] w (PartR (ptF L k) s k 30 L w) := by
  have l0 := h.lt
  have hv01 := rgF_in (L := L) (a := k) (lo := 0) (hi := 3) (by omega)
  obtain ⟨m, hm⟩ : ∃ m : Nat, rgF L k 0 3 = m := ⟨(rgF L k 0 3).toNat, by omega⟩
  rw [hm] at hv01
  obtain ⟨hv0, hv1⟩ := hv01
  replace hm := Lib.hid hm
  go_enter Tryz.func25, Tryz.ntmps25
  go_upto_region 3 with (go_at_call 7; (with_reducible refine Calls.mono (range_det s k 0 3 L _ (by omega) (by omega) (by omega) (by omega) (by omega) (by exact h.ext (Ext.alloc (Ext.refl _) _))) ?_); rintro e w1 ⟨rfl, hS1, hE1⟩; rw [hm.out])
  have hN : Blk w1 w.heap.size 9 #[.string ⟨#[116, 101, 110, 111, 114]⟩, .string ⟨#[97, 108, 116, 111]⟩, .string ⟨#[98, 97, 115, 115]⟩] := Blk.extS (Blk.new' rfl) (by omega) hE1
  have hE2 : ExtS s w w1 := ((ExtS.refl s w).alloc _).trans hE1
  clear h hE1
  go_loopw [3, 14] (fun v i wr => ∃ (j : Nat) (xs : List PartV), j ≤ m ∧ i = .int .i64 j ∧ wr.ownsRow (w.heap.size + 1) 46 5 v j (xs.flatMap partC) ∧ (∀ x ∈ xs, x.Fine) ∧ xs = ptN L (k + 1) j ∧ Blk wr w.heap.size 9 #[.string ⟨#[116, 101, 110, 111, 114]⟩, .string ⟨#[97, 108, 116, 111]⟩, .string ⟨#[98, 97, 115, 115]⟩] ∧ StrL wr s L (k + 1 + 4 * j) ∧ ExtS s w wr) (fun _ i _ => m - (intOf i).toNat)
  case atStart => exact ⟨0, [], Nat.zero_le _, rfl, World.ownsRow_nil _ _ _ _, (fun x hx => by cases hx), rfl, hN, hS1, hE2⟩
  case round =>
    clear hN hS1 hE2
    obtain ⟨j, xs, hj, rfl, hown, hf, hxn, hN, hS, hE⟩ := hrel
    replace hxn := Lib.hid hxn
    by_cases hlt : j < m
    · obtain ⟨nm, hnm0⟩ : ∃ nm, nm3.getD j ⟨#[]⟩ = nm := ⟨_, rfl⟩
      obtain ⟨hnm, hcell⟩ : nm.size ≤ 1000 ∧ wr.cell? ⟨w.heap.size, j, none⟩ = some (.string nm) := by
        have h3 : j = 0 ∨ j = 1 ∨ j = 2 := by omega
        rcases h3 with rfl | rfl | rfl <;> subst hnm0
        · exact ⟨by decide, hN.cell 0⟩
        · exact ⟨by decide, hN.cell 1⟩
        · exact ⟨by decide, hN.cell 2⟩
      obtain ⟨low, hlow⟩ : ∃ v, pkF L (k + 1 + 4 * j) [42, 48, 50, 50, 52] = v := ⟨_, rfl⟩
      obtain ⟨la, lb⟩ := pkF_in (L := L) (a := k + 1 + 4 * j) (xs := [42, 48, 50, 50, 52]) (lo := 42) (hi := 52) (by simp) (by decide)
      obtain ⟨least, hleast⟩ : ∃ v, pkF L (k + 1 + 4 * j + 1) [0, 0, 1, 1, 2] = v := ⟨_, rfl⟩
      obtain ⟨ma, mb⟩ := pkF_in (L := L) (a := k + 1 + 4 * j + 1) (xs := [0, 0, 1, 1, 2]) (lo := 0) (hi := 2) (by simp) (by decide)
      obtain ⟨up, hup⟩ : ∃ v, pkF L (k + 1 + 4 * j + 1 + 1) [7, 10, 12, 14] = v := ⟨_, rfl⟩
      obtain ⟨ua, ub⟩ := pkF_in (L := L) (a := k + 1 + 4 * j + 1 + 1) (xs := [7, 10, 12, 14]) (lo := 7) (hi := 14) (by simp) (by decide)
      obtain ⟨more, hmore⟩ : ∃ v, pkF L (k + 1 + 4 * j + 1 + 1 + 1) [0, 1, 3] = v := ⟨_, rfl⟩
      obtain ⟨va, vb⟩ := pkF_in (L := L) (a := k + 1 + 4 * j + 1 + 1 + 1) (xs := [0, 1, 3]) (lo := 0) (hi := 3) (by simp) (by decide)
      have hone : ptOne L (k + 1) j = ⟨nm, low, low + up, least, least + more⟩ := by unfold ptOne; rw [hnm0, hlow, hleast, hup, hmore]
      rw [hlow] at la lb
      rw [hleast] at ma mb
      rw [hup] at ua ub
      rw [hmore] at va vb
      replace hone := Lib.hid hone; replace hnm0 := Lib.hid hnm0
      have hNl := hN.lt
      replace hf := Lib.hid hf
      have hsz0 := hE.2.2.2.1
      go_wp2_with (first
        | (go_at_call 10; have l1 := hS.lt; refine (pick_det s (k + 1 + 4 * j) _ _ 5 [42, 48, 50, 50, 52] L _ (by omega) (by simp) (by simp) (by exact hS.ext (Ext.alloc (Ext.refl _) _)) (by exact Nat.ne_of_gt l1) (by exact Blk.new' rfl)).mono ?_; rintro e w2 ⟨rfl, hS2, hE2⟩; rw [hlow]; have hE2' := (hE.alloc _).trans hE2; have ho2 := own_extS hE2 (by omega) (hown.alloc _); have hN2 := (hN.alloc _).extS (by omega) hE2; clear hS hE hE2 hown hN)
        | (go_at_call 10; have l2 := hS2.lt; refine (pick_det s (k + 1 + 4 * j + 1) _ _ 5 [0, 0, 1, 1, 2] L _ (by omega) (by simp) (by simp) (by exact hS2.ext (Ext.alloc (Ext.refl _) _)) (by exact Nat.ne_of_gt l2) (by exact Blk.new' rfl)).mono ?_; rintro e w3 ⟨rfl, hS3, hE3⟩; rw [hleast]; have hE3' := (hE2'.alloc _).trans hE3; have ho3 := own_extS hE3 (by omega) (ho2.alloc _); have hN3 := (hN2.alloc _).extS (by omega) hE3; clear hS2 hE2' hE3 ho2 hN2)
        | (go_at_call 10; have l3 := hS3.lt; refine (pick_det s (k + 1 + 4 * j + 1 + 1) _ _ 4 [7, 10, 12, 14] L _ (by omega) (by simp) (by simp) (by exact hS3.ext (Ext.alloc (Ext.refl _) _)) (by exact Nat.ne_of_gt l3) (by exact Blk.new' rfl)).mono ?_; rintro e w4 ⟨rfl, hS4, hE4⟩; rw [hup]; have hE4' := (hE3'.alloc _).trans hE4; have ho4 := own_extS hE4 (by omega) (ho3.alloc _); have hN4 := (hN3.alloc _).extS (by omega) hE4; clear hS3 hE3' hE4 ho3 hN3)
        | (go_at_call 10; have l4 := hS4.lt; refine (pick_det s (k + 1 + 4 * j + 1 + 1 + 1) _ _ 3 [0, 1, 3] L _ (by omega) (by simp) (by simp) (by exact hS4.ext (Ext.alloc (Ext.refl _) _)) (by exact Nat.ne_of_gt l4) (by exact Blk.new' rfl)).mono ?_; rintro e w5 ⟨rfl, hS5, hE5⟩; rw [hmore]; have hE5' := (hE4'.alloc _).trans hE5; have ho5 := own_extS hE5 (by omega) (ho4.alloc _); have hN5 := (hN4.alloc _).extS (by omega) hE5; clear hS4 hE4' hE5 ho4 hN4)
        | (at_builtin; go_loud (refine wp_app1 _ (.tmp 24) (.tmp 40) 28 46 5 48 _ rfl rfl Tryz.underlying28 partInfo rfl (by decide) (by decide) (w.heap.size + 1) _ j _ rfl (ho5.alloc _) w5.heap.size (partC ⟨nm, low, low + up, least, least + more⟩) rfl rfl (Blk.new' rfl) (part_one _) (by omega) (by have := hE5'.2.2.2.1; have := hN5.lt; simp; omega) ?_; intro v' w6 hown6 hgrow6 _)))
      go_roundw
      case rel =>
        have hN6 := hN5.lt
        exact ⟨j + 1, xs ++ [⟨nm, low, low + up, least, least + more⟩], by omega, by go_num, by rw [flat_snoc]; exact hown6, (fun x hx => by
          rcases List.mem_append.1 hx with h1 | h1
          · exact hf.out x h1
          · obtain rfl : x = ⟨nm, low, low + up, least, least + more⟩ := by simpa using h1
            exact ⟨⟨hnm, ⟨by simp only; omega, by simp only; omega⟩, ⟨by simp only; omega, by simp only; omega⟩, ⟨by simp only; omega, by simp only; omega⟩, ⟨by simp only; omega, by simp only; omega⟩⟩, by simp only; omega⟩), by rw [ptN_succ, ← hxn.out, hone.out], (hN5.alloc _).app (ho5.alloc _) (by omega) hgrow6, ((hS5.ext (Ext.alloc (Ext.refl _) _)).app (ho5.alloc _) (by omega) hgrow6).at (by omega), (hE5'.alloc _).app (ho5.alloc _) (by omega) hgrow6⟩
      case measure => simp [intOf]; omega
    · obtain rfl : j = m := by omega
      clear hN hlt hj
      rcases Nat.eq_zero_or_pos j with h0 | h0
      · subst h0
        obtain ⟨p, c, rfl, -⟩ := slc_of_own partC_len hown (by decide) (by omega)
        have hx0 : xs = [] := hxn.out
        have hres : PartR (ptF L k) s k 30 L w (.returned (.slice p 0 c)) wr := ⟨p, 0, c, [], k + 1, rfl, by omega, by rw [hx0] at hown; exact hown, rfl, (fun x hx => by cases hx), ptF_none hm.out, by omega, hS.at (by omega), hE⟩
        replace hown := Lib.hid hown; replace hf := Lib.hid hf; replace hres := Lib.hid hres; replace hx0 := Lib.hid hx0
        go_wp2
        go_ret
        exact hres.out
      · obtain ⟨g, cap, rfl, hg, hgl⟩ := hown.form h0
        have hxl : xs.length = j := by
          have := hown.1
          rw [part_flat_len] at this
          omega
        replace hown := Lib.hid hown; replace hf := Lib.hid hf; replace hxl := Lib.hid hxl
        obtain ⟨bb, hbb⟩ : ∃ bb, flF L (k + 1 + 4 * j) 12 = bb := ⟨_, rfl⟩
        go_upto_if 49 with (go_at_call 65; (with_reducible refine Calls.mono (flip_det s (k + 1 + 4 * j) 12 L _ (by omega) (by omega) (by omega) hS) ?_); rintro e w2 ⟨rfl, hS2, hE2⟩; rw [hbb])
        have hE2' := hE.trans hE2
        have ho2 := own_extS hE2 (by omega) hown.out
        clear hS hE hE2 hown; replace ho2 := Lib.hid ho2
        cases bb
        · have hres : PartR (ptF L k) s k 30 L w (.returned (.slice (some ⟨g, 0, none⟩) j cap)) w2 := ⟨_, j, _, xs, _, rfl, by omega, ho2.out, hxl.out, hf.out, by rw [hxn.out]; exact ptF_keep hm.out h0 hbb, by omega, hS2, hE2'⟩
          replace hres := Lib.hid hres
          go_wp2
          go_ret
          exact hres.out
        · obtain ⟨i, hi0⟩ : ∃ i, nxF L (k + 1 + 4 * j + 1) j = i := ⟨_, rfl⟩
          have hi : i < j := hi0 ▸ nxF_lt L _ j (by omega)
          replace hi0 := Lib.hid hi0
          go_upto_region 11 with (go_at_call 27; (with_reducible refine Calls.mono (next_det s (k + 1 + 4 * j + 1) j L _ (by omega) (by omega) (by omega) hS2) ?_); rintro e w3 ⟨rfl, hS3, hE3⟩; rw [hi0.out])
          have hE3' := hE2'.trans hE3
          have ho3 := own_extS hE3 (by omega) ho2.out
          clear hS2 hE2' hE3 ho2 hgl
          obtain ⟨x, hx⟩ := getD_some hxl.out hi
          obtain ⟨⟨s1, ⟨s2, s3⟩, ⟨s4, s5⟩, ⟨s6, s7⟩, ⟨s8, s9⟩⟩, s10⟩ := hf.out x (List.mem_of_getElem? hx)
          have hgl : g < w3.heap.size := (ho3.lt g rfl).2
          have hgs : g ≠ s := by omega
          have hsl : s < w3.heap.size := hS3.lt
          have c0 : w3.cell? ⟨g, i * 5, none⟩ = some (.string x.name) := own_cell partC_len ho3 hx 0 rfl hi
          have c1 : w3.cell? ⟨g, i * 5 + 1, none⟩ = some (.int .i64 x.lo) := own_cell partC_len ho3 hx 1 rfl hi
          have c3 : w3.cell? ⟨g, i * 5 + 3, none⟩ = some (.int .i64 x.least) := own_cell partC_len ho3 hx 3 rfl hi
          have c4 : w3.cell? ⟨g, i * 5 + 4, none⟩ = some (.int .i64 x.most) := own_cell partC_len ho3 hx 4 rfl hi
          have hsl' : s < w3.drew.heap.size := hsl
          have hmod := ptF_mod hm.out h0 hbb hi0.out (hxn.out ▸ hx)
          obtain ⟨nm, hnm0⟩ : ∃ nm, smF L (k + 1 + 4 * j + 1 + 1) [x.name, ⟨#[]⟩, ⟨#[116, 101, 110, 111, 114]⟩] = nm := ⟨_, rfl⟩
          obtain ⟨z17, hz170⟩ : ∃ z, pkF L (k + 1 + 4 * j + 1 + 1 + 1) [x.least, -1, 5] = z := ⟨_, rfl⟩
          obtain ⟨z24, hz240⟩ : ∃ z, pkF L (k + 1 + 4 * j + 1 + 1 + 1 + 1) [x.most, 101] = z := ⟨_, rfl⟩
          obtain ⟨z32, hz320⟩ : ∃ z, pkF L (k + 1 + 4 * j + 1 + 1 + 1 + 1 + 1) [x.lo, 100] = z := ⟨_, rfl⟩
          rw [hnm0, hz170, hz240, hz320, ← hxn.out] at hmod
          have hnm : nm.size ≤ 1000 := by
            have := smF_mem (L := L) (a := k + 1 + 4 * j + 1 + 1) (xs := [x.name, ⟨#[]⟩, ⟨#[116, 101, 110, 111, 114]⟩]) (by simp)
            rw [hnm0] at this
            rcases (by simpa using this : nm = x.name ∨ nm = ⟨#[]⟩ ∨ nm = ⟨#[116, 101, 110, 111, 114]⟩) with rfl | rfl | rfl
            · exact s1
            · decide
            · decide
          have hz17 := pkF_in (L := L) (a := k + 1 + 4 * j + 1 + 1 + 1) (xs := [x.least, -1, 5]) (lo := -1000) (hi := 1000) (by simp) (by intro y hy; simp at hy; omega)
          have hz24 := pkF_in (L := L) (a := k + 1 + 4 * j + 1 + 1 + 1 + 1) (xs := [x.most, 101]) (lo := -1000) (hi := 1000) (by simp) (by intro y hy; simp at hy; omega)
          have hz32 := pkF_in (L := L) (a := k + 1 + 4 * j + 1 + 1 + 1 + 1 + 1) (xs := [x.lo, 100]) (lo := -1000) (hi := 1000) (by simp) (by intro y hy; simp at hy; omega)
          rw [hz170] at hz17
          rw [hz240] at hz24
          rw [hz320] at hz32
          replace hmod := Lib.hid hmod
          have hS3d : StrL w3.drew s L (k + 1 + 4 * j + 1 + 1) := hS3.ext (Ext.drew (Ext.refl _))
          replace ho3 := Lib.hid ho3; replace hx := Lib.hid hx
          refine wp_region_facts [1, 2, 3] [([], false, false), ([], false, false), ([], false, false), ([], false, false), ([], false, false), ([], false, false), ([5], false, false), ([5, 6], false, false), ([5, 6, 7], false, false), ([5, 6, 7, 8], false, true), ([4, 5, 6, 7, 8, 9], true, false), ([], false, false), ([], false, false), ([12], false, false), ([12, 13], false, false), ([12, 13, 14], false, false), ([12, 13, 14, 15], false, true), ([11, 12, 13, 14, 15, 16], true, false), ([], false, false), ([], false, false), ([19], false, false), ([19, 20], false, false), ([19, 20, 21], false, false), ([19, 20, 21, 22], false, true), ([18, 19, 20, 21, 22, 23], true, false), ([], false, false), ([], false, false), ([26], false, false), ([26, 27], false, false), ([26, 27, 28], false, false), ([26, 27, 28, 29], false, false), ([26, 27, 28, 29, 30], false, true), ([25, 26, 27, 28, 29, 30, 31], true, false), ([0], false, false), ([0, 33], false, false)] (ExtS s) Ext (fun w => StrL w s L (k + 1 + 4 * j + 1 + 1)) (by kernel_rfl) (by kernel_rfl) Ext.refl (fun _ _ _ => ExtS.trans) (fun _ _ h => h.extS) (fun _ _ h => h.2.2.2.1) (fun _ _ h he => h.ext he) hS3d ?_
          dsimp only [List.length_cons, List.length_nil, List.drop_succ_cons, List.drop_zero, List.drop_nil]
          refine fac_quiet 0 rfl rfl rfl (fun _ _ h he => h.ext he) rfl rfl ?_
          apply Exists.intro
          refine ⟨fun sv w' hw' hfa => ?_, ?_⟩
          · refine ⟨rfl, ?_⟩
            simp only [putsL]
            change quietTo _ _ _ _ (Sem.run _ (execOp (Act.eval _) _) _)
            try simp only [Act.put, sIA, sCS, sCZ]
            simp [go_sem, quietTo, Ext.refl]
            all_goals first
              | rfl
          refine fac_late 1 rfl rfl Ext.refl (fun _ _ h he => h.ext he) rfl rfl (fun _ _ _ _ h => h) ?_
          apply Exists.intro
          refine ⟨fun sv w' hw' hfa => ?_, ?_⟩
          · refine ⟨rfl, fun w2 => ?_⟩
            simp only [putsL]
            change pureTo _ _ (Sem.run _ (execOp (Act.eval _) _) _)
            try simp only [Act.put, sIA, sCS, sCZ]
            simp [go_sem, pureTo]
            all_goals try simp (disch := omega) only [IntWalk.i64_in]
            all_goals first
              | rfl
          refine fac_late 2 rfl rfl Ext.refl (fun _ _ h he => h.ext he) rfl rfl (fun _ _ _ _ h => h) ?_
          apply Exists.intro
          refine ⟨fun sv w' hw' hfa => ?_, ?_⟩
          · refine ⟨rfl, fun w2 => ?_⟩
            simp only [putsL]
            change pureTo _ _ (Sem.run _ (execOp (Act.eval _) _) _)
            try simp only [Act.put, sIA, sCS, sCZ]
            simp [go_sem, pureTo]
            all_goals try simp (disch := omega) only [IntWalk.i64_in]
            all_goals first
              | rfl
          refine fac_late 3 rfl rfl Ext.refl (fun _ _ h he => h.ext he) rfl rfl (fun _ _ _ _ h => h) ?_
          apply Exists.intro
          refine ⟨fun sv w' hw' hfa => ?_, ?_⟩
          · refine ⟨rfl, fun w2 => ?_⟩
            simp only [putsL]
            change pureTo _ _ (Sem.run _ (execOp (Act.eval _) _) _)
            try simp only [Act.put, sIA, sCS, sCZ]
            simp [go_sem, pureTo]
            all_goals try simp (disch := omega) only [IntWalk.i64_in]
            all_goals first
              | rfl
          refine fac_quiet 4 rfl rfl rfl (fun _ _ h he => h.ext he) rfl rfl ?_
          apply Exists.intro
          refine ⟨fun sv w' hw' hfa => ?_, ?_⟩
          · refine ⟨rfl, ?_⟩
            simp only [putsL]
            change quietTo _ _ _ _ (Sem.run _ (execOp (Act.eval _) _) _)
            try simp only [Act.put, sIA, sCS, sCZ]
            simp [go_sem, quietTo, Ext.refl]
            all_goals first
              | rfl
          refine fac_quiet 5 rfl rfl rfl (fun _ _ h he => h.ext he) rfl rfl ?_
          apply Exists.intro
          refine ⟨fun sv w' hw' hfa => ?_, ?_⟩
          · refine ⟨rfl, ?_⟩
            simp only [putsL]
            change quietTo _ _ _ _ (Sem.run _ (execOp (Act.eval _) _) _)
            try simp only [Act.put, sIA, sCS, sCZ]
            simp [go_sem, quietTo, Ext.refl]
            all_goals first
              | rfl
          refine fac_quiet 6 rfl rfl rfl (fun _ _ h he => h.ext he) rfl rfl ?_
          apply Exists.intro
          refine ⟨fun sv w' hw' hfa => ?_, ?_⟩
          · obtain ⟨f5, -⟩ := hfa
            replace f5 : sv 5 = _ := f5; (try dsimp only at f5)
            refine ⟨rfl, ?_⟩
            simp only [putsL]
            change quietTo _ _ _ _ (Sem.run _ (execOp (Act.eval (Act.put _ (some 61) (sv 5))) _) _)
            try simp only [Act.put, sIA, sCS, sCZ]
            simp [go_sem, quietTo, Ext.refl, f5]
            all_goals first
              | rfl
          refine fac_quiet 7 rfl rfl rfl (fun _ _ h he => h.ext he) rfl rfl ?_
          apply Exists.intro
          refine ⟨fun sv w' hw' hfa => ?_, ?_⟩
          · obtain ⟨_, f6, -⟩ := hfa
            replace f6 : sv 6 = _ := f6; (try dsimp only at f6)
            refine ⟨rfl, ?_⟩
            simp only [putsL]
            change quietTo _ _ _ _ (Sem.run _ (execOp (Act.eval (Act.put (Act.put _ (some 62) (sv 6)) (some 61) (sv 5))) _) _)
            try simp only [Act.put, sIA, sCS, sCZ]
            simp [go_sem, quietTo, Ext.refl, f6]
            all_goals first
              | rfl
          refine fac_quiet 8 rfl rfl rfl (fun _ _ h he => h.ext he) rfl rfl ?_
          apply Exists.intro
          refine ⟨fun sv w' hw' hfa => ?_, ?_⟩
          · obtain ⟨_, _, f7, -⟩ := hfa
            replace f7 : sv 7 = _ := f7; (try dsimp only at f7)
            have d0 : w'.cell? ⟨g, i * 5, none⟩ = some (.string x.name) := (hw'.cell hgl hgs _).trans c0
            have d1 : w'.cell? ⟨g, i * 5 + 1, none⟩ = some (.int .i64 x.lo) := (hw'.cell hgl hgs _).trans c1
            have d3 : w'.cell? ⟨g, i * 5 + 3, none⟩ = some (.int .i64 x.least) := (hw'.cell hgl hgs _).trans c3
            have d4 : w'.cell? ⟨g, i * 5 + 4, none⟩ = some (.int .i64 x.most) := (hw'.cell hgl hgs _).trans c4
            refine ⟨rfl, ?_⟩
            simp only [putsL]
            change quietTo _ _ _ _ (Sem.run _ (execOp (Act.eval (Act.put (Act.put (Act.put _ (some 63) (sv 7)) (some 62) (sv 6)) (some 61) (sv 5))) _) _)
            try simp only [Act.put, sIA, sCS, sCZ]
            simp [go_sem, quietTo, Ext.refl, ↓IntWalk.iteOmega, f7, d0, d1, d3, d4]
            all_goals try simp (disch := omega) only [IntWalk.i64_in]
            all_goals first
              | rfl
          refine fac_row 9 rfl rfl rfl (fun _ _ h he => h.ext he) (fun _ _ h => h.2.2.2.1) (fun _ _ _ _ _ he hg hb => hb.extS (Nat.ne_of_gt (Nat.lt_of_lt_of_le hsl hg)) he) ?_
          apply Exists.intro
          apply Exists.intro
          apply Exists.intro
          apply Exists.intro
          refine ⟨fun sv w' hw' hfa => ?_, ?_⟩
          · obtain ⟨_, _, _, f8, -⟩ := hfa
            replace f8 : sv 8 = _ := f8; (try dsimp only at f8)
            refine ⟨rfl, ?_⟩
            simp only [putsL]
            change rowTo _ _ _ _ _ (Sem.run _ (execOp (Act.eval (Act.put (Act.put (Act.put (Act.put _ (some 64) (sv 8)) (some 63) (sv 7)) (some 62) (sv 6)) (some 61) (sv 5))) _) _)
            try simp only [Act.put, sIA, sCS, sCZ]
            simp [go_sem, rowTo, Ext.refl, f8]
            all_goals try simp (disch := omega) only [IntWalk.i64_in]
            all_goals first
              | rfl
              | exact ⟨rfl, rfl⟩
              | exact ⟨⟨rfl, rfl⟩, rfl⟩
          refine fac_loud 10 rfl rfl rfl ?_
          refine ⟨(fun y _ => y 10 = .string nm), (fun w => StrL w s L (k + 1 + 4 * j + 1 + 1 + 1)), fun sv w' hw' hfa hcc => ?_, ?_, ?_, ?_⟩
          · obtain ⟨f4, f5, f6, f7, f8, f9, -⟩ := hfa
            replace f4 : sv 4 = _ := f4; (try dsimp only at f4); replace f5 : sv 5 = _ := f5; (try dsimp only at f5); replace f6 : sv 6 = _ := f6; (try dsimp only at f6); replace f7 : sv 7 = _ := f7; (try dsimp only at f7); replace f8 : sv 8 = _ := f8; (try dsimp only at f8); obtain ⟨g9, f9, l9, b9⟩ := f9; replace f9 : sv 9 = _ := f9; obtain ⟨p9, q9⟩ := b9.walk
            have d0 : w'.cell? ⟨g, i * 5, none⟩ = some (.string x.name) := (hw'.cell hgl hgs _).trans c0
            have d1 : w'.cell? ⟨g, i * 5 + 1, none⟩ = some (.int .i64 x.lo) := (hw'.cell hgl hgs _).trans c1
            have d3 : w'.cell? ⟨g, i * 5 + 3, none⟩ = some (.int .i64 x.least) := (hw'.cell hgl hgs _).trans c3
            have d4 : w'.cell? ⟨g, i * 5 + 4, none⟩ = some (.int .i64 x.most) := (hw'.cell hgl hgs _).trans c4
            refine ⟨rfl, ?_⟩
            simp only [putsL]
            change outc _ _ (Sem.run _ (execOp (Act.eval (Act.put (Act.put (Act.put (Act.put (Act.put (Act.put _ (some 65) (sv 9)) (some 64) (sv 8)) (some 63) (sv 7)) (some 62) (sv 6)) (some 61) (sv 5)) (some 60) (sv 4))) _) _)
            try simp only [Act.put, sIA, sCS, sCZ]
            simp [go_sem, outc, f4, f9, p9, q9, d0, d1, d3, d4]
            refine (somes_det s (k + 1 + 4 * j + 1 + 1) _ _ 3 [x.name, ⟨#[]⟩, ⟨#[116, 101, 110, 111, 114]⟩] L _ (by omega) (by simp) (by simp) hcc (by omega) b9).mono ?_
            rintro e w4 ⟨rfl, hS4, hE4⟩
            exact ⟨_, rfl, ⟨hE4, hS4⟩, by rw [← hnm0]; rfl⟩
          · intro x w w' h he; exact h
          · exact fun _ _ h he => h.ext he
          refine fac_quiet 11 rfl rfl rfl (fun _ _ h he => h.ext he) rfl rfl ?_
          apply Exists.intro
          refine ⟨fun sv w' hw' hfa => ?_, ?_⟩
          · refine ⟨rfl, ?_⟩
            simp only [putsL]
            change quietTo _ _ _ _ (Sem.run _ (execOp (Act.eval _) _) _)
            try simp only [Act.put, sIA, sCS, sCZ]
            simp [go_sem, quietTo, Ext.refl]
            all_goals first
              | rfl
          refine fac_quiet 12 rfl rfl rfl (fun _ _ h he => h.ext he) rfl rfl ?_
          apply Exists.intro
          refine ⟨fun sv w' hw' hfa => ?_, ?_⟩
          · refine ⟨rfl, ?_⟩
            simp only [putsL]
            change quietTo _ _ _ _ (Sem.run _ (execOp (Act.eval _) _) _)
            try simp only [Act.put, sIA, sCS, sCZ]
            simp [go_sem, quietTo, Ext.refl]
            all_goals first
              | rfl
          refine fac_quiet 13 rfl rfl rfl (fun _ _ h he => h.ext he) rfl rfl ?_
          apply Exists.intro
          refine ⟨fun sv w' hw' hfa => ?_, ?_⟩
          · obtain ⟨f12, -⟩ := hfa
            replace f12 : sv 12 = _ := f12; (try dsimp only at f12)
            refine ⟨rfl, ?_⟩
            simp only [putsL]
            change quietTo _ _ _ _ (Sem.run _ (execOp (Act.eval (Act.put _ (some 68) (sv 12))) _) _)
            try simp only [Act.put, sIA, sCS, sCZ]
            simp [go_sem, quietTo, Ext.refl, f12]
            all_goals first
              | rfl
          refine fac_quiet 14 rfl rfl rfl (fun _ _ h he => h.ext he) rfl rfl ?_
          apply Exists.intro
          refine ⟨fun sv w' hw' hfa => ?_, ?_⟩
          · obtain ⟨_, f13, -⟩ := hfa
            replace f13 : sv 13 = _ := f13; (try dsimp only at f13)
            refine ⟨rfl, ?_⟩
            simp only [putsL]
            change quietTo _ _ _ _ (Sem.run _ (execOp (Act.eval (Act.put (Act.put _ (some 69) (sv 13)) (some 68) (sv 12))) _) _)
            try simp only [Act.put, sIA, sCS, sCZ]
            simp [go_sem, quietTo, Ext.refl, f13]
            all_goals first
              | rfl
          refine fac_quiet 15 rfl rfl rfl (fun _ _ h he => h.ext he) rfl rfl ?_
          apply Exists.intro
          refine ⟨fun sv w' hw' hfa => ?_, ?_⟩
          · obtain ⟨_, _, f14, -⟩ := hfa
            replace f14 : sv 14 = _ := f14; (try dsimp only at f14)
            have d0 : w'.cell? ⟨g, i * 5, none⟩ = some (.string x.name) := (hw'.cell hgl hgs _).trans c0
            have d1 : w'.cell? ⟨g, i * 5 + 1, none⟩ = some (.int .i64 x.lo) := (hw'.cell hgl hgs _).trans c1
            have d3 : w'.cell? ⟨g, i * 5 + 3, none⟩ = some (.int .i64 x.least) := (hw'.cell hgl hgs _).trans c3
            have d4 : w'.cell? ⟨g, i * 5 + 4, none⟩ = some (.int .i64 x.most) := (hw'.cell hgl hgs _).trans c4
            refine ⟨rfl, ?_⟩
            simp only [putsL]
            change quietTo _ _ _ _ (Sem.run _ (execOp (Act.eval (Act.put (Act.put (Act.put _ (some 70) (sv 14)) (some 69) (sv 13)) (some 68) (sv 12))) _) _)
            try simp only [Act.put, sIA, sCS, sCZ]
            simp [go_sem, quietTo, Ext.refl, ↓IntWalk.iteOmega, f14, d0, d1, d3, d4]
            all_goals try simp (disch := omega) only [IntWalk.i64_in]
            all_goals first
              | rfl
          refine fac_row 16 rfl rfl rfl (fun _ _ h he => h.ext he) (fun _ _ h => h.2.2.2.1) (fun _ _ _ _ _ he hg hb => hb.extS (Nat.ne_of_gt (Nat.lt_of_lt_of_le hsl hg)) he) ?_
          apply Exists.intro
          apply Exists.intro
          apply Exists.intro
          apply Exists.intro
          refine ⟨fun sv w' hw' hfa => ?_, ?_⟩
          · obtain ⟨_, _, _, f15, -⟩ := hfa
            replace f15 : sv 15 = _ := f15; (try dsimp only at f15)
            refine ⟨rfl, ?_⟩
            simp only [putsL]
            change rowTo _ _ _ _ _ (Sem.run _ (execOp (Act.eval (Act.put (Act.put (Act.put (Act.put _ (some 71) (sv 15)) (some 70) (sv 14)) (some 69) (sv 13)) (some 68) (sv 12))) _) _)
            try simp only [Act.put, sIA, sCS, sCZ]
            simp [go_sem, rowTo, Ext.refl, f15]
            all_goals try simp (disch := omega) only [IntWalk.i64_in]
            all_goals first
              | rfl
              | exact ⟨rfl, rfl⟩
              | exact ⟨⟨rfl, rfl⟩, rfl⟩
          refine fac_loud 17 rfl rfl rfl ?_
          refine ⟨(fun y _ => y 17 = .int .i64 z17), (fun w => StrL w s L (k + 1 + 4 * j + 1 + 1 + 1 + 1)), fun sv w' hw' hfa hcc => ?_, ?_, ?_, ?_⟩
          · obtain ⟨f11, f12, f13, f14, f15, f16, -⟩ := hfa
            replace f11 : sv 11 = _ := f11; (try dsimp only at f11); replace f12 : sv 12 = _ := f12; (try dsimp only at f12); replace f13 : sv 13 = _ := f13; (try dsimp only at f13); replace f14 : sv 14 = _ := f14; (try dsimp only at f14); replace f15 : sv 15 = _ := f15; (try dsimp only at f15); obtain ⟨g16, f16, l16, b16⟩ := f16; replace f16 : sv 16 = _ := f16
            obtain ⟨p16, q16⟩ := b16.walk
            have d0 : w'.cell? ⟨g, i * 5, none⟩ = some (.string x.name) := (hw'.cell hgl hgs _).trans c0
            have d1 : w'.cell? ⟨g, i * 5 + 1, none⟩ = some (.int .i64 x.lo) := (hw'.cell hgl hgs _).trans c1
            have d3 : w'.cell? ⟨g, i * 5 + 3, none⟩ = some (.int .i64 x.least) := (hw'.cell hgl hgs _).trans c3
            have d4 : w'.cell? ⟨g, i * 5 + 4, none⟩ = some (.int .i64 x.most) := (hw'.cell hgl hgs _).trans c4
            refine ⟨rfl, ?_⟩
            simp only [putsL]
            change outc _ _ (Sem.run _ (execOp (Act.eval (Act.put (Act.put (Act.put (Act.put (Act.put (Act.put _ (some 72) (sv 16)) (some 71) (sv 15)) (some 70) (sv 14)) (some 69) (sv 13)) (some 68) (sv 12)) (some 67) (sv 11))) _) _)
            try simp only [Act.put, sIA, sCS, sCZ]
            simp [go_sem, outc, f11, f16, p16, q16, d0, d1, d3, d4]
            refine (pick_det s (k + 1 + 4 * j + 1 + 1 + 1) _ _ 3 [x.least, -1, 5] L _ (by omega) (by simp) (by simp) hcc (by omega) b16).mono ?_
            rintro e w4 ⟨rfl, hS4, hE4⟩
            exact ⟨_, rfl, ⟨hE4, hS4⟩, by rw [← hz170]; rfl⟩
          · intro x w w' h he; exact h
          · exact fun _ _ h he => h.ext he
          refine fac_quiet 18 rfl rfl rfl (fun _ _ h he => h.ext he) rfl rfl ?_
          apply Exists.intro
          refine ⟨fun sv w' hw' hfa => ?_, ?_⟩
          · refine ⟨rfl, ?_⟩
            simp only [putsL]
            change quietTo _ _ _ _ (Sem.run _ (execOp (Act.eval _) _) _)
            try simp only [Act.put, sIA, sCS, sCZ]
            simp [go_sem, quietTo, Ext.refl]
            all_goals first
              | rfl
          refine fac_quiet 19 rfl rfl rfl (fun _ _ h he => h.ext he) rfl rfl ?_
          apply Exists.intro
          refine ⟨fun sv w' hw' hfa => ?_, ?_⟩
          · refine ⟨rfl, ?_⟩
            simp only [putsL]
            change quietTo _ _ _ _ (Sem.run _ (execOp (Act.eval _) _) _)
            try simp only [Act.put, sIA, sCS, sCZ]
            simp [go_sem, quietTo, Ext.refl]
            all_goals first
              | rfl
          refine fac_quiet 20 rfl rfl rfl (fun _ _ h he => h.ext he) rfl rfl ?_
          apply Exists.intro
          refine ⟨fun sv w' hw' hfa => ?_, ?_⟩
          · obtain ⟨f19, -⟩ := hfa
            replace f19 : sv 19 = _ := f19; (try dsimp only at f19)
            refine ⟨rfl, ?_⟩
            simp only [putsL]
            change quietTo _ _ _ _ (Sem.run _ (execOp (Act.eval (Act.put _ (some 75) (sv 19))) _) _)
            try simp only [Act.put, sIA, sCS, sCZ]
            simp [go_sem, quietTo, Ext.refl, f19]
            all_goals first
              | rfl
          refine fac_quiet 21 rfl rfl rfl (fun _ _ h he => h.ext he) rfl rfl ?_
          apply Exists.intro
          refine ⟨fun sv w' hw' hfa => ?_, ?_⟩
          · obtain ⟨_, f20, -⟩ := hfa
            replace f20 : sv 20 = _ := f20; (try dsimp only at f20)
            refine ⟨rfl, ?_⟩
            simp only [putsL]
            change quietTo _ _ _ _ (Sem.run _ (execOp (Act.eval (Act.put (Act.put _ (some 76) (sv 20)) (some 75) (sv 19))) _) _)
            try simp only [Act.put, sIA, sCS, sCZ]
            simp [go_sem, quietTo, Ext.refl, f20]
            all_goals first
              | rfl
          refine fac_quiet 22 rfl rfl rfl (fun _ _ h he => h.ext he) rfl rfl ?_
          apply Exists.intro
          refine ⟨fun sv w' hw' hfa => ?_, ?_⟩
          · obtain ⟨_, _, f21, -⟩ := hfa
            replace f21 : sv 21 = _ := f21; (try dsimp only at f21)
            have d0 : w'.cell? ⟨g, i * 5, none⟩ = some (.string x.name) := (hw'.cell hgl hgs _).trans c0
            have d1 : w'.cell? ⟨g, i * 5 + 1, none⟩ = some (.int .i64 x.lo) := (hw'.cell hgl hgs _).trans c1
            have d3 : w'.cell? ⟨g, i * 5 + 3, none⟩ = some (.int .i64 x.least) := (hw'.cell hgl hgs _).trans c3
            have d4 : w'.cell? ⟨g, i * 5 + 4, none⟩ = some (.int .i64 x.most) := (hw'.cell hgl hgs _).trans c4
            refine ⟨rfl, ?_⟩
            simp only [putsL]
            change quietTo _ _ _ _ (Sem.run _ (execOp (Act.eval (Act.put (Act.put (Act.put _ (some 77) (sv 21)) (some 76) (sv 20)) (some 75) (sv 19))) _) _)
            try simp only [Act.put, sIA, sCS, sCZ]
            simp [go_sem, quietTo, Ext.refl, ↓IntWalk.iteOmega, f21, d0, d1, d3, d4]
            all_goals try simp (disch := omega) only [IntWalk.i64_in]
            all_goals first
              | rfl
          refine fac_row 23 rfl rfl rfl (fun _ _ h he => h.ext he) (fun _ _ h => h.2.2.2.1) (fun _ _ _ _ _ he hg hb => hb.extS (Nat.ne_of_gt (Nat.lt_of_lt_of_le hsl hg)) he) ?_
          apply Exists.intro
          apply Exists.intro
          apply Exists.intro
          apply Exists.intro
          refine ⟨fun sv w' hw' hfa => ?_, ?_⟩
          · obtain ⟨_, _, _, f22, -⟩ := hfa
            replace f22 : sv 22 = _ := f22; (try dsimp only at f22)
            refine ⟨rfl, ?_⟩
            simp only [putsL]
            change rowTo _ _ _ _ _ (Sem.run _ (execOp (Act.eval (Act.put (Act.put (Act.put (Act.put _ (some 78) (sv 22)) (some 77) (sv 21)) (some 76) (sv 20)) (some 75) (sv 19))) _) _)
            try simp only [Act.put, sIA, sCS, sCZ]
            simp [go_sem, rowTo, Ext.refl, f22]
            all_goals try simp (disch := omega) only [IntWalk.i64_in]
            all_goals first
              | rfl
              | exact ⟨rfl, rfl⟩
              | exact ⟨⟨rfl, rfl⟩, rfl⟩
          refine fac_loud 24 rfl rfl rfl ?_
          refine ⟨(fun y _ => y 24 = .int .i64 z24), (fun w => StrL w s L (k + 1 + 4 * j + 1 + 1 + 1 + 1 + 1)), fun sv w' hw' hfa hcc => ?_, ?_, ?_, ?_⟩
          · obtain ⟨f18, f19, f20, f21, f22, f23, -⟩ := hfa
            replace f18 : sv 18 = _ := f18; (try dsimp only at f18); replace f19 : sv 19 = _ := f19; (try dsimp only at f19); replace f20 : sv 20 = _ := f20; (try dsimp only at f20); replace f21 : sv 21 = _ := f21; (try dsimp only at f21); replace f22 : sv 22 = _ := f22; (try dsimp only at f22); obtain ⟨g23, f23, l23, b23⟩ := f23; replace f23 : sv 23 = _ := f23
            obtain ⟨p23, q23⟩ := b23.walk
            have d0 : w'.cell? ⟨g, i * 5, none⟩ = some (.string x.name) := (hw'.cell hgl hgs _).trans c0
            have d1 : w'.cell? ⟨g, i * 5 + 1, none⟩ = some (.int .i64 x.lo) := (hw'.cell hgl hgs _).trans c1
            have d3 : w'.cell? ⟨g, i * 5 + 3, none⟩ = some (.int .i64 x.least) := (hw'.cell hgl hgs _).trans c3
            have d4 : w'.cell? ⟨g, i * 5 + 4, none⟩ = some (.int .i64 x.most) := (hw'.cell hgl hgs _).trans c4
            refine ⟨rfl, ?_⟩
            simp only [putsL]
            change outc _ _ (Sem.run _ (execOp (Act.eval (Act.put (Act.put (Act.put (Act.put (Act.put (Act.put _ (some 79) (sv 23)) (some 78) (sv 22)) (some 77) (sv 21)) (some 76) (sv 20)) (some 75) (sv 19)) (some 74) (sv 18))) _) _)
            try simp only [Act.put, sIA, sCS, sCZ]
            simp [go_sem, outc, f18, f23, p23, q23, d0, d1, d3, d4]
            refine (pick_det s (k + 1 + 4 * j + 1 + 1 + 1 + 1) _ _ 2 [x.most, 101] L _ (by omega) (by simp) (by simp) hcc (by omega) b23).mono ?_
            rintro e w4 ⟨rfl, hS4, hE4⟩
            exact ⟨_, rfl, ⟨hE4, hS4⟩, by rw [← hz240]; rfl⟩
          · intro x w w' h he; exact h
          · exact fun _ _ h he => h.ext he
          refine fac_quiet 25 rfl rfl rfl (fun _ _ h he => h.ext he) rfl rfl ?_
          apply Exists.intro
          refine ⟨fun sv w' hw' hfa => ?_, ?_⟩
          · refine ⟨rfl, ?_⟩
            simp only [putsL]
            change quietTo _ _ _ _ (Sem.run _ (execOp (Act.eval _) _) _)
            try simp only [Act.put, sIA, sCS, sCZ]
            simp [go_sem, quietTo, Ext.refl]
            all_goals first
              | rfl
          refine fac_quiet 26 rfl rfl rfl (fun _ _ h he => h.ext he) rfl rfl ?_
          apply Exists.intro
          refine ⟨fun sv w' hw' hfa => ?_, ?_⟩
          · refine ⟨rfl, ?_⟩
            simp only [putsL]
            change quietTo _ _ _ _ (Sem.run _ (execOp (Act.eval _) _) _)
            try simp only [Act.put, sIA, sCS, sCZ]
            simp [go_sem, quietTo, Ext.refl]
            all_goals first
              | rfl
          refine fac_quiet 27 rfl rfl rfl (fun _ _ h he => h.ext he) rfl rfl ?_
          apply Exists.intro
          refine ⟨fun sv w' hw' hfa => ?_, ?_⟩
          · obtain ⟨f26, -⟩ := hfa
            replace f26 : sv 26 = _ := f26; (try dsimp only at f26)
            refine ⟨rfl, ?_⟩
            simp only [putsL]
            change quietTo _ _ _ _ (Sem.run _ (execOp (Act.eval (Act.put _ (some 82) (sv 26))) _) _)
            try simp only [Act.put, sIA, sCS, sCZ]
            simp [go_sem, quietTo, Ext.refl, f26]
            all_goals first
              | rfl
          refine fac_quiet 28 rfl rfl rfl (fun _ _ h he => h.ext he) rfl rfl ?_
          apply Exists.intro
          refine ⟨fun sv w' hw' hfa => ?_, ?_⟩
          · obtain ⟨_, f27, -⟩ := hfa
            replace f27 : sv 27 = _ := f27; (try dsimp only at f27)
            refine ⟨rfl, ?_⟩
            simp only [putsL]
            change quietTo _ _ _ _ (Sem.run _ (execOp (Act.eval (Act.put (Act.put _ (some 83) (sv 27)) (some 82) (sv 26))) _) _)
            try simp only [Act.put, sIA, sCS, sCZ]
            simp [go_sem, quietTo, Ext.refl, f27]
            all_goals first
              | rfl
          refine fac_quiet 29 rfl rfl rfl (fun _ _ h he => h.ext he) rfl rfl ?_
          apply Exists.intro
          refine ⟨fun sv w' hw' hfa => ?_, ?_⟩
          · obtain ⟨_, _, f28, -⟩ := hfa
            replace f28 : sv 28 = _ := f28; (try dsimp only at f28)
            refine ⟨rfl, ?_⟩
            simp only [putsL]
            change quietTo _ _ _ _ (Sem.run _ (execOp (Act.eval (Act.put (Act.put (Act.put _ (some 84) (sv 28)) (some 83) (sv 27)) (some 82) (sv 26))) _) _)
            try simp only [Act.put, sIA, sCS, sCZ]
            simp [go_sem, quietTo, Ext.refl, f28]
            all_goals first
              | rfl
          refine fac_quiet 30 rfl rfl rfl (fun _ _ h he => h.ext he) rfl rfl ?_
          apply Exists.intro
          refine ⟨fun sv w' hw' hfa => ?_, ?_⟩
          · obtain ⟨_, _, _, f29, -⟩ := hfa
            replace f29 : sv 29 = _ := f29; (try dsimp only at f29)
            have d0 : w'.cell? ⟨g, i * 5, none⟩ = some (.string x.name) := (hw'.cell hgl hgs _).trans c0
            have d1 : w'.cell? ⟨g, i * 5 + 1, none⟩ = some (.int .i64 x.lo) := (hw'.cell hgl hgs _).trans c1
            have d3 : w'.cell? ⟨g, i * 5 + 3, none⟩ = some (.int .i64 x.least) := (hw'.cell hgl hgs _).trans c3
            have d4 : w'.cell? ⟨g, i * 5 + 4, none⟩ = some (.int .i64 x.most) := (hw'.cell hgl hgs _).trans c4
            refine ⟨rfl, ?_⟩
            simp only [putsL]
            change quietTo _ _ _ _ (Sem.run _ (execOp (Act.eval (Act.put (Act.put (Act.put (Act.put _ (some 85) (sv 29)) (some 84) (sv 28)) (some 83) (sv 27)) (some 82) (sv 26))) _) _)
            try simp only [Act.put, sIA, sCS, sCZ]
            simp [go_sem, quietTo, Ext.refl, ↓IntWalk.iteOmega, f29, d0, d1, d3, d4]
            all_goals try simp (disch := omega) only [IntWalk.i64_in]
            all_goals first
              | rfl
          refine fac_row 31 rfl rfl rfl (fun _ _ h he => h.ext he) (fun _ _ h => h.2.2.2.1) (fun _ _ _ _ _ he hg hb => hb.extS (Nat.ne_of_gt (Nat.lt_of_lt_of_le hsl hg)) he) ?_
          apply Exists.intro
          apply Exists.intro
          apply Exists.intro
          apply Exists.intro
          refine ⟨fun sv w' hw' hfa => ?_, ?_⟩
          · obtain ⟨_, _, _, _, f30, -⟩ := hfa
            replace f30 : sv 30 = _ := f30; (try dsimp only at f30)
            refine ⟨rfl, ?_⟩
            simp only [putsL]
            change rowTo _ _ _ _ _ (Sem.run _ (execOp (Act.eval (Act.put (Act.put (Act.put (Act.put (Act.put _ (some 86) (sv 30)) (some 85) (sv 29)) (some 84) (sv 28)) (some 83) (sv 27)) (some 82) (sv 26))) _) _)
            try simp only [Act.put, sIA, sCS, sCZ]
            simp [go_sem, rowTo, Ext.refl, f30]
            all_goals try simp (disch := omega) only [IntWalk.i64_in]
            all_goals first
              | rfl
              | exact ⟨rfl, rfl⟩
              | exact ⟨⟨rfl, rfl⟩, rfl⟩
          refine fac_loud 32 rfl rfl rfl ?_
          refine ⟨(fun y _ => y 32 = .int .i64 z32), (fun w => StrL w s L (k + 1 + 4 * j + 1 + 1 + 1 + 1 + 1 + 1)), fun sv w' hw' hfa hcc => ?_, ?_, ?_, ?_⟩
          · obtain ⟨f25, f26, f27, f28, f29, f30, f31, -⟩ := hfa
            replace f25 : sv 25 = _ := f25; (try dsimp only at f25); replace f26 : sv 26 = _ := f26; (try dsimp only at f26); replace f27 : sv 27 = _ := f27; (try dsimp only at f27); replace f28 : sv 28 = _ := f28; (try dsimp only at f28); replace f29 : sv 29 = _ := f29; (try dsimp only at f29); replace f30 : sv 30 = _ := f30; (try dsimp only at f30); obtain ⟨g31, f31, l31, b31⟩ := f31
            replace f31 : sv 31 = _ := f31; obtain ⟨p31, q31⟩ := b31.walk
            have d0 : w'.cell? ⟨g, i * 5, none⟩ = some (.string x.name) := (hw'.cell hgl hgs _).trans c0
            have d1 : w'.cell? ⟨g, i * 5 + 1, none⟩ = some (.int .i64 x.lo) := (hw'.cell hgl hgs _).trans c1
            have d3 : w'.cell? ⟨g, i * 5 + 3, none⟩ = some (.int .i64 x.least) := (hw'.cell hgl hgs _).trans c3
            have d4 : w'.cell? ⟨g, i * 5 + 4, none⟩ = some (.int .i64 x.most) := (hw'.cell hgl hgs _).trans c4
            refine ⟨rfl, ?_⟩
            simp only [putsL]
            change outc _ _ (Sem.run _ (execOp (Act.eval (Act.put (Act.put (Act.put (Act.put (Act.put (Act.put (Act.put _ (some 87) (sv 31)) (some 86) (sv 30)) (some 85) (sv 29)) (some 84) (sv 28)) (some 83) (sv 27)) (some 82) (sv 26)) (some 81) (sv 25))) _) _)
            try simp only [Act.put, sIA, sCS, sCZ]
            simp [go_sem, outc, f25, f31, p31, q31, d0, d1, d3, d4]
            refine (pick_det s (k + 1 + 4 * j + 1 + 1 + 1 + 1 + 1) _ _ 2 [x.lo, 100] L _ (by omega) (by simp) (by simp) hcc (by omega) b31).mono ?_
            rintro e w4 ⟨rfl, hS4, hE4⟩
            exact ⟨_, rfl, ⟨hE4, hS4⟩, by rw [← hz320]; rfl⟩
          · intro x w w' h he; exact h
          · exact fun _ _ h he => h.ext he
          refine fac_quiet 33 rfl rfl rfl (fun _ _ h he => h.ext he) rfl rfl ?_
          apply Exists.intro
          refine ⟨fun sv w' hw' hfa => ?_, ?_⟩
          · obtain ⟨f0, -⟩ := hfa
            replace f0 : sv 0 = _ := f0; (try dsimp only at f0)
            refine ⟨rfl, ?_⟩
            simp only [putsL]
            change quietTo _ _ _ _ (Sem.run _ (execOp (Act.eval (Act.put _ (some 56) (sv 0))) _) _)
            try simp only [Act.put, sIA, sCS, sCZ]
            simp [go_sem, quietTo, Ext.refl, f0]
            all_goals first
              | rfl
          refine fac_quiet 34 rfl rfl rfl (fun _ _ h he => h.ext he) rfl rfl ?_
          apply Exists.intro
          refine ⟨fun sv w' hw' hfa => ?_, ?_⟩
          · obtain ⟨_, f33, -⟩ := hfa
            replace f33 : sv 33 = _ := f33; (try dsimp only at f33)
            refine ⟨rfl, ?_⟩
            simp only [putsL]
            change quietTo _ _ _ _ (Sem.run _ (execOp (Act.eval (Act.put (Act.put _ (some 89) (sv 33)) (some 56) (sv 0))) _) _)
            try simp only [Act.put, sIA, sCS, sCZ]
            simp [go_sem, quietTo, Ext.refl, f33]
            all_goals first
              | rfl
          refine fac_nil fun xq wrq herq hfrq hcrq holdq hapq => ?_
          obtain ⟨f0, f1, f2, f3, f4, f5, f6, f7, f8, f9, f10, f11, f12, f13, f14, f15, f16, f17, f18, f19, f20, f21, f22, f23, f24, f25, f26, f27, f28, f29, f30, f31, f32, f33, f34, -⟩ := hfrq
          replace f0 : xq 0 = _ := f0
          (try dsimp only at f0)
          replace f1 : xq 1 = _ := f1
          (try dsimp only at f1)
          replace f2 : xq 2 = _ := f2
          (try dsimp only at f2)
          replace f3 : xq 3 = _ := f3
          (try dsimp only at f3)
          replace f4 : xq 4 = _ := f4
          (try dsimp only at f4)
          replace f5 : xq 5 = _ := f5
          (try dsimp only at f5)
          replace f6 : xq 6 = _ := f6
          (try dsimp only at f6)
          replace f7 : xq 7 = _ := f7
          (try dsimp only at f7)
          replace f8 : xq 8 = _ := f8
          (try dsimp only at f8); obtain ⟨g9, f9, l9, b9⟩ := f9
          replace f9 : xq 9 = _ := f9
          obtain ⟨p9, q9⟩ := b9.walk
          replace f10 : xq 10 = _ := f10
          replace f11 : xq 11 = _ := f11
          (try dsimp only at f11)
          replace f12 : xq 12 = _ := f12
          (try dsimp only at f12)
          replace f13 : xq 13 = _ := f13
          (try dsimp only at f13)
          replace f14 : xq 14 = _ := f14
          (try dsimp only at f14)
          replace f15 : xq 15 = _ := f15
          (try dsimp only at f15); obtain ⟨g16, f16, l16, b16⟩ := f16
          replace f16 : xq 16 = _ := f16
          obtain ⟨p16, q16⟩ := b16.walk
          replace f17 : xq 17 = _ := f17
          replace f18 : xq 18 = _ := f18
          (try dsimp only at f18)
          replace f19 : xq 19 = _ := f19
          (try dsimp only at f19)
          replace f20 : xq 20 = _ := f20
          (try dsimp only at f20)
          replace f21 : xq 21 = _ := f21
          (try dsimp only at f21)
          replace f22 : xq 22 = _ := f22
          (try dsimp only at f22); obtain ⟨g23, f23, l23, b23⟩ := f23
          replace f23 : xq 23 = _ := f23
          obtain ⟨p23, q23⟩ := b23.walk
          replace f24 : xq 24 = _ := f24
          replace f25 : xq 25 = _ := f25
          (try dsimp only at f25)
          replace f26 : xq 26 = _ := f26
          (try dsimp only at f26)
          replace f27 : xq 27 = _ := f27
          (try dsimp only at f27)
          replace f28 : xq 28 = _ := f28
          (try dsimp only at f28)
          replace f29 : xq 29 = _ := f29
          (try dsimp only at f29)
          replace f30 : xq 30 = _ := f30
          (try dsimp only at f30); obtain ⟨g31, f31, l31, b31⟩ := f31
          replace f31 : xq 31 = _ := f31
          obtain ⟨p31, q31⟩ := b31.walk
          replace f32 : xq 32 = _ := f32
          replace f33 : xq 33 = _ := f33
          (try dsimp only at f33)
          replace f34 : xq 34 = _ := f34
          (try dsimp only at f34)
          change wpList _ _ _ _ (Act.put (Act.put (Act.put (Act.put (Act.put (Act.put (Act.put (Act.put (Act.put (Act.put (Act.put (Act.put (Act.put (Act.put (Act.put (Act.put (Act.put (Act.put (Act.put (Act.put (Act.put (Act.put (Act.put (Act.put (Act.put (Act.put (Act.put (Act.put (Act.put (Act.put (Act.put (Act.put (Act.put (Act.put (Act.put _ (some 56) (xq 0)) (some 57) (xq 1)) (some 58) (xq 2)) (some 59) (xq 3)) (some 60) (xq 4)) (some 61) (xq 5)) (some 62) (xq 6)) (some 63) (xq 7)) (some 64) (xq 8)) (some 65) (xq 9)) (some 66) (xq 10)) (some 67) (xq 11)) (some 68) (xq 12)) (some 69) (xq 13)) (some 70) (xq 14)) (some 71) (xq 15)) (some 72) (xq 16)) (some 73) (xq 17)) (some 74) (xq 18)) (some 75) (xq 19)) (some 76) (xq 20)) (some 77) (xq 21)) (some 78) (xq 22)) (some 79) (xq 23)) (some 80) (xq 24)) (some 81) (xq 25)) (some 82) (xq 26)) (some 83) (xq 27)) (some 84) (xq 28)) (some 85) (xq 29)) (some 86) (xq 30)) (some 87) (xq 31)) (some 88) (xq 32)) (some 89) (xq 33)) (some 90) (xq 34)) _
          simp only [putsL, Nat.reduceAdd, List.drop_succ_cons, List.drop_zero, List.drop_nil, Act.put, sIA, sCS, sCZ]
          try simp only [f0, f1, f2, f3, f4, f5, f6, f7, f8, f9, f10, f11, f12, f13, f14, f15, f16, f17, f18, f19, f20, f21, f22, f23, f24, f25, f26, f27, f28, f29, f30, f31, f32, f33, f34]
          clear f0 f1 f2 f3 f4 f5 f6 f7 f8 f11 f12 f13 f14 f15 f18 f19 f20 f21 f22 f25 f26 f27 f28 f29 f30 f33 f34; clear holdq hapq
          have hoq := own_extS herq (by omega) (World.ownsRow.drew ho3.out)
          have hEq : ExtS s w wrq := ((hE3'.drew).trans herq)
          clear ho3 hE3' herq c0 c1 c3 c4 b9 p9 q9 b16 p16 q16 b23 p23 q23 b31 p31 q31 l9 l16 l23 l31 hS3 hS3d hsl hsl' hgl
          have c0 : wrq.cell? ⟨g, i * 5, none⟩ = some (.string x.name) := own_cell partC_len hoq hx.out 0 rfl hi
          have c1 : wrq.cell? ⟨g, i * 5 + 1, none⟩ = some (.int .i64 x.lo) := own_cell partC_len hoq hx.out 1 rfl hi
          have c3 : wrq.cell? ⟨g, i * 5 + 3, none⟩ = some (.int .i64 x.least) := own_cell partC_len hoq hx.out 3 rfl hi
          have c4 : wrq.cell? ⟨g, i * 5 + 4, none⟩ = some (.int .i64 x.most) := own_cell partC_len hoq hx.out 4 rfl hi
          have z0 : ∀ o, wrq.frozen? ⟨g, o, none⟩ = false := fun o => hoq.frozenAt o
          have hsg : s < g := by omega
          have hwg : w.heap.size ≤ g := by omega
          have hset := part_mod4 hoq hx.out nm z32 z17 z24
          have hres : PartR (ptF L k) s k 30 L w (.returned (.slice (some ⟨g, 0, none⟩) j cap)) ((((wrq.setCell ⟨g, i * 5, none⟩ (.string nm)).setCell ⟨g, i * 5 + 3, none⟩ (.int .i64 z17)).setCell ⟨g, i * 5 + 4, none⟩ (.int .i64 z24)).setCell ⟨g, i * 5 + 1, none⟩ (.int .i64 z32)) :=
            ⟨_, j, _, xs.set i ⟨nm, z32, x.hi, z17, z24⟩, _, rfl, by omega, hset, by rw [List.length_set]; exact hxl.out, (fun y hy => by
              rcases List.mem_or_eq_of_mem_set hy with h1 | h1
              · exact hf.out y h1
              · subst h1
                exact ⟨⟨hnm, hz32, ⟨s4, s5⟩, hz17, hz24⟩, s10⟩), hmod.out, by omega, ((((hcrq.set (p := ⟨g, i * 5, none⟩) hsg _).set (p := ⟨g, i * 5 + 3, none⟩) hsg _).set (p := ⟨g, i * 5 + 4, none⟩) hsg _).set (p := ⟨g, i * 5 + 1, none⟩) hsg _).at (by omega), (((hEq.setCell (p := ⟨g, i * 5, none⟩) (.inr hwg) _).setCell (p := ⟨g, i * 5 + 3, none⟩) (.inr hwg) _).setCell (p := ⟨g, i * 5 + 4, none⟩) (.inr hwg) _).setCell (p := ⟨g, i * 5 + 1, none⟩) (.inr hwg) _⟩
          replace hoq := Lib.hid hoq; replace hset := Lib.hid hset; replace hres := Lib.hid hres; clear hg
          go_wp2
          go_ret
          exact hres.out
end Go.Proofs.YtdehmioobkneiaaGreatDoor
