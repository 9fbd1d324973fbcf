/- CheckVoices, RangeAt, Singers, Grown, Text and Read answer as the document says: the property answers true. Conditions: the argument is a list of ints that lies in memory; the table of the powers of ten stands; the variable internal/bytealg.MaxLen holds some number. -/
import Derived.Test.YtboplnogfjmpnaaGreatDoorVkVkD
import Derived.Test.YtboplnogfjmpnaaGreatDoorVkVkF
import Derived.Test.YtboplnogfjmpnaaGreatDoorVkVtF
import Derived.Test.YtboplnogfjmpnaaGreatDoorVkEqVo
import Derived.Test.YtboplnogfjmpnaaGreatDoorVkEqSt
import Derived.Outline
import Derived.Deep.CutBlock
set_option linter.unusedSimpArgs false
set_option linter.unusedVariables false
namespace Go.Proofs.YtboplnogfjmpnaaGreatDoor
open Go Go.RowKit

set_option maxRecDepth 100000 in
theorem when_any (b : Bool) (f : Int) (w : World) : Calls Tryz.prog 22 #[.bool b, .int .i64 f] w fun e w' => e = .returned (.int .i64 (if b then f else 0)) ∧ w = w' := by
  cases b
  all_goals
    go_enter Tryz.func22, Tryz.ntmps22
    go_wp2
    go_ret
    exact ⟨rfl, rfl⟩
theorem err_one (V : List VoiceV) (p : ByteArray) (t : Int) : orF [voicesF V, if keyB p then (0 : Int) else 5, if momB t then (0 : Int) else 1] = errR V p t := by
  unfold errR singK
  by_cases hz : voicesF V = 0
  · rw [hz, if_pos rfl]
    cases keyB p <;> cases momB t <;> rfl
  · rw [if_neg hz]
    unfold orF
    rw [if_neg hz]
theorem err_two (V : List VoiceV) (t : Int) : orF [voicesF V, if momB t then (0 : Int) else 1] = errS V t := by
  unfold errS
  by_cases hz : voicesF V = 0
  · rw [hz, if_pos rfl]
    cases momB t <;> rfl
  · rw [if_neg hz]
    unfold orF
    rw [if_neg hz]
theorem err_three (V : List VoiceV) (p : ByteArray) (t u : Int) : orF [errR V p t, if momB u then (0 : Int) else 1, if u < t then (1 : Int) else 0] = errG V p t u := by
  unfold errR errG singK singK2
  by_cases hz : voicesF V = 0
  · rw [if_pos hz, if_pos hz]
    by_cases hl : u < t
    · rw [if_pos hl]
      cases keyB p <;> cases momB t <;> cases momB u <;> rfl
    · rw [if_neg hl]
      cases keyB p <;> cases momB t <;> cases momB u <;> rfl
  · rw [if_neg hz, if_neg hz]
    unfold orF
    rw [if_neg hz]
theorem err_imp (V : List VoiceV) (p : ByteArray) (t u : Int) : (errG V p t u = 0 → errR V p t = 0) ∧ (errR V p t = 0 → errS V t = 0) := by
  unfold errR errG errS singK singK2
  by_cases hz : voicesF V = 0
  · rw [if_pos hz, if_pos hz, if_pos hz]
    constructor
    · cases keyB p <;> cases momB t <;> cases momB u <;> by_cases hl : u < t <;> simp [hl]
    · cases keyB p <;> cases momB t <;> simp
  · rw [if_neg hz, if_neg hz, if_neg hz]
    exact ⟨fun h => absurd h hz, fun h => absurd h hz⟩
def nmK : List ByteArray := [⟨#[97, 110, 110]⟩, ⟨#[98, 101, 97]⟩, ⟨#[99, 105, 100]⟩, ⟨#[122, 122]⟩, ⟨#[]⟩]
theorem nmK_small {s : ByteArray} (h : s ∈ nmK) : s.size ≤ 1000 := by
  rcases (by simpa [nmK] using h : s = ⟨#[97, 110, 110]⟩ ∨ s = ⟨#[98, 101, 97]⟩ ∨ s = ⟨#[99, 105, 100]⟩ ∨ s = ⟨#[122, 122]⟩ ∨ s = ⟨#[]⟩) with rfl | rfl | rfl | rfl | rfl <;> decide

set_option maxRecDepth 100000 in
set_option maxHeartbeats 25600000 in
theorem lawVK_any (B : Nat) (w : World) (p : Option Addr) (n c : Nat) (h : Lst w w.heap.size p n) (ht : Tab B w) (hm : MaxL B w) :
    Calls Tryz.prog 4 #[.slice p n c] w fun e w' => e = .returned (.bool true) ∧ Ext w w' := by
  obtain ⟨xs, rfl, hLst⟩ := lst_list h
  obtain ⟨L, hLx⟩ : ∃ L : Src, L = ⟨xs, w.heap.size⟩ := ⟨_, rfl⟩
  have hS0 : StrL (w.alloc (.cells #[.slice p xs.length c, .int .i64 0] 25)) w.heap.size L 0 := by
    subst hLx
    exact ⟨Nat.le_refl _, p, c, Blk.new' rfl, hLst.low fun j hj => Below.heap_alloc w _ j hj⟩
  have hB := ht.1
  clear h hLst hLx
  have hback : ∀ u, ExtS w.heap.size (w.alloc (.cells #[.slice p xs.length c, .int .i64 0] 25)) u → Ext w u := fun u hu => ExtS.back ((Ext.refl w).alloc _) (by simp) hu
  replace hback := Lib.hid hback
  have hvo := voiceRows_det w.heap.size 0 5 L _ (by omega) (by omega) hS0
  replace hvo := Lib.hid hvo
  clear hS0
  go_enter Tryz.func4, Tryz.ntmps4
  go_upto_region 3 with (first
    | (go_at_call 11; (with_reducible refine Calls.mono hvo.out ?_); rintro e w1 ⟨vp, n1, vc, V, k', rfl, hn1, hown, rfl, hsm, -, hk', hS1, hE1⟩; clear hvo)
    | (go_at_call 12; have l1 := hS1.lt; refine (somes_det w.heap.size k' _ _ 5 nmK L _ (by omega) (by decide) (by decide) (by exact hS1.ext (Ext.alloc (Ext.refl _) _)) (by exact Nat.ne_of_gt l1) (by exact Blk.new' rfl)).mono ?_; rintro e w2 ⟨rfl, hS2, hE2⟩; have hE2' := (hE1.alloc _).trans hE2; have ho2 := own_extS hE2 (by simp; omega) (hown.alloc _); clear hS1 hE1 hE2 hown)
    | (go_at_call 13; (with_reducible refine Calls.mono (sometime_det w.heap.size (k' + 1) L _ (by omega) hS2) ?_); rintro e w3 ⟨rfl, hS3, hE3⟩; have hE3' := hE2'.trans hE3; have ho3 := own_extS hE3 (by simp; omega) ho2; clear hS2 hE2' hE3 ho2)
    | (go_at_call 13; (with_reducible refine Calls.mono (sometime_det w.heap.size (k' + 1 + 2) L _ (by omega) hS3) ?_); rintro e wB ⟨rfl, hS4, hE4⟩; have hE4' := hE3'.trans hE4; have ho4 := own_extS hE4 (by simp; omega) ho3; clear hS3 hE3' hE4 ho3))
  have hb4 := hback.out wB hE4'
  have hSl : Slc 4 voiC wB vp V.length vc V := by
    obtain ⟨p', c', e', hS'⟩ := slc_of_own voiC_len ho4 (by decide) (by omega)
    cases e'
    exact hS'
  have hnm := nmK_small (smF_mem (L := L) (a := k') (xs := nmK) (by decide))
  have hta := smtF_in L (k' + 1)
  have htb := smtF_in L (k' + 1 + 2)
  generalize smF L k' nmK = nm at *
  generalize smtF L (k' + 1) = ta at *
  generalize smtF L (k' + 1 + 2) = tb at *
  have hn2 : V.length ≤ 200 := by omega
  obtain ⟨hi1, hi2⟩ := err_imp V nm ta tb
  have h1 := err_one V nm ta
  have h2 := err_two V ta
  have h3 := err_three V nm ta tb
  have hvf : ∀ u, Ext wB u → Calls Tryz.prog 14 #[.slice vp V.length vc] u fun e w' => e = .returned (.int .i64 (voicesF V)) ∧ Ext u w' := fun u hu => voicesFault_any vp V.length vc V u (hSl.ext hu).1 hsm hn2
  have hcv : ∀ u, Ext wB u → Calls Tryz.prog 15 #[.slice vp V.length vc] u fun e w' => e = .returned (.int .i64 (voicesF V)) ∧ Ext u w' := fun u hu => checkVoices_any vp V.length vc V u (hSl.ext hu).1 hsm hn2
  have hrg : ∀ u, Ext wB u → Calls Tryz.prog 16 #[.slice vp V.length vc, .string nm, .int .i64 ta] u fun e w' => e = .returned (.tuple #[rngV (if errR V nm ta = 0 then rgW V nm ta else (0, 0)), .bool (if errR V nm ta = 0 then isW V nm ta else false), .int .i64 (errR V nm ta)]) ∧ Ext u w' := fun u hu => rangeAtK_any (hSl.ext hu) hsm hn2 nm ta hnm
  have hsg : ∀ u, Ext wB u → Calls Tryz.prog 17 #[.slice vp V.length vc, .int .i64 ta] u fun e w' => ∃ (sp : Option Addr) (sn sc : Nat), e = .returned (.tuple #[.slice sp sn sc, .int .i64 (errS V ta)]) ∧ Slc 1 strC w' sp sn sc (if errS V ta = 0 then singersL V ta else []) ∧ Ext u w' := fun u hu => singersK_any (hSl.ext hu) hsm hn2 ta
  have hgr : ∀ u, Ext wB u → Calls Tryz.prog 18 #[.slice vp V.length vc, .string nm, .int .i64 ta, .int .i64 tb] u fun e w' => e = .returned (.tuple #[.int .i64 (grownV V nm ta tb).1, .int .i64 (grownV V nm ta tb).2.1, .bool (grownV V nm ta tb).2.2, .int .i64 (errG V nm ta tb)]) ∧ Ext u w' := fun u hu => grownK_any (hSl.ext hu) hsm hn2 nm ta tb hnm
  have hroa : ∀ u, Ext wB u → Calls Tryz.prog 23 #[.slice vp V.length vc, .string nm, .int .i64 ta] u fun e w' => e = .returned (.tuple #[rngV (rgW V nm ta), .bool (isW V nm ta)]) ∧ Ext u w' := fun u hu => rangeOf_any vp V.length vc V nm ta u (hSl.ext hu).1 hsm hn2 hnm
  have hrob : ∀ u, Ext wB u → Calls Tryz.prog 23 #[.slice vp V.length vc, .string nm, .int .i64 tb] u fun e w' => e = .returned (.tuple #[rngV (rgW V nm tb), .bool (isW V nm tb)]) ∧ Ext u w' := fun u hu => rangeOf_any vp V.length vc V nm tb u (hSl.ext hu).1 hsm hn2 hnm
  have hso : ∀ u, Ext wB u → Calls Tryz.prog 24 #[.slice vp V.length vc, .int .i64 ta] u fun e w' => ∃ (q : Option Addr) (d : Nat), e = .returned (.slice q (singersL V ta).length d) ∧ Slc 1 strC w' q (singersL V ta).length d (singersL V ta) ∧ Ext u w' := fun u hu => (singersOf_any vp V.length vc V ta u (hSl.ext hu).1 hsm hn2).mono fun e w' ⟨q, d, he, ho, hx⟩ => by
    obtain ⟨q9, d9, e9, hS9⟩ := slc_of_own (enc := strC) (fun _ => rfl) ho (by decide) (by have := singers_len V ta; omega)
    cases e9
    exact ⟨q, d, he, hS9, hx⟩
  have hkf : ∀ u, Calls Tryz.prog 20 #[.string nm] u fun e w' => e = .returned (.int .i64 (if keyB nm then 0 else 5)) ∧ Ext u w' := fun u => keyFault_any nm u hnm
  have hmo : ∀ x u, Calls Tryz.prog 21 #[.int .i64 x] u fun e w' => e = .returned (.int .i64 (if momB x then 0 else 1)) ∧ Ext u w' := fun x u => momF_any x u
  have hsl : (singersL V ta).length ≤ 200 := by have := singers_len V ta; omega
  have hgv : grownV V nm ta tb = if errG V nm ta tb = 0 then (if (isW V nm ta && isW V nm tb) = true then ((rgW V nm ta).1 - (rgW V nm tb).1, (rgW V nm tb).2 - (rgW V nm ta).2, true) else (0, 0, false)) else (0, 0, false) := rfl
  obtain ⟨⟨t1, t2⟩, t3, t4⟩ := rg_bounds hsm ta nm
  obtain ⟨⟨t5, t6⟩, t7, t8⟩ := rg_bounds hsm tb nm
  have hta2 : rgW V nm ta = (rgS V ta V.length nm).getD (0, 0) := rfl
  have htb2 : rgW V nm tb = (rgS V tb V.length nm).getD (0, 0) := rfl
  rw [← hta2] at t1 t2 t3 t4
  rw [← htb2] at t5 t6 t7 t8
  have hvl : ∀ u, Ext wB u → voicesF V = 0 → Calls Tryz.prog 26 #[.slice vp V.length vc] u fun e w' => e = .returned (.string ⟨(textG lnVo V).toArray⟩) ∧ Ext u w' := fun u hu hz => voiceLines_any B vp V.length vc V u (hSl.ext hu).1 (voi_ok hz) (by omega) ((ht.ext hb4).ext hu)
  have htx : ∀ u, Ext wB u → Calls Tryz.prog 6 #[.slice vp V.length vc] u fun e w' => e = .returned (.tuple #[.string (textRG lnVo voicesG V).1, .int .i64 (textRG lnVo voicesG V).2]) ∧ Ext u w' := fun u hu => textVo_any B vp V.length vc V u (hSl.ext hu).1 (fun x hx => (hsm x hx).wide) (by omega) ((ht.ext hb4).ext hu)
  have htr : (voicesF V = 0 → textRG lnVo voicesG V = (⟨(textG lnVo V).toArray⟩, 0)) ∧ (voicesF V ≠ 0 → textRG lnVo voicesG V = (⟨#[]⟩, voicesF V)) := by
    have hg := voicesG_small hn2
    refine ⟨fun hz => ?_, fun hz => ?_⟩
    · have htl := textG_len (ln := lnVo) (m := 164) (d := V) fun x hx => lnVo_len (voi_ok hz x hx)
      have htn : V.length * (164 + 1) ≤ 200 * 165 := Nat.mul_le_mul hn2 (Nat.le_refl _)
      unfold textRG
      rw [hg, if_pos hz, if_neg (by omega)]
    · unfold textRG
      rw [hg, if_neg hz]
  generalize textRG lnVo voicesG V = TR at *
  generalize (⟨(textG lnVo V).toArray⟩ : ByteArray) = TX at *
  generalize grownV V nm ta tb = gv at *
  generalize errR V nm ta = k1 at *
  generalize errS V ta = k2 at *
  generalize errG V nm ta tb = k3 at *
  generalize rgW V nm ta = ra at *
  generalize rgW V nm tb = rb at *
  generalize isW V nm ta = ia at *
  generalize isW V nm tb = ib at *
  generalize singersL V ta = SL at *
  generalize voicesF V = F at *
  generalize (if keyB nm then (0 : Int) else 5) = kf at *
  clear hta2 htb2 hsm hSl ho4
  obtain ⟨ra1, ra2⟩ := ra
  obtain ⟨rb1, rb2⟩ := rb
  obtain ⟨g1, g2, g3⟩ := gv
  obtain ⟨TR1, TR2⟩ := TR
  simp only at t1 t2 t3 t4 t5 t6 t7 t8 hgv
  dsimp only at hgr
  obtain ⟨rr, hrr⟩ : ∃ rr, rr = if k1 = 0 then (ra1, ra2) else (0, 0) := ⟨_, rfl⟩
  obtain ⟨ir, hir⟩ : ∃ ir, ir = if k1 = 0 then ia else false := ⟨_, rfl⟩
  obtain ⟨SR, hSR⟩ : ∃ SR, SR = if k2 = 0 then SL else [] := ⟨_, rfl⟩
  rw [← hrr, ← hir] at hrg
  rw [← hSR] at hsg
  obtain ⟨rr1, rr2⟩ := rr
  have hSRl : SR.length ≤ 200 := by
    rw [hSR]
    split
    · exact hsl
    · exact Nat.zero_le _
  obtain ⟨m1, hm1⟩ : ∃ m, (if momB ta then (0 : Int) else 1) = m := ⟨_, rfl⟩
  obtain ⟨m2, hm2⟩ : ∃ m, (if momB tb then (0 : Int) else 1) = m := ⟨_, rfl⟩
  obtain ⟨wh, hwh⟩ : ∃ m, (if tb < ta then (1 : Int) else 0) = m := ⟨_, rfl⟩
  rw [hm1] at h1 h2
  rw [hm2, hwh] at h3
  have hma := fun u => hmo ta u
  have hmb := fun u => hmo tb u
  rw [hm1] at hma
  rw [hm2] at hmb
  have hwn : ∀ u, Calls Tryz.prog 22 #[.bool (decide (tb < ta)), .int .i64 1] u fun e w' => e = .returned (.int .i64 wh) ∧ u = w' := fun u => (when_any (decide (tb < ta)) 1 u).mono fun e w' h => ⟨by rw [h.1, ← hwh]; by_cases hl : tb < ta <;> simp [hl], h.2⟩
  clear hmo hm1 hm2 hwh
  have hor1 : ∀ u g ty, Blk u g ty #[.int .i64 F, .int .i64 kf, .int .i64 m1] → Calls Tryz.prog 19 #[.slice (some ⟨g, 0, none⟩) 3 3] u fun e w' => e = .returned (.int .i64 k1) ∧ u = w' := fun u g ty hb => by
    have := orErr_blk g ty 3 [F, kf, m1] u (by simp) hb
    rw [h1] at this
    exact this
  replace hor1 := Lib.hid hor1
  have hor2 : ∀ u g ty, Blk u g ty #[.int .i64 F, .int .i64 m1] → Calls Tryz.prog 19 #[.slice (some ⟨g, 0, none⟩) 2 2] u fun e w' => e = .returned (.int .i64 k2) ∧ u = w' := fun u g ty hb => by
    have := orErr_blk g ty 2 [F, m1] u (by simp) hb
    rw [h2] at this
    exact this
  replace hor2 := Lib.hid hor2
  have hor3 : ∀ u g ty, Blk u g ty #[.int .i64 k1, .int .i64 m2, .int .i64 wh] → Calls Tryz.prog 19 #[.slice (some ⟨g, 0, none⟩) 3 3] u fun e w' => e = .returned (.int .i64 k3) ∧ u = w' := fun u g ty hb => by
    have := orErr_blk g ty 3 [k1, m2, wh] u (by simp) hb
    rw [h3] at this
    exact this
  replace hor3 := Lib.hid hor3
  clear h1 h2 h3
  replace hi1 := Lib.hid hi1
  replace hi2 := Lib.hid hi2
  replace hvf := Lib.hid hvf
  replace hcv := Lib.hid hcv
  replace hrg := Lib.hid hrg
  replace hsg := Lib.hid hsg
  replace hgr := Lib.hid hgr
  unfold rngV at hroa hrob
  dsimp only at hroa hrob
  replace hroa := Lib.hid hroa
  replace hrob := Lib.hid hrob
  replace hso := Lib.hid hso
  replace hkf := Lib.hid hkf
  replace hma := Lib.hid hma
  replace hmb := Lib.hid hmb
  replace hwn := Lib.hid hwn
  replace hgv := Lib.hid hgv
  replace hvl := Lib.hid hvl
  replace htx := Lib.hid htx
  replace htr := Lib.hid htr
  replace hrr := Lib.hid hrr
  replace hir := Lib.hid hir
  replace hSR := Lib.hid hSR
  replace hS4 := Lib.hid hS4
  replace hE4' := Lib.hid hE4'
  have hX0 := Ext.refl wB
  go_upto_region 6 with (first
    | (go_at_call 14; (with_reducible refine Calls.mono (hvf.out _ hX0) ?_); rintro e w5 ⟨rfl, hb5⟩)
    | (go_at_call 15; (with_reducible refine Calls.mono (hcv.out _ hb5) ?_); rintro e w6 ⟨rfl, hb6⟩; have hX1 := hb5.trans hb6; clear hb5 hb6))
  go_upto_region 9 with (first
    | (go_at_call 16; (with_reducible refine Calls.mono (hrg.out _ hX1) ?_); go_loud (unfold rngV; rintro e w7 ⟨rfl, hb7⟩; have hX2 := (hX1.trans hb7).alloc (.cells #[.int .i64 rr1, .int .i64 rr2] 35); have hR2 := Blk.new' (w := w7) (t := 35) (cs := #[.int .i64 rr1, .int .i64 rr2]) rfl; clear hX1 hb7 hrg))
    | (go_at_call 17; (with_reducible refine Calls.mono (hsg.out _ hX2) ?_); rintro e w8 ⟨sp, sn, sc, rfl, hSS, hb8⟩; have hX3 := hX2.trans hb8; have hR3 := hR2.ext hb8; clear hX2 hb8 hR2 hsg)
    | (go_at_call 18; (with_reducible refine Calls.mono (hgr.out _ hX3) ?_); rintro e w9 ⟨rfl, hb9⟩; have hX4 := hX3.trans hb9; have hR4 := hR3.ext hb9; have hSS4 := hSS.ext hb9; clear hX3 hb9 hR3 hSS hgr))
  have hgA := hR4.lt
  generalize w7.heap.size = gA at *
  go_upto_region 10 with (first
    | (go_at_call 20; (with_reducible refine Calls.mono (hkf.out _) ?_); rintro e u1 ⟨rfl, c1⟩; clear hkf)
    | (go_at_call 21; have hc1 := c1; (with_reducible refine Calls.mono (hma.out _) ?_); rintro e u2 ⟨rfl, c2⟩; have hY6 := (hc1.trans c2).alloc (.cells #[.int .i64 F, .int .i64 kf, .int .i64 m1] 28); clear c1 c2 hc1)
    | (go_at_call 19; (with_reducible refine Calls.mono (hor1.out _ _ _ (by exact Blk.new' rfl)) ?_); rintro e u3 ⟨rfl, rfl⟩; clear hor1)
    | (go_at_call 21; have hY6' := hY6; (with_reducible refine Calls.mono (hma.out _) ?_); rintro e u4 ⟨rfl, c4⟩; have hY7 := (hY6.trans c4).alloc (.cells #[.int .i64 F, .int .i64 m1] 28); clear hY6 hY6' c4 hma)
    | (go_at_call 19; (with_reducible refine Calls.mono (hor2.out _ _ _ (by exact Blk.new' rfl)) ?_); rintro e u5 ⟨rfl, rfl⟩; clear hor2))
  go_upto_if 99 with (first
    | (go_at_call 21; (with_reducible refine Calls.mono (hmb.out _) ?_); rintro e u6 ⟨rfl, c6⟩; have hY8 := (hY7.trans c6).alloc (.cells #[.int .i64 k1, .int .i64 m2, .int .i64 wh] 28); clear hY7 c6)
    | (go_at_call 22; (with_reducible refine Calls.mono (hwn.out _) ?_); rintro e u7 ⟨rfl, rfl⟩)
    | (go_at_call 19; (with_reducible refine Calls.mono (hor3.out _ _ _ (by exact Blk.new' rfl)) ?_); rintro e u8 ⟨rfl, rfl⟩))
  have hZ0 : Blk ((u6.alloc (.cells #[.int .i64 k1, .int .i64 m2, .int .i64 wh] 28)).alloc (.cells #[.int .i64 0, .int .i64 0] 35)) (u6.heap.size + 1) 35 #[.int .i64 0, .int .i64 0] := Blk.new' (by simp)
  have hY9 := hY8.alloc (.cells #[.int .i64 0, .int .i64 0] 35)
  have hgB : w9.heap.size ≤ u6.heap.size + 1 := by have := hY8.size; simp at this; omega
  generalize (u6.alloc (.cells #[.int .i64 k1, .int .i64 m2, .int .i64 wh] 28)).alloc (.cells #[.int .i64 0, .int .i64 0] 35) = W0 at *
  generalize u6.heap.size + 1 = gB at *
  clear hY8
  go_cut [23] (fun v23 wc => v23 = .bool ir ∧ Blk wc gB 35 #[.int .i64 rr1, .int .i64 rr2] ∧ Ext w9 wc)
  case first =>
    as_aux_lemma =>
      by_cases hk : k1 = 0
      · have e1 := hrr.out
        have e2 := hir.out
        rw [if_pos hk] at e1 e2
        obtain ⟨rfl, rfl⟩ := Prod.mk.inj e1
        subst e2
        have hro1 := hroa.out W0 (hX4.trans hY9)
        replace hro1 := Lib.hid hro1
        have hkd : decide (k1 = 0) = true := decide_eq_true hk
        have hke : (k1 == 0) = true := by simpa using hk
        replace hk := Lib.hid hk
        clear e1
        go_wp2_with (go_at_call 23; (with_reducible refine Calls.mono hro1.out ?_); rintro e v1 ⟨rfl, d1⟩; have hZ1 := hZ0.ext d1; obtain ⟨y1, y2⟩ := hZ1.walk; have y3 := hZ1.lt)
        go_meet
        exact ⟨rfl, ((hZ1.set_ 0 _).set_ 1 _).cast (by simp), ((hY9.trans d1).setCell (p := ⟨gB, 0, none⟩) hgB _).setCell (p := ⟨gB, 1, none⟩) hgB _⟩
      · have e1 := hrr.out
        have e2 := hir.out
        rw [if_neg hk] at e1 e2
        obtain ⟨rfl, rfl⟩ := Prod.mk.inj e1
        subst e2
        have hkd : decide (k1 = 0) = false := decide_eq_false hk
        have hke : (k1 == 0) = false := by simpa using hk
        replace hk := Lib.hid hk
        go_wp2
        go_meet
        exact ⟨rfl, hZ0, hY9⟩
  case rest =>
    as_aux_lemma =>
      clear hZ0 hY9
      obtain ⟨rfl, hZ1, hY1⟩ := hcut
      go_upto_if 108 with fail
      go_cut [22] (fun v22 wd => ∃ (q : Option Addr) (m d : Nat), v22 = .slice q m d ∧ Slc 1 strC wd q m d SR ∧ Blk wd gB 35 #[.int .i64 rr1, .int .i64 rr2] ∧ Ext w9 wd)
      case first =>
        as_aux_lemma =>
          by_cases hk : k2 = 0
          · have hSRe := hSR.out
            rw [if_pos hk] at hSRe
            have hso1 := hso.out wc (hX4.trans hY1)
            rw [← hSRe] at hso1
            have hkd : decide (k2 = 0) = true := decide_eq_true hk
            have hke : (k2 == 0) = true := by simpa using hk
            replace hk := Lib.hid hk
            replace hSRe := Lib.hid hSRe
            replace hso1 := Lib.hid hso1
            go_wp2_with (go_at_call 24; (with_reducible refine Calls.mono hso1.out ?_); rintro e v1 ⟨q, d, rfl, hSq, d1⟩)
            go_meet
            exact ⟨_, _, _, rfl, hSq, hZ1.ext d1, hY1.trans d1⟩
          · have hSRe := hSR.out
            rw [if_neg hk] at hSRe
            have hkd : decide (k2 = 0) = false := decide_eq_false hk
            have hke : (k2 == 0) = false := by simpa using hk
            have hnil : Slc 1 strC wc none 0 0 SR := hSRe ▸ Slc.nil _ _ _
            replace hk := Lib.hid hk
            replace hSRe := Lib.hid hSRe
            replace hnil := Lib.hid hnil
            go_wp2
            go_meet
            exact ⟨_, _, _, rfl, hnil.out, hZ1, hY1⟩
      case rest =>
        as_aux_lemma =>
          clear hZ1 hY1 hso
          obtain ⟨qq, mq, dq, rfl, hSq, hZ2, hY2⟩ := hcut
          go_upto_if 113 with fail
          go_cut [24, 25, 26] (fun v24 v25 v26 we => v24 = .bool g3 ∧ v25 = .int .i64 g1 ∧ v26 = .int .i64 g2 ∧ Slc 1 strC we qq mq dq SR ∧ Blk we gB 35 #[.int .i64 rr1, .int .i64 rr2] ∧ Ext w9 we)
          case first =>
            as_aux_lemma =>
              by_cases hk : k3 = 0
              · have hk1 := hi1.out hk
                have e1 := hrr.out
                have e2 := hir.out
                rw [if_pos hk1] at e1 e2
                obtain ⟨rfl, rfl⟩ := Prod.mk.inj e1
                subst e2
                have hg := hgv.out
                rw [if_pos hk] at hg
                have hro2 := hrob.out wc (hX4.trans hY2)
                have hkd : decide (k3 = 0) = true := decide_eq_true hk
                have hke : (k3 == 0) = true := by simpa using hk
                have z1 : IntKind.i64.wrap (rr1 - rb1) = rr1 - rb1 := IntWalk.i64_in _ (by omega)
                have z2 : IntKind.i64.wrap (rb2 - rr2) = rb2 - rr2 := IntWalk.i64_in _ (by omega)
                replace hk := Lib.hid hk
                replace hk1 := Lib.hid hk1
                replace hro2 := Lib.hid hro2
                clear e1
                cases ir
                · have hg2 : (g1, g2, g3) = ((0 : Int), (0 : Int), false) := hg
                  obtain ⟨rfl, hg3⟩ := Prod.mk.inj hg2
                  obtain ⟨rfl, rfl⟩ := Prod.mk.inj hg3
                  clear hg hg2 hg3
                  go_wp2_with (go_at_call 23; (with_reducible refine Calls.mono hro2.out ?_); rintro e v1 ⟨rfl, d1⟩; have hZ4 := (hZ2.ext d1).alloc (.cells #[.int .i64 rb1, .int .i64 rb2] 35); have hW4 := Blk.new' (w := v1) (t := 35) (cs := #[.int .i64 rb1, .int .i64 rb2]) rfl; have hY4 := (hY2.trans d1).alloc (.cells #[.int .i64 rb1, .int .i64 rb2] 35); have hSq4 := (hSq.ext d1).ext ((Ext.refl v1).alloc (.cells #[.int .i64 rb1, .int .i64 rb2] 35)))
                  go_meet
                  exact ⟨rfl, rfl, rfl, hSq4, hZ4, hY4⟩
                cases ib
                · have hg2 : (g1, g2, g3) = ((0 : Int), (0 : Int), false) := hg
                  obtain ⟨rfl, hg3⟩ := Prod.mk.inj hg2
                  obtain ⟨rfl, rfl⟩ := Prod.mk.inj hg3
                  clear hg hg2 hg3
                  go_wp2_with (go_at_call 23; (with_reducible refine Calls.mono hro2.out ?_); rintro e v1 ⟨rfl, d1⟩; have hZ4 := (hZ2.ext d1).alloc (.cells #[.int .i64 rb1, .int .i64 rb2] 35); have hW4 := Blk.new' (w := v1) (t := 35) (cs := #[.int .i64 rb1, .int .i64 rb2]) rfl; have hY4 := (hY2.trans d1).alloc (.cells #[.int .i64 rb1, .int .i64 rb2] 35); have hSq4 := (hSq.ext d1).ext ((Ext.refl v1).alloc (.cells #[.int .i64 rb1, .int .i64 rb2] 35)))
                  go_meet
                  exact ⟨rfl, rfl, rfl, hSq4, hZ4, hY4⟩
                have hg2 : (g1, g2, g3) = (rr1 - rb1, rb2 - rr2, true) := hg
                obtain ⟨rfl, hg3⟩ := Prod.mk.inj hg2
                obtain ⟨rfl, rfl⟩ := Prod.mk.inj hg3
                clear hg hg2 hg3
                go_upto_region 22 with (go_at_call 23; (with_reducible refine Calls.mono hro2.out ?_); rintro e v1 ⟨rfl, d1⟩; have hZ4 := (hZ2.ext d1).alloc (.cells #[.int .i64 rb1, .int .i64 rb2] 35); have hW4 := Blk.new' (w := v1) (t := 35) (cs := #[.int .i64 rb1, .int .i64 rb2]) rfl; have hY4 := (hY2.trans d1).alloc (.cells #[.int .i64 rb1, .int .i64 rb2] 35); have hSq4 := (hSq.ext d1).ext ((Ext.refl v1).alloc (.cells #[.int .i64 rb1, .int .i64 rb2] 35)))
                have lA := hZ4.lt
                have lC := hW4.lt
                have x0 := hZ4.cell 0
                have x1 := hZ4.cell 1
                have x2 := hW4.cell 0
                have x3 := hW4.cell 1
                generalize v1.alloc (.cells #[.int .i64 rb1, .int .i64 rb2] 35) = W1 at *
                refine wp_region_facts [] [([], false, false), ([0], false, false), ([], false, false), ([2], false, false), ([0, 1, 2, 3], false, false), ([], false, false), ([5], false, false), ([], false, false), ([7], false, false), ([5, 6, 7, 8], false, false), ([0, 1, 2, 3, 4], false, false), ([5, 6, 7, 8, 9], false, false)] (Ext) Ext (fun _ => True) (by kernel_rfl) (by kernel_rfl) Ext.refl (fun _ _ _ => Ext.trans) (fun _ _ h => h) (fun _ _ h => h.size) (fun _ _ h _ => h) trivial ?_
                dsimp only [List.length_cons, List.length_nil, List.drop_succ_cons, List.drop_zero, List.drop_nil]
                refine fac_quiet 0 rfl rfl rfl (fun _ _ h _ => h) rfl rfl ?_
                apply Exists.intro
                refine ⟨fun sv w' hw' hfa => ?_, ?_⟩
                · refine ⟨rfl, ?_⟩
                  simp only [putsL]
                  change quietTo _ _ _ _ (Sem.run _ (execOp (Act.eval _) _) _)
                  try simp only [Act.put, List.setIfInBounds_toArray, List.set_cons_succ, List.set_cons_zero]
                  simp [go_sem, quietTo, Ext.refl]
                  all_goals first
                    | rfl
                refine fac_quiet 1 rfl rfl rfl (fun _ _ h _ => h) rfl rfl ?_
                apply Exists.intro
                refine ⟨fun sv w' hw' hfa => ?_, ?_⟩
                · obtain ⟨f0, -⟩ := hfa
                  replace f0 : sv 0 = _ := f0
                  try dsimp only at f0
                  obtain ⟨hc9, hff, hz9⟩ := ((Ext.refl _).drew.trans hw').walk; have y0 := (hc9 _ 0 lA).trans x0; have y1 := (hc9 _ 1 lA).trans x1; have y2 := (hc9 _ 0 lC).trans x2; have y3 := (hc9 _ 1 lC).trans x3
                  refine ⟨rfl, ?_⟩
                  simp only [putsL]
                  change quietTo _ _ _ _ (Sem.run _ (execOp (Act.eval (Act.put _ (some 126) (sv 0))) _) _)
                  try simp only [Act.put, List.setIfInBounds_toArray, List.set_cons_succ, List.set_cons_zero]
                  simp [go_sem, quietTo, Ext.refl, ↓IntWalk.iteOmega, f0, y0]
                  all_goals try simp (disch := omega) only [IntWalk.i64_in]
                  all_goals first
                    | rfl
                refine fac_quiet 2 rfl rfl rfl (fun _ _ h _ => h) rfl rfl ?_
                apply Exists.intro
                refine ⟨fun sv w' hw' hfa => ?_, ?_⟩
                · refine ⟨rfl, ?_⟩
                  simp only [putsL]
                  change quietTo _ _ _ _ (Sem.run _ (execOp (Act.eval _) _) _)
                  try simp only [Act.put, List.setIfInBounds_toArray, List.set_cons_succ, List.set_cons_zero]
                  simp [go_sem, quietTo, Ext.refl]
                  all_goals first
                    | rfl
                refine fac_quiet 3 rfl rfl rfl (fun _ _ h _ => h) rfl rfl ?_
                apply Exists.intro
                refine ⟨fun sv w' hw' hfa => ?_, ?_⟩
                · obtain ⟨f2, -⟩ := hfa
                  replace f2 : sv 2 = _ := f2
                  try dsimp only at f2
                  obtain ⟨hc9, hff, hz9⟩ := ((Ext.refl _).drew.trans hw').walk; have y0 := (hc9 _ 0 lA).trans x0; have y1 := (hc9 _ 1 lA).trans x1; have y2 := (hc9 _ 0 lC).trans x2; have y3 := (hc9 _ 1 lC).trans x3
                  refine ⟨rfl, ?_⟩
                  simp only [putsL]
                  change quietTo _ _ _ _ (Sem.run _ (execOp (Act.eval (Act.put _ (some 128) (sv 2))) _) _)
                  try simp only [Act.put, List.setIfInBounds_toArray, List.set_cons_succ, List.set_cons_zero]
                  simp [go_sem, quietTo, Ext.refl, ↓IntWalk.iteOmega, f2, y2]
                  all_goals try simp (disch := omega) only [IntWalk.i64_in]
                  all_goals first
                    | rfl
                refine fac_quiet 4 rfl rfl rfl (fun _ _ h _ => h) rfl rfl ?_
                apply Exists.intro
                refine ⟨fun sv w' hw' hfa => ?_, ?_⟩
                · obtain ⟨_, f1, _, f3, -⟩ := hfa
                  replace f1 : sv 1 = _ := f1
                  try dsimp only at f1
                  replace f3 : sv 3 = _ := f3
                  try dsimp only at f3
                  obtain ⟨hc9, hff, hz9⟩ := ((Ext.refl _).drew.trans hw').walk; have y0 := (hc9 _ 0 lA).trans x0; have y1 := (hc9 _ 1 lA).trans x1; have y2 := (hc9 _ 0 lC).trans x2; have y3 := (hc9 _ 1 lC).trans x3
                  refine ⟨rfl, ?_⟩
                  simp only [putsL]
                  change quietTo _ _ _ _ (Sem.run _ (execOp (Act.eval (Act.put (Act.put (Act.put (Act.put _ (some 129) (sv 3)) (some 128) (sv 2)) (some 127) (sv 1)) (some 126) (sv 0))) _) _)
                  try simp only [Act.put, List.setIfInBounds_toArray, List.set_cons_succ, List.set_cons_zero]
                  simp [go_sem, quietTo, Ext.refl, ↓IntWalk.iteOmega, f1, f3, z1]
                  all_goals try simp (disch := omega) only [IntWalk.i64_in]
                  all_goals first
                    | rfl
                refine fac_quiet 5 rfl rfl rfl (fun _ _ h _ => h) rfl rfl ?_
                apply Exists.intro
                refine ⟨fun sv w' hw' hfa => ?_, ?_⟩
                · refine ⟨rfl, ?_⟩
                  simp only [putsL]
                  change quietTo _ _ _ _ (Sem.run _ (execOp (Act.eval _) _) _)
                  try simp only [Act.put, List.setIfInBounds_toArray, List.set_cons_succ, List.set_cons_zero]
                  simp [go_sem, quietTo, Ext.refl]
                  all_goals first
                    | rfl
                refine fac_quiet 6 rfl rfl rfl (fun _ _ h _ => h) rfl rfl ?_
                apply Exists.intro
                refine ⟨fun sv w' hw' hfa => ?_, ?_⟩
                · obtain ⟨f5, -⟩ := hfa
                  replace f5 : sv 5 = _ := f5
                  try dsimp only at f5
                  obtain ⟨hc9, hff, hz9⟩ := ((Ext.refl _).drew.trans hw').walk; have y0 := (hc9 _ 0 lA).trans x0; have y1 := (hc9 _ 1 lA).trans x1; have y2 := (hc9 _ 0 lC).trans x2; have y3 := (hc9 _ 1 lC).trans x3
                  refine ⟨rfl, ?_⟩
                  simp only [putsL]
                  change quietTo _ _ _ _ (Sem.run _ (execOp (Act.eval (Act.put _ (some 131) (sv 5))) _) _)
                  try simp only [Act.put, List.setIfInBounds_toArray, List.set_cons_succ, List.set_cons_zero]
                  simp [go_sem, quietTo, Ext.refl, ↓IntWalk.iteOmega, f5, y3]
                  all_goals try simp (disch := omega) only [IntWalk.i64_in]
                  all_goals first
                    | rfl
                refine fac_quiet 7 rfl rfl rfl (fun _ _ h _ => h) rfl rfl ?_
                apply Exists.intro
                refine ⟨fun sv w' hw' hfa => ?_, ?_⟩
                · refine ⟨rfl, ?_⟩
                  simp only [putsL]
                  change quietTo _ _ _ _ (Sem.run _ (execOp (Act.eval _) _) _)
                  try simp only [Act.put, List.setIfInBounds_toArray, List.set_cons_succ, List.set_cons_zero]
                  simp [go_sem, quietTo, Ext.refl]
                  all_goals first
                    | rfl
                refine fac_quiet 8 rfl rfl rfl (fun _ _ h _ => h) rfl rfl ?_
                apply Exists.intro
                refine ⟨fun sv w' hw' hfa => ?_, ?_⟩
                · obtain ⟨f7, -⟩ := hfa
                  replace f7 : sv 7 = _ := f7
                  try dsimp only at f7
                  obtain ⟨hc9, hff, hz9⟩ := ((Ext.refl _).drew.trans hw').walk; have y0 := (hc9 _ 0 lA).trans x0; have y1 := (hc9 _ 1 lA).trans x1; have y2 := (hc9 _ 0 lC).trans x2; have y3 := (hc9 _ 1 lC).trans x3
                  refine ⟨rfl, ?_⟩
                  simp only [putsL]
                  change quietTo _ _ _ _ (Sem.run _ (execOp (Act.eval (Act.put _ (some 133) (sv 7))) _) _)
                  try simp only [Act.put, List.setIfInBounds_toArray, List.set_cons_succ, List.set_cons_zero]
                  simp [go_sem, quietTo, Ext.refl, ↓IntWalk.iteOmega, f7, y1]
                  all_goals try simp (disch := omega) only [IntWalk.i64_in]
                  all_goals first
                    | rfl
                refine fac_quiet 9 rfl rfl rfl (fun _ _ h _ => h) rfl rfl ?_
                apply Exists.intro
                refine ⟨fun sv w' hw' hfa => ?_, ?_⟩
                · obtain ⟨_, f6, _, f8, -⟩ := hfa
                  replace f6 : sv 6 = _ := f6
                  try dsimp only at f6
                  replace f8 : sv 8 = _ := f8
                  try dsimp only at f8
                  obtain ⟨hc9, hff, hz9⟩ := ((Ext.refl _).drew.trans hw').walk; have y0 := (hc9 _ 0 lA).trans x0; have y1 := (hc9 _ 1 lA).trans x1; have y2 := (hc9 _ 0 lC).trans x2; have y3 := (hc9 _ 1 lC).trans x3
                  refine ⟨rfl, ?_⟩
                  simp only [putsL]
                  change quietTo _ _ _ _ (Sem.run _ (execOp (Act.eval (Act.put (Act.put (Act.put (Act.put _ (some 134) (sv 8)) (some 133) (sv 7)) (some 132) (sv 6)) (some 131) (sv 5))) _) _)
                  try simp only [Act.put, List.setIfInBounds_toArray, List.set_cons_succ, List.set_cons_zero]
                  simp [go_sem, quietTo, Ext.refl, ↓IntWalk.iteOmega, f6, f8, z2]
                  all_goals try simp (disch := omega) only [IntWalk.i64_in]
                  all_goals first
                    | rfl
                refine fac_quiet 10 rfl rfl rfl (fun _ _ h _ => h) rfl rfl ?_
                apply Exists.intro
                refine ⟨fun sv w' hw' hfa => ?_, ?_⟩
                · obtain ⟨_, _, _, _, f4, -⟩ := hfa
                  replace f4 : sv 4 = _ := f4
                  try dsimp only at f4
                  refine ⟨rfl, ?_⟩
                  simp only [putsL]
                  change quietTo _ _ _ _ (Sem.run _ (execOp (Act.eval (Act.put (Act.put (Act.put (Act.put (Act.put _ (some 130) (sv 4)) (some 129) (sv 3)) (some 128) (sv 2)) (some 127) (sv 1)) (some 126) (sv 0))) _) _)
                  try simp only [Act.put, List.setIfInBounds_toArray, List.set_cons_succ, List.set_cons_zero]
                  simp [go_sem, quietTo, Ext.refl, f4]
                  all_goals first
                    | rfl
                refine fac_quiet 11 rfl rfl rfl (fun _ _ h _ => h) rfl rfl ?_
                apply Exists.intro
                refine ⟨fun sv w' hw' hfa => ?_, ?_⟩
                · obtain ⟨_, _, _, _, f9, -⟩ := hfa
                  replace f9 : sv 9 = _ := f9
                  try dsimp only at f9
                  refine ⟨rfl, ?_⟩
                  simp only [putsL]
                  change quietTo _ _ _ _ (Sem.run _ (execOp (Act.eval (Act.put (Act.put (Act.put (Act.put (Act.put _ (some 135) (sv 9)) (some 134) (sv 8)) (some 133) (sv 7)) (some 132) (sv 6)) (some 131) (sv 5))) _) _)
                  try simp only [Act.put, List.setIfInBounds_toArray, List.set_cons_succ, List.set_cons_zero]
                  simp [go_sem, quietTo, Ext.refl, f9]
                  all_goals first
                    | rfl
                refine fac_nil fun xq wrq herq hfrq hcrq holdq hapq => ?_
                obtain ⟨f0, f1, f2, f3, f4, f5, f6, f7, f8, f9, f10, f11, -⟩ := hfrq
                replace f0 : xq 0 = _ := f0
                try dsimp only at f0
                replace f1 : xq 1 = _ := f1
                try dsimp only at f1
                replace f2 : xq 2 = _ := f2
                try dsimp only at f2
                replace f3 : xq 3 = _ := f3
                try dsimp only at f3
                replace f4 : xq 4 = _ := f4
                try dsimp only at f4
                replace f5 : xq 5 = _ := f5
                try dsimp only at f5
                replace f6 : xq 6 = _ := f6
                try dsimp only at f6
                replace f7 : xq 7 = _ := f7
                try dsimp only at f7
                replace f8 : xq 8 = _ := f8
                try dsimp only at f8
                replace f9 : xq 9 = _ := f9
                try dsimp only at f9
                replace f10 : xq 10 = _ := f10
                try dsimp only at f10
                replace f11 : xq 11 = _ := f11
                try dsimp only at f11
                change wpList _ _ _ _ (Act.put (Act.put (Act.put (Act.put (Act.put (Act.put (Act.put (Act.put (Act.put (Act.put (Act.put (Act.put _ (some 126) (xq 0)) (some 127) (xq 1)) (some 128) (xq 2)) (some 129) (xq 3)) (some 130) (xq 4)) (some 131) (xq 5)) (some 132) (xq 6)) (some 133) (xq 7)) (some 134) (xq 8)) (some 135) (xq 9)) (some 25) (xq 10)) (some 26) (xq 11)) _
                simp only [putsL, Nat.reduceAdd, List.drop_succ_cons, List.drop_zero, List.drop_nil, Act.put, List.setIfInBounds_toArray, List.set_cons_succ, List.set_cons_zero]
                try simp only [f0, f1, f2, f3, f4, f5, f6, f7, f8, f9, f10, f11]
                clear f0 f1 f2 f3 f4 f5 f6 f7 f8 f9 f10 f11
                clear holdq hapq
                have hka := (Ext.refl _).drew.trans herq
                have hSq5 := hSq4.ext hka
                have hZ5 := hZ4.ext hka
                have hY5 := hY4.trans hka
                go_wp2
                go_meet
                exact ⟨rfl, rfl, rfl, hSq5, hZ5, hY5⟩
              · have hg := hgv.out
                rw [if_neg hk] at hg
                obtain ⟨rfl, hg'⟩ := Prod.mk.inj hg
                obtain ⟨rfl, rfl⟩ := Prod.mk.inj hg'
                have hkd : decide (k3 = 0) = false := decide_eq_false hk
                have hke : (k3 == 0) = false := by simpa using hk
                replace hk := Lib.hid hk
                clear hg hg'
                go_wp2
                go_meet
                exact ⟨rfl, rfl, rfl, hSq, hZ2, hY2⟩
          case rest =>
            as_aux_lemma =>
              clear hSq hZ2 hY2
              obtain ⟨rfl, rfl, rfl, hSq, hZ3, hY3⟩ := hcut
              obtain rfl : SR.length = sn := hSS4.1.1
              obtain rfl : SR.length = mq := hSq.1.1
              have heq := eqStrV_any sp qq SR.length sc dq SR wc (hSS4.ext hY3) hSq (by omega)
              have hRc := hR4.ext hY3
              obtain ⟨a1, a2⟩ := hRc.walk
              have a3 := hRc.lt
              obtain ⟨a4, a5⟩ := hZ3.walk
              have a6 := hZ3.lt
              have hBw := hX4.trans hY3
              replace heq := Lib.hid heq
              clear hSS4 hSq hR4
              go_upto_if 179 with (go_at_call 25; (with_reducible refine Calls.mono heq.out ?_); rintro e v1 ⟨rfl, d1⟩)
              clear heq a1 a2 a3 a4 a5 a6 hZ3 hRc hgv hrr hir hSR hi1 hi2 hX4
              have hB1 := hBw.trans d1
              have htx1 := htx.out v1 hB1
              obtain ⟨tr1, tr2⟩ := htr.out
              clear htx htr
              by_cases hF : F = 0
              · obtain ⟨rfl, rfl⟩ := Prod.mk.inj (tr1 hF)
                have hvl1 := fun u (hu : Ext v1 u) => hvl.out u (hB1.trans hu) hF
                subst hF
                replace htx1 := Lib.hid htx1
                replace hvl1 := Lib.hid hvl1
                clear hvl tr1 tr2
                go_upto_region 28 with (first
                  | (go_at_call 6; (with_reducible refine Calls.mono htx1.out ?_); rintro e u1 ⟨rfl, d2⟩)
                  | (go_at_call 26; (with_reducible refine Calls.mono (hvl1.out _ d2) ?_); rintro e u2 ⟨rfl, d3⟩))
                have hBu := (hB1.trans d2).trans d3
                have hbw := hb4.trans hBu
                have hvs := voiceString_any B w.heap.size (k' + 1 + 2 + 2) L u2 (by omega) (hS4.out.ext hBu) hB (ht.ext hbw)
                replace hvs := Lib.hid hvs
                go_upto_region 29 with (go_at_call 9; (with_reducible refine Calls.mono hvs.out ?_); rintro e u3 ⟨y, rfl, hys, hS5, hE5⟩)
                have hb5 := hback.out u3 ((hE4'.out.ext hBu).trans hE5)
                have hrd := (readVo_any B y u3 (by omega) (hm.ext hb5)).mono fun e w' hh => ReadV.slc hh
                have hvr := fun u (hu : Ext u3 u) => (voicesRead_any B y u (by omega) ((hm.ext hb5).ext hu) ((ht.ext hb5).ext hu)).mono fun e w' hh => ReadV.slc hh
                generalize (readG rdVo voicesG y.data.toList).1 = X at *
                generalize (readG rdVo voicesG y.data.toList).2.1 = xi at *
                generalize (readG rdVo voicesG y.data.toList).2.2 = xf at *
                replace hrd := Lib.hid hrd
                replace hvr := Lib.hid hvr
                clear hvs hS5 hE5 hS4 hE4'
                go_wp2_with (first
                  | (go_at_call 7; (with_reducible refine Calls.mono hrd.out ?_); rintro e u4 ⟨p4, n4, c4, rfl, hl4, hn4, hS4, -, hb6⟩)
                  | (go_at_call 27; (with_reducible refine Calls.mono (hvr.out _ hb6) ?_); rintro e u5 ⟨p5, n5, c5, rfl, hl5, hn5, hS5, -, hb7⟩; have hnn : n4 = n5 := (hl4.symm.trans hl5); have hS45 := hS4.ext hb7; rw [hnn] at hS45)
                  | (go_at_call 8; (refine (eqVoiD_any p4 p5 n5 c4 c5 X u5 hS45 hS5 (by omega)).mono ?_); rintro e u6 ⟨rfl, hb8⟩)
                  | (go_at_call 28; (with_reducible refine Calls.mono (voiced_any _) ?_); rintro e u7 ⟨rfl, hb9⟩))
                go_ret
                exact ⟨rfl, (((hb5.trans hb6).trans hb7).trans hb8).trans hb9⟩
              · obtain ⟨rfl, rfl⟩ := Prod.mk.inj (tr2 hF)
                have hFd : decide (TR2 = 0) = false := decide_eq_false hF
                have hFe : (TR2 == 0) = false := by simpa using hF
                replace htx1 := Lib.hid htx1
                clear hvl tr1 tr2
                go_upto_region 28 with (go_at_call 6; (with_reducible refine Calls.mono htx1.out ?_); rintro e u2 ⟨rfl, d2⟩)
                have hBu := hB1.trans d2
                have hbw := hb4.trans hBu
                have hvs := voiceString_any B w.heap.size (k' + 1 + 2 + 2) L u2 (by omega) (hS4.out.ext hBu) hB (ht.ext hbw)
                replace hvs := Lib.hid hvs
                go_upto_region 29 with (go_at_call 9; (with_reducible refine Calls.mono hvs.out ?_); rintro e u3 ⟨y, rfl, hys, hS5, hE5⟩)
                have hb5 := hback.out u3 ((hE4'.out.ext hBu).trans hE5)
                have hrd := (readVo_any B y u3 (by omega) (hm.ext hb5)).mono fun e w' hh => ReadV.slc hh
                have hvr := fun u (hu : Ext u3 u) => (voicesRead_any B y u (by omega) ((hm.ext hb5).ext hu) ((ht.ext hb5).ext hu)).mono fun e w' hh => ReadV.slc hh
                generalize (readG rdVo voicesG y.data.toList).1 = X at *
                generalize (readG rdVo voicesG y.data.toList).2.1 = xi at *
                generalize (readG rdVo voicesG y.data.toList).2.2 = xf at *
                replace hrd := Lib.hid hrd
                replace hvr := Lib.hid hvr
                clear hvs hS5 hE5 hS4 hE4'
                go_wp2_with (first
                  | (go_at_call 7; (with_reducible refine Calls.mono hrd.out ?_); rintro e u4 ⟨p4, n4, c4, rfl, hl4, hn4, hS4, -, hb6⟩)
                  | (go_at_call 27; (with_reducible refine Calls.mono (hvr.out _ hb6) ?_); rintro e u5 ⟨p5, n5, c5, rfl, hl5, hn5, hS5, -, hb7⟩; have hnn : n4 = n5 := (hl4.symm.trans hl5); have hS45 := hS4.ext hb7; rw [hnn] at hS45)
                  | (go_at_call 8; (refine (eqVoiD_any p4 p5 n5 c4 c5 X u5 hS45 hS5 (by omega)).mono ?_); rintro e u6 ⟨rfl, hb8⟩)
                  | (go_at_call 28; (with_reducible refine Calls.mono (voiced_any _) ?_); rintro e u7 ⟨rfl, hb9⟩))
                go_ret
                exact ⟨rfl, (((hb5.trans hb6).trans hb7).trans hb8).trans hb9⟩
end Go.Proofs.YtboplnogfjmpnaaGreatDoor
