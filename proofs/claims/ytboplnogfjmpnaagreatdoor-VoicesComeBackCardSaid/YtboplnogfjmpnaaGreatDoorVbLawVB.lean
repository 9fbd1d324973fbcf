/- Voices that are written are read as they were; what is read is written so: the property answers true. Conditions: the argument is a list of ints that lies in memory; the table of the powers of ten stands; the variable internal/bytealg.MaxLen holds some number. -/
import Derived.Test.YtboplnogfjmpnaaGreatDoorVbVtE
import Derived.Test.YtboplnogfjmpnaaGreatDoorVbVtF
import Derived.Test.YtboplnogfjmpnaaGreatDoorVbEqVo
import Derived.Test.YtboplnogfjmpnaaGreatDoorVbJ46
set_option linter.unusedSimpArgs false
set_option linter.unusedVariables false
namespace Go.Proofs.YtboplnogfjmpnaaGreatDoor
open Go Go.RowKit

theorem readVo_text {V : List VoiceV} (h0 : voicesF V = 0) (hl : V.length ≤ 10) : readG rdVo voicesG (textG lnVo V) = (V, 0, 0) ∧ textRG lnVo voicesG V = (⟨(textG lnVo V).toArray⟩, 0) ∧ (textG lnVo V).length ≤ 4200 := by
  have hok := voi_ok h0
  have htl := textG_len (ln := lnVo) (m := 164) (d := V) fun x hx => lnVo_len (hok x hx)
  have htn : V.length * (164 + 1) ≤ 10 * 165 := Nat.mul_le_mul hl (Nat.le_refl _)
  have hg : voicesG V = 0 := by rw [voicesG_small (by omega), h0]
  obtain ⟨h1, h2⟩ := readG_text fmtVo hok hg (by omega)
  exact ⟨h1, h2, by omega⟩

set_option maxRecDepth 100000 in
set_option maxHeartbeats 12800000 in
theorem lawVB_any (B : Nat) (w : World) (p : Option Addr) (n c : Nat) (h : Lst w w.heap.size p n) (ht : Tab B w) (hm : MaxL B w) :
    Calls Tryz.prog 3 #[.slice p n c] w fun e w' => e = .returned (.bool true) ∧ Ext w w' := by
  obtain ⟨xs, rfl, hLst⟩ := lst_list h
  obtain ⟨L, hLx⟩ : ∃ L : Src, L = ⟨xs, w.heap.size⟩ := ⟨_, rfl⟩
  have hS0 : StrL (w.alloc (.cells #[.slice p xs.length c, .int .i64 0] 25)) w.heap.size L 0 := by
    subst hLx
    exact ⟨Nat.le_refl _, p, c, Blk.new' rfl, hLst.low fun j hj => Below.heap_alloc w _ j hj⟩
  have hB := ht.1
  clear h hLst
  have hback : ∀ u, ExtS w.heap.size (w.alloc (.cells #[.slice p xs.length c, .int .i64 0] 25)) u → Ext w u := fun u hu => ExtS.back ((Ext.refl w).alloc _) (by simp) hu
  replace hback := Lib.hid hback
  have hvo := rightVoices_det w.heap.size 0 5 L _ (by omega) (by omega) hS0
  replace hvo := Lib.hid hvo
  clear hS0
  go_enter Tryz.func3, Tryz.ntmps3
  go_upto_region 3 with (go_at_call 5; (with_reducible refine Calls.mono hvo.out ?_); rintro e w1 ⟨p1, n1, c1, V, k', rfl, hn1, hown, hVl, hsm, hq, -, hk', hS1, hE1⟩)
  have hb1 := hback.out w1 hE1
  have hSl : Slc 4 voiC w1 p1 n1 c1 V := by
    obtain ⟨p', c', e', hS'⟩ := slc_of_own voiC_len hown (by decide) (by omega)
    cases e'
    exact hS'
  obtain ⟨hRT, hTR, hlen⟩ := readVo_text hq (by omega)
  have htx := textVo_any B p1 n1 c1 V w1 hSl.1 (fun x hx => (hsm x hx).wide) (by omega) (ht.ext hb1)
  rw [hTR] at htx
  dsimp only at htx
  have hrd : ∀ w2, Ext w1 w2 → Calls Tryz.prog 7 #[.string ⟨(textG lnVo V).toArray⟩] w2 fun e w' => ∃ (p3 : Option Addr) (c3 : Nat), e = .returned (.tuple #[.slice p3 n1 c3, .int .i64 0, .int .i64 0]) ∧ Slc 4 voiC w' p3 n1 c3 V ∧ Ext w2 w' := fun w2 hb2 =>
    (readVo_any B ⟨(textG lnVo V).toArray⟩ w2 (by show (textG lnVo V).toArray.size ≤ _; simp; omega) (hm.ext (hb1.trans hb2))).mono fun e w' hh => by
      obtain ⟨p3, n3, c3, he, hl, -, hS3, -, hx⟩ := ReadV.slc (t := textG lnVo V) hh
      rw [hRT] at he hl hS3
      dsimp only at he hl hS3
      obtain rfl : n3 = n1 := by omega
      exact ⟨p3, c3, he, hS3, hx⟩
  clear hRT hTR hlen hq hsm hown
  replace htx := Lib.hid htx
  replace hrd := Lib.hid hrd
  go_upto_region 4 with (go_at_call 6; (with_reducible refine Calls.mono htx.out ?_); rintro e w2 ⟨rfl, hb2⟩)
  go_upto_if 43 with (first
    | (go_at_call 7; (with_reducible refine Calls.mono (hrd.out w2 hb2) ?_); rintro e w3 ⟨p3, c3, rfl, hSl3, hb3⟩)
    | (go_at_call 8; (with_reducible refine Calls.mono (eqVoiD_any p3 p1 n1 c3 c1 V w3 hSl3 (hSl.ext (hb2.trans hb3)) (by omega)) ?_); rintro e w4 ⟨rfl, hb4⟩))
  have hE4 := ((hE1.ext hb2).ext hb3).ext hb4
  have hS4 := ((hS1.ext hb2).ext hb3).ext hb4
  clear hSl3 hSl hb2 hb3 hb4 hS1 hE1 htx hrd hb1
  go_upto_region 8 with (go_at_call 9; (with_reducible refine Calls.mono (voiceString_any B w.heap.size k' L _ (by omega) (by exact hS4) hB (by exact ht.ext (hback.out _ hE4))) ?_); rintro e w5 ⟨y, rfl, hys, hS5, hE5⟩)
  have hb5 := hback.out w5 (hE4.trans hE5)
  have hrd := (readVo_any B y w5 (by omega) (hm.ext hb5)).mono fun e w' hh => ReadV.slc hh
  have hbk := fun hf => readG_back fmtVo (flt := voicesG) (t := y.data.toList) hf
  generalize hX : (readG rdVo voicesG y.data.toList).1 = X at *
  generalize hi : (readG rdVo voicesG y.data.toList).2.1 = i at *
  generalize hf : (readG rdVo voicesG y.data.toList).2.2 = f at *
  clear hX hi hf hS4 hE4 hE5 hS5
  replace hrd := Lib.hid hrd
  replace hbk := Lib.hid hbk
  by_cases hf0 : f = 0
  · go_upto_region 10 with (go_at_call 7; (with_reducible refine Calls.mono hrd.out ?_); rintro e w6 ⟨p6, n6, c6, rfl, hl6, hn6, hS6, hsm6, hb6⟩)
    have htx := textVo_any B p6 n6 c6 X w6 hS6.1 hsm6 (by omega) (ht.ext (hb5.trans hb6))
    rw [hbk.out hf0] at htx
    dsimp only at htx
    have hyy : (⟨y.data.toList.toArray⟩ : ByteArray) = y := ba_eq (by simp)
    rw [hyy] at htx
    have hrdy := fun u (hu : Ext w u) => ready_any B u (ht.ext hu)
    replace htx := Lib.hid htx
    replace hrdy := Lib.hid hrdy
    clear hS6 hsm6
    go_wp2_with (first
      | (go_at_call 6; (with_reducible refine Calls.mono htx.out ?_); rintro e w7 ⟨rfl, hb7⟩; have hb7' := (hb5.trans hb6).trans hb7)
      | (go_at_call 10; (with_reducible refine Calls.mono (hrdy.out _ hb7') ?_); rintro e w8 ⟨rfl, hb8⟩))
    go_ret
    exact ⟨rfl, hb7'.trans hb8⟩
  · have hrdy := fun u (hu : Ext w u) => ready_any B u (ht.ext hu)
    replace hrdy := Lib.hid hrdy
    go_wp2_with (first
      | (go_at_call 7; (with_reducible refine Calls.mono hrd.out ?_); rintro e w6 ⟨p6, n6, c6, rfl, hl6, hn6, hS6, hsm6, hb6⟩; have hb6' := hb5.trans hb6)
      | (go_at_call 10; (with_reducible refine Calls.mono (hrdy.out _ hb6') ?_); rintro e w8 ⟨rfl, hb8⟩))
    go_ret
    exact ⟨rfl, hb6'.trans hb8⟩
end Go.Proofs.YtboplnogfjmpnaaGreatDoor
