/- A text of slips is read, by the document's text: Lines and SlipsRead. Conditions: sizes. -/
import Derived.Test.YtehboinleolihaaGreatDoorZkSkB
import Derived.Test.YtehboinleolihaaGreatDoorZkSlD
set_option linter.unusedSimpArgs false
set_option linter.unusedVariables false
namespace Go.Proofs.YtehboinleolihaaGreatDoor
open Go Go.RowKit
theorem readT_is (t : List UInt8) : readT t = readG lineF slipsF t := rfl
theorem takeS_bad {B : Nat} {t : List UInt8} {w0 u : World} {gC k : Nat} {x : ByteArray} (hP : TkS t w0 u gC k) (hx : (linesF t)[k]? = some x.data.toList) (hxs : x.size ≤ 200000) (hk : k ≤ 1000000) (hr : lineF x.data.toList = none) (hm : MaxL B w0) (ht : Tab B w0) :
 Calls Tryz.prog 161 #[.string x, .pointer (some ⟨gC, 0, none⟩)] u fun e w' => e = .returned (.bool false) ∧ Ext w0 w' :=
 (takeS_any hP hx hxs hk hm ht).mono fun e w' h => by
   rcases h with ⟨_, h1, h2⟩ | ⟨⟨y, h0⟩, _⟩
   ·exact ⟨h1, h2⟩
   ·rw [hr] at h0; cases h0
theorem takeS_good {B : Nat} {t : List UInt8} {w0 u : World} {gC k : Nat} {x : ByteArray} {y : SlipV} (hP : TkS t w0 u gC k) (hx : (linesF t)[k]? = some x.data.toList) (hxs : x.size ≤ 200000) (hk : k ≤ 1000000) (hr : lineF x.data.toList = some y) (hm : MaxL B w0) (ht : Tab B w0) :
 Calls Tryz.prog 161 #[.string x, .pointer (some ⟨gC, 0, none⟩)] u fun e w' => e = .returned (.bool true) ∧ TkS t w0 w' gC (k + 1) :=
 (takeS_any hP hx hxs hk hm ht).mono fun e w' h => by
   rcases h with ⟨h0, _⟩ | ⟨_, h1, h2⟩
   ·rw [hr] at h0; cases h0
   ·exact ⟨h1, h2⟩
/-- What Lines answers for slips. -/
def LinS (t : List UInt8) (w0 : World) (gC : Nat) (e : Ending) (w' : World) : Prop :=
 ((∀ i, i < (linesF t).length → badG lineF (linesF t) (endedF t) i = false) ∧ e = .returned (.tuple #[.int .i64 0, .bool true]) ∧ TkS t w0 w' gC (linesF t).length) ∨
 (∃ k : Nat, k < (linesF t).length ∧ (∀ i, i < k → badG lineF (linesF t) (endedF t) i = false) ∧ badG lineF (linesF t) (endedF t) k = true ∧ e = .returned (.tuple #[.int .i64 k, .bool false]) ∧ Ext w0 w')
def strZ : Value → Nat
 | .string s => s.size
 | _ => 0
set_option maxRecDepth 100000 in
set_option maxHeartbeats 6400000 in
theorem linesS_any (B : Nat) (s : ByteArray) (w0 w : World) (gC : Nat) (hs : s.size ≤ 200000) (hP : TkS s.data.toList w0 w gC 0) (hm : MaxL B w0) (ht : Tab B w0) :
 Calls Tryz.prog 160 #[.string s, .func (.func 161) #[] #[.pointer (some ⟨gC, 0, none⟩)]] w (LinS s.data.toList w0 gC) := by
 have hsl : s.data.toList.length = s.size := Array.length_toList
 have hLm := linesF_len s.data.toList
 obtain ⟨t, hT⟩ : ∃ t, t = s.data.toList := ⟨_, rfl⟩
 rw [← hT] at hP hLm ⊢
 have hst : LeftL t s.data.toList 0 := hT ▸ LeftL.start t
 rw [← hT] at hsl
 have hLb : (linesF t).length ≤ 200001 := by omega
 replace hT := Lib.hid hT; replace hst := Lib.hid hst; replace hP := Lib.hid hP
 go_enter Tryz.func160, Tryz.ntmps160
 go_wp2
 go_loopw [0,6] (fun v0 v6 wr => ∃ (k : Nat) (u : ByteArray), v0 = .string u ∧ v6 = .int .i64 k ∧ u.size ≤ 200000 ∧ LeftL t u.data.toList k ∧ (∀ i, i < k → badG lineF (linesF t) (endedF t) i = false) ∧ TkS t w0 wr gC k) (fun v0 _ _ => strZ v0)
 case atStart => exact ⟨0, s, rfl, rfl, hs, hst.out, (fun i hi => absurd hi (Nat.not_lt_zero _)), hP.out⟩
 case round =>
  clear hP hst hs
  obtain ⟨k, u, rfl, rfl, hus, hleft, hgood, hP⟩ := hrel
  have hul : u.data.toList.length = u.size := Array.length_toList
  have hmr : ∃ X : Unit, Ext w0 wr := by obtain ⟨X, v, -, -, -, -, -, he, -⟩ := hP; exact ⟨(), he⟩
  obtain ⟨-, he⟩ := hmr
  by_cases hu0 : u = ⟨#[]⟩
  ·subst hu0
   have hk := LeftL.done hleft
   have hres : LinS t w0 gC (.returned (.tuple #[.int .i64 0, .bool true])) wr := .inl ⟨hk ▸ hgood, rfl, hk ▸ hP⟩
   replace hres := Lib.hid hres; clear hP hgood hk hleft
   go_wp2
   go_ret2
   exact hres.out
  obtain ⟨g1, g2⟩ := ba_empty hu0
  have hcut := cut_call (u := u) (by omega) (hm.ext he)
  have hne : u.data.toList ≠ [] := fun e => hu0 (ba_eq e)
  by_cases h10 : (10 : UInt8) ∈ u.data.toList
  rotate_left
  ·obtain ⟨hk, hb⟩ := LeftL.last hleft hne h10
   rw [cut_miss h10] at hcut
   dsimp only at hcut
   have hres : ∀ w', Ext wr w' → LinS t w0 gC (.returned (.tuple #[.int .i64 k, .bool false])) w' := fun w' h => .inr ⟨k, hk, hgood, hb lineF, rfl, he.trans h⟩
   replace hres := Lib.hid hres; replace hcut := Lib.hid hcut; clear hP hgood hk hleft hb
   go_wp2_with (go_at_call 222; (with_reducible refine Calls.mono hcut.out ?_); rintro e w1 ⟨rfl, hb1⟩)
   go_ret2
   exact hres.out _ hb1
  obtain ⟨x, y, hxy, hx⟩ := first_at h10
  rw [hxy] at hleft hcut hul
  rw [cut_hit hx] at hcut
  dsimp only at hcut
  obtain ⟨hk, hleft2, hb⟩ := LeftL.line hleft hx
  have hkl : k < (linesF t).length := (List.getElem?_eq_some_iff.1 hk).1
  have hbk := hb lineF
  simp only [List.length_append, List.length_cons] at hul
  have hxs : (⟨x.toArray⟩ : ByteArray).size ≤ 200000 := by show x.toArray.size ≤ _; simp; omega
  have hys : (⟨y.toArray⟩ : ByteArray).size < u.size := by show y.toArray.size < _; simp; omega
  have hyl : LeftL t (⟨y.toArray⟩ : ByteArray).data.toList (k + 1) := hleft2
  have hxk : (linesF t)[k]? = some (⟨x.toArray⟩ : ByteArray).data.toList := hk
  have hrx : ∀ {o}, lineF x = o → lineF (⟨x.toArray⟩ : ByteArray).data.toList = o := fun h => h
  have hkb : k ≤ 1000000 := by omega
  replace hcut := Lib.hid hcut; replace hyl := Lib.hid hyl
  cases hr : lineF x with
  | none =>
    have htk := fun v (hv : Ext wr v) => takeS_bad (hP.ext hv) hxk hxs hkb (hrx hr) hm ht
    have hres : ∀ w', Ext w0 w' → LinS t w0 gC (.returned (.tuple #[.int .i64 k, .bool false])) w' := fun w' h => .inr ⟨k, hkl, hgood, by rw [hbk, hr]; rfl, rfl, h⟩
    generalize (⟨x.toArray⟩ : ByteArray) = xb at *
    generalize (⟨y.toArray⟩ : ByteArray) = yb at *
    replace hres := Lib.hid hres; replace htk := Lib.hid htk; clear hP hgood hleft hleft2 hb hbk hr hrx hk hxk hxy hx
    go_wp2_with (first
     | (go_at_call 222; (with_reducible refine Calls.mono hcut.out ?_); rintro e w1 ⟨rfl, hb1⟩)
     | (go_at_call 161; (with_reducible refine Calls.mono (htk.out _ hb1) ?_); rintro e w2 ⟨rfl, hb2⟩))
    go_ret2
    exact hres.out _ hb2
  | some q =>
    have htk := fun v (hv : Ext wr v) => takeS_good (hP.ext hv) hxk hxs hkb (hrx hr) hm ht
    have hg2 : ∀ i, i < k + 1 → badG lineF (linesF t) (endedF t) i = false := fun i hi => by
     rcases Nat.lt_succ_iff_lt_or_eq.1 hi with h | rfl
     ·exact hgood i h
     ·rw [hbk, hr]; rfl
    generalize (⟨x.toArray⟩ : ByteArray) = xb at *
    generalize (⟨y.toArray⟩ : ByteArray) = yb at *
    replace hg2 := Lib.hid hg2; replace htk := Lib.hid htk; clear hP hgood hleft hleft2 hb hbk hr hrx hk hxk hxy hx
    go_wp2_with (first
     | (go_at_call 222; (with_reducible refine Calls.mono hcut.out ?_); rintro e w1 ⟨rfl, hb1⟩)
     | (go_at_call 161; (with_reducible refine Calls.mono (htk.out _ hb1) ?_); rintro e w2 ⟨rfl, hP2⟩))
    go_roundw
    case rel => exact ⟨k + 1, yb, rfl, by go_num, by omega, hyl.out, hg2.out, hP2⟩
    case measure => simp [strZ]; omega
set_option maxRecDepth 100000 in
set_option maxHeartbeats 3200000 in
theorem slipsRead_any (B : Nat) (s : ByteArray) (w : World) (hs : s.size ≤ 1000000) (hm : MaxL B w) (ht : Tab B w) :
 Calls Tryz.prog 79 #[.string s] w (ReadR s.data.toList w) := by
 have hsl : s.data.toList.length = s.size := Array.length_toList
 by_cases hbig : 200000 < s.size
 ·have hres := readR_none (t := s.data.toList) (i := 0) (f := 2) (by unfold readT; rw [if_pos (by omega)]) (Ext.refl w)
  replace hres := Lib.hid hres; clear hsl hm
  go_enter Tryz.func79, Tryz.ntmps79
  go_wp2
  go_ret3
  exact hres.out
 have hP0 : TkS s.data.toList w (w.alloc (.cells #[.slice none 0 0] 31)) w.heap.size 0 :=
  ⟨[], .slice none 0 0, by simp, rfl, (fun x hx => by cases hx), Blk.new' rfl, World.ownsRow_nil _ _ _ _, (Ext.refl _).alloc _, Nat.le_refl _⟩
 have hln := linesS_any B s w _ w.heap.size (by omega) hP0 hm ht
 have hLm := linesF_len s.data.toList
 have hlb : ¬ 200000 < s.data.toList.length := by omega
 replace hln := Lib.hid hln; clear hP0
 go_enter Tryz.func79, Tryz.ntmps79
 go_upto_region 5 with (go_at_call 160; (with_reducible refine Calls.mono hln.out ?_); rintro e w1 hL; rcases hL with ⟨hall, rfl, hP⟩ | ⟨k, hk, hz, hb, rfl, he⟩)
 ·obtain ⟨X, v, hX, hXl, hXw, hC, hown, he, hg⟩ := hP
  rw [List.take_length] at hX
  have hR := readG_fault (flt := slipsF) hlb hall
  rw [← hX, ← readT_is] at hR
  obtain ⟨q, c, rfl, hS⟩ := slc_of_own slipC_len hown (by decide) (by omega)
  have hvf := slipsFault_any q _ c X w1 hS.1 hXw (by omega)
  obtain ⟨pC, qC⟩ := hC.walk
  have lC := hC.lt
  generalize hN : (linesF s.data.toList).length = N at *
  by_cases hq : slipsF X = 0
  ·rw [if_pos hq] at hR
   rw [hq] at hvf
   have hres : ∀ w', Ext w1 w' → ReadR s.data.toList w (.returned (.tuple #[.slice q N c, .int .i64 0, .int .i64 0])) w' := fun w' h => by
    unfold ReadR
    rw [hR]
    exact ⟨q, N, c, rfl, hXl, by omega, own_low (own_ext h hown) (by omega), hXw, he.trans h⟩
   have hCx := fun w' (h : Ext w1 w') => hC.ext h
   replace hCx := Lib.hid hCx; replace hres := Lib.hid hres; replace hvf := Lib.hid hvf; replace hR := Lib.hid hR; replace hown := Lib.hid hown; replace hX := Lib.hid hX; replace hXl := Lib.hid hXl; replace hq := Lib.hid hq; clear hS hC
   go_wp2_with (go_at_call 68; (with_reducible refine Calls.mono hvf.out ?_); rintro e w2 ⟨rfl, hb2⟩; clear pC qC; obtain ⟨pC, qC⟩ := (hCx.out _ hb2).walk; have lC2 := (hCx.out _ hb2).lt)
   go_ret3
   exact hres.out _ hb2
  ·rw [if_neg hq] at hR
   have hres := fun w' (h : Ext w1 w') => readR_none hR (he.trans h)
   generalize slipsF X = f at *
   replace hres := Lib.hid hres; replace hvf := Lib.hid hvf; replace hR := Lib.hid hR; replace hown := Lib.hid hown; replace hX := Lib.hid hX; replace hXl := Lib.hid hXl; clear hS
   go_wp2_with (go_at_call 68; (with_reducible refine Calls.mono hvf.out ?_); rintro e w2 ⟨rfl, hb2⟩)
   go_ret3
   exact hres.out _ hb2
 ·have hres := readR_none (readG_bad (flt := slipsF) hlb hk hz hb) he
  replace hres := Lib.hid hres; clear hz hb hk
  go_wp2
  go_ret3
  exact hres.out
end Go.Proofs.YtehboinleolihaaGreatDoor
