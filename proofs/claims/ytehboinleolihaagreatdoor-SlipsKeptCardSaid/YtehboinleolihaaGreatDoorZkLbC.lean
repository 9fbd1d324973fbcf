/- A title by its piece; whether there is a copy; how a copy is. Conditions: sizes. -/
import Derived.Test.YtehboinleolihaaGreatDoorZkLbB
import Derived.Test.YtehboinleolihaaGreatDoorZkJ28
import Derived.Test.YtehboinleolihaaGreatDoorZkSlH
set_option linter.unusedSimpArgs false
set_option linter.unusedVariables false
namespace Go.Proofs.YtehboinleolihaaGreatDoor
open Go Go.RowKit Go.Maps
def titleVal (x : TitleV) : Value := .agg #[.string x.piece, .int .i64 x.owned, .int .i64 x.cost]
theorem titleOf_some {T : List TitleV} (h : TitlesOk T) {k : Nat} {x : TitleV} (hx : T[k]? = some x) : titleOf T x.piece = some x := by
 unfold titleOf
 obtain ⟨hi, he⟩ := List.getElem?_eq_some_iff.1 hx
 refine List.find?_eq_some_iff_getElem.2 ⟨by simp, k, hi, he, fun j hj => ?_⟩
 have := h.less (List.getElem?_eq_getElem (show j < T.length by omega)) hx hj
 simp only [Bool.not_eq_true', decide_eq_false_iff_not]
 intro e2
 rw [e2, cmpS_refl] at this
 cases this
theorem titleOf_none {T : List TitleV} {p : ByteArray} (h : ∀ x ∈ T, x.piece ≠ p) : titleOf T p = none := by
 unfold titleOf
 exact List.find?_eq_none.2 fun t ht => by simpa using h t ht
def set3 (w : World) (g : Nat) (x : TitleV) : World := ((w.setCell ⟨g, 0, none⟩ (.string x.piece)).setCell ⟨g, 1, none⟩ (.int .i64 x.owned)).setCell ⟨g, 2, none⟩ (.int .i64 x.cost)
theorem set3_ext {a w : World} (h : Ext a w) {g : Nat} (hg : a.heap.size ≤ g) (x : TitleV) : Ext a (set3 w g x) := by
 unfold set3
 exact ((h.setCell (p := ⟨g, 0, none⟩) hg _).setCell (p := ⟨g, 1, none⟩) hg _).setCell (p := ⟨g, 2, none⟩) hg _
theorem title_end {R : Ending → World → Prop} {a : Act} {W : World} {g : Nat} (x : TitleV) {ok : Bool} (hB : Blk W g 105 #[.string ⟨#[]⟩, .int .i64 0, .int .i64 0]) (h4 : a.tmps.getD 4 undef = .pointer (some ⟨g, 0, none⟩)) (h5 : a.tmps.getD 5 undef = .bool ok) (hd : a.defers = [])
 (hR : R (.returned (.tuple #[titleVal x, .bool ok])) (set3 W g x)) : bodyPost Tryz.prog Tryz.f132 R .ret a (set3 W g x) := by
 have hb : Blk (set3 W g x) g 105 #[.string x.piece, .int .i64 x.owned, .int .i64 x.cost] := by
  unfold set3
  exact ((hB.set_ 0 _).set_ 1 _).set_ 2 _
 exact bodyPost_ret (results_rowT Tryz.results132 _ _ g 105 _ (0,0) _ h4 hb Tryz.underlying105 rfl (by kernel_rfl) _ h5) hd hR
set_option maxRecDepth 100000 in
set_option maxHeartbeats 1600000 in
theorem title_any (bb : Nat) (cs : Array Value) (tp : Option Addr) (tn tc : Nat) (T : List TitleV) (p : ByteArray) (w : World) (hB : Blk w bb 145 cs) (h0 : cs[0]? = some (.slice tp tn tc)) (hT : Slc 3 titleC w tp tn tc T) (hok : TitlesOk T) :
 Calls Tryz.prog 132 #[.pointer (some ⟨bb, 0, none⟩), .string p] w fun e w' => e = .returned (.tuple #[titleVal ((titleOf T p).getD ⟨⟨#[]⟩, 0,0⟩), .bool (titleOf T p).isSome]) ∧ Ext w w' := by
 have lb := hB.lt
 have hB1 : Blk (w.alloc (.cells #[.string ⟨#[]⟩, .int .i64 0, .int .i64 0] 105)) bb 145 cs := hB.alloc _
 have c0 := (hB1.cell 0).trans h0
 have f0 := hB1.frozen 0
 have lb1 := hB1.lt
 have hT1 : Slc 3 titleC (w.alloc (.cells #[.string ⟨#[]⟩, .int .i64 0, .int .i64 0] 105)) tp tn tc T := hT.ext ((Ext.refl _).alloc _)
 have hs := tiSearch_any tp tn tc T p (w.alloc (.cells #[.string ⟨#[]⟩, .int .i64 0, .int .i64 0] 105)) hT1 hok
 have hTl := hT.1.1
 have hk0 := hB1
 replace hs := Lib.hid hs; replace hk0 := Lib.hid hk0; replace hok := Lib.hid hok
 have hN := Lib.hid (Blk.new' (w := w) (g := w.heap.size) (t := 105) (cs := #[.string ⟨#[]⟩, .int .i64 0, .int .i64 0]) rfl)
 obtain ⟨r, hr⟩ : ∃ r, r = titleOf T p := ⟨_, rfl⟩
 rw [← hr]
 replace hr := Lib.hid hr; clear hB hB1 hT
 go_enter Tryz.func132, Tryz.ntmps132
 go_upto_if 18 with (go_at_call 211; (with_reducible refine Calls.mono hs.out ?_); rintro e w1 ⟨k, is, rfl, hb1, h1, h2⟩; replace h1 := Lib.hid h1; replace h2 := Lib.hid h2)
 cases is
 ·have e9 := titleOf_none (h2.out rfl)
  have hN1 := hN.out.ext hb1
  clear c0 f0 lb1
  obtain ⟨n0, n1⟩ := hN1.walk
  have lN := hN1.lt
  replace hN1 := Lib.hid hN1
  go_wp2
  refine title_end ⟨⟨#[]⟩, 0,0⟩ (W := w1) (g := w.heap.size) (ok := false) ?_ ?_ ?_ ?_ ?_
  ·exact hN1.out
  ·rfl
  ·rfl
  ·rfl
  ·exact ⟨by rw [hr.out, e9]; rfl, set3_ext (((Ext.refl w).alloc _).trans hb1) (Nat.le_refl _) _⟩
 ·obtain ⟨x, hx, hxp⟩ := h1.out rfl
  have e9 := titleOf_some hok.out hx
  rw [hxp] at e9
  clear hxp
  obtain ⟨d0, d1⟩ := (hk0.out.ext hb1).walk
  have c1 := (d0 0).trans h0
  have f1 := d1 0
  have l1 := (hk0.out.ext hb1).lt
  obtain ⟨b, off, rfl, hb, hE⟩ := hT1.1.2.2 (by have := (List.getElem?_eq_some_iff.1 hx).1; omega)
  obtain ⟨y0, y1, y2⟩ := (hE.ext hb1 hb).title hx
  have hbw := Nat.lt_of_lt_of_le hb hb1.size
  have hkI : (k : Int) < tn := by have := (List.getElem?_eq_some_iff.1 hx).1; omega
  replace hx := Lib.hid hx; clear c0 f0 lb1 d0 d1 hE hT1
  have hN1 := hN.out.ext hb1
  obtain ⟨n0, n1⟩ := hN1.walk
  have lN := hN1.lt
  replace hN1 := Lib.hid hN1
  go_wp2
  refine title_end x (W := w1) (g := w.heap.size) (ok := true) ?_ ?_ ?_ ?_ ?_
  ·exact hN1.out
  ·rfl
  ·rfl
  ·rfl
  ·exact ⟨by rw [hr.out, e9]; rfl, set3_ext (((Ext.refl w).alloc _).trans hb1) (Nat.le_refl _) _⟩
set_option maxRecDepth 100000 in
set_option maxHeartbeats 1600000 in
theorem isCopy_any (bb : Nat) (cs : Array Value) (tp : Option Addr) (tn tc : Nat) (T : List TitleV) (p : ByteArray) (no : Int) (w : World) (hB : Blk w bb 145 cs) (h0 : cs[0]? = some (.slice tp tn tc)) (hT : Slc 3 titleC w tp tn tc T) (hok : TitlesOk T) :
 Calls Tryz.prog 175 #[.pointer (some ⟨bb, 0, none⟩), .string p, .int .i64 no] w fun e w' => e = .returned (.bool (isCopyT T (p, no))) ∧ Ext w w' := by
 have ht := title_any bb cs tp tn tc T p w hB h0 hT hok
 have hr : isCopyT T (p, no) = match titleOf T p with | some t => !outB no 1 t.owned | none => false := rfl
 cases h9 : titleOf T p with
 | none =>
   rw [h9] at ht hr
   have hr2 : isCopyT T (p, no) = false := hr
   rw [hr2]
   replace ht := Lib.hid ht; clear hr2 hr h9 hB h0 hT hok
   go_enter Tryz.func175, Tryz.ntmps175
   go_wp2_with (go_at_call 132; (with_reducible refine Calls.mono ht.out ?_); rintro e w1 ⟨rfl, hb1⟩; unfold titleVal)
   go_ret
   exact ⟨rfl, hb1.alloc _⟩
 | some t =>
   rw [h9] at ht hr
   have hr2 : isCopyT T (p, no) = !outB no 1 t.owned := hr
   rw [hr2]
   clear hr2
   have ho := fun u => sOut_is (rfl : outB no 1 t.owned = outB no 1 t.owned) u
   generalize outB no 1 t.owned = v at *
   replace ht := Lib.hid ht; replace ho := Lib.hid ho; clear hr h9 hB h0 hT hok
   go_enter Tryz.func175, Tryz.ntmps175
   go_wp2_with (first
    | (go_at_call 132; (with_reducible refine Calls.mono ht.out ?_); rintro e w1 ⟨rfl, hb1⟩; unfold titleVal)
    | (go_at_call 146; (with_reducible refine Calls.mono (ho.out _) ?_); rintro e w4 ⟨rfl, rfl⟩))
   go_ret
   exact ⟨rfl, hb1.alloc _⟩
end Go.Proofs.YtehboinleolihaaGreatDoor
