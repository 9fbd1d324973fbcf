/- A title by its piece; whether there is a copy; how a copy is. Conditions: sizes. A library of copies in memory; how a copy is. Conditions: as each theorem says. Copies that are out, their loans and their singers: plain. Conditions: as each theorem says. -/
import Derived.Test.YtkjhbofbcmelgaaGreatDoorEzLbB
import Derived.Test.YtkjhbofbcmelgaaGreatDoorEzJ17
import Derived.Test.YtkjhbofbcmelgaaGreatDoorEzJ14
import Derived.Test.YtkjhbofbcmelgaaGreatDoorEzJ7
import Derived.Test.YtkjhbofbcmelgaaGreatDoorEzJ15
set_option linter.unusedSimpArgs false
set_option linter.unusedVariables false
namespace Go.Proofs.YtkjhbofbcmelgaaGreatDoor
open Go Go.RowKit Go.Maps
def titleVal (x : TitleV) : Value := .agg #[.string x.piece, .int .i64 x.owned, .int .i64 x.cost]
theorem titleOf_some {T : List TitleV} (h : TitlesOk T) {k : Nat} {x : TitleV} (hx : T[k]? = some x) : titleOf T x.piece = some x := by
 unfold titleOf
 obtain ⟨hi, he⟩ := List.getElem?_eq_some_iff.1 hx
 refine List.find?_eq_some_iff_getElem.2 ⟨by simp, k, hi, he, fun j hj => ?_⟩
 have := h.less (List.getElem?_eq_getElem (show j < T.length by omega)) hx hj
 simp only [Bool.not_eq_true', decide_eq_false_iff_not]
 intro e2
 rw [e2, cmpS_refl] at this
 cases this
theorem titleOf_none {T : List TitleV} {p : ByteArray} (h : ∀ x ∈ T, x.piece ≠ p) : titleOf T p = none := by
 unfold titleOf
 exact List.find?_eq_none.2 fun t ht => by simpa using h t ht
def set3 (w : World) (g : Nat) (x : TitleV) : World := ((w.setCell ⟨g, 0, none⟩ (.string x.piece)).setCell ⟨g, 1, none⟩ (.int .i64 x.owned)).setCell ⟨g, 2, none⟩ (.int .i64 x.cost)
theorem set3_ext {a w : World} (h : Ext a w) {g : Nat} (hg : a.heap.size ≤ g) (x : TitleV) : Ext a (set3 w g x) := by
 unfold set3
 exact ((h.setCell (p := ⟨g, 0, none⟩) hg _).setCell (p := ⟨g, 1, none⟩) hg _).setCell (p := ⟨g, 2, none⟩) hg _
theorem title_end {R : Ending → World → Prop} {a : Act} {W : World} {g : Nat} (x : TitleV) {ok : Bool} (hB : Blk W g 97 #[.string ⟨#[]⟩, .int .i64 0, .int .i64 0]) (h4 : a.tmps.getD 4 undef = .pointer (some ⟨g, 0, none⟩)) (h5 : a.tmps.getD 5 undef = .bool ok) (hd : a.defers = [])
 (hR : R (.returned (.tuple #[titleVal x, .bool ok])) (set3 W g x)) : bodyPost Tryz.prog Tryz.f106 R .ret a (set3 W g x) := by
 have hb : Blk (set3 W g x) g 97 #[.string x.piece, .int .i64 x.owned, .int .i64 x.cost] := by
  unfold set3
  exact ((hB.set_ 0 _).set_ 1 _).set_ 2 _
 exact bodyPost_ret (results_rowT Tryz.results106 _ _ g 97 _ (0,0) _ h4 hb Tryz.underlying97 rfl (by kernel_rfl) _ h5) hd hR
set_option maxRecDepth 100000 in
set_option maxHeartbeats 1600000 in
theorem title_any (bb : Nat) (cs : Array Value) (tp : Option Addr) (tn tc : Nat) (T : List TitleV) (p : ByteArray) (w : World) (hB : Blk w bb 130 cs) (h0 : cs[0]? = some (.slice tp tn tc)) (hT : Slc 3 titleC w tp tn tc T) (hok : TitlesOk T) :
 Calls Tryz.prog 106 #[.pointer (some ⟨bb, 0, none⟩), .string p] w fun e w' => e = .returned (.tuple #[titleVal ((titleOf T p).getD ⟨⟨#[]⟩, 0,0⟩), .bool (titleOf T p).isSome]) ∧ Ext w w' := by
 have lb := hB.lt
 have hB1 : Blk (w.alloc (.cells #[.string ⟨#[]⟩, .int .i64 0, .int .i64 0] 97)) bb 130 cs := hB.alloc _
 have c0 := (hB1.cell 0).trans h0
 have f0 := hB1.frozen 0
 have lb1 := hB1.lt
 have hT1 : Slc 3 titleC (w.alloc (.cells #[.string ⟨#[]⟩, .int .i64 0, .int .i64 0] 97)) tp tn tc T := hT.ext ((Ext.refl _).alloc _)
 have hs := tiSearch_any tp tn tc T p (w.alloc (.cells #[.string ⟨#[]⟩, .int .i64 0, .int .i64 0] 97)) hT1 hok
 have hTl := hT.1.1
 have hk0 := hB1
 replace hs := Lib.hid hs; replace hk0 := Lib.hid hk0; replace hok := Lib.hid hok
 have hN := Lib.hid (Blk.new' (w := w) (g := w.heap.size) (t := 97) (cs := #[.string ⟨#[]⟩, .int .i64 0, .int .i64 0]) rfl)
 obtain ⟨r, hr⟩ : ∃ r, r = titleOf T p := ⟨_, rfl⟩
 rw [← hr]
 replace hr := Lib.hid hr; clear hB hB1 hT
 go_enter Tryz.func106, Tryz.ntmps106
 go_upto_if 18 with (go_at_call 160; (with_reducible refine Calls.mono hs.out ?_); rintro e w1 ⟨k, is, rfl, hb1, h1, h2⟩; replace h1 := Lib.hid h1; replace h2 := Lib.hid h2)
 cases is
 ·have e9 := titleOf_none (h2.out rfl)
  have hN1 := hN.out.ext hb1
  clear c0 f0 lb1
  obtain ⟨n0, n1⟩ := hN1.walk
  have lN := hN1.lt
  replace hN1 := Lib.hid hN1
  go_wp2
  refine title_end ⟨⟨#[]⟩, 0,0⟩ (W := w1) (g := w.heap.size) (ok := false) ?_ ?_ ?_ ?_ ?_
  ·exact hN1.out
  ·rfl
  ·rfl
  ·rfl
  ·exact ⟨by rw [hr.out, e9]; rfl, set3_ext (((Ext.refl w).alloc _).trans hb1) (Nat.le_refl _) _⟩
 ·obtain ⟨x, hx, hxp⟩ := h1.out rfl
  have e9 := titleOf_some hok.out hx
  rw [hxp] at e9
  clear hxp
  obtain ⟨d0, d1⟩ := (hk0.out.ext hb1).walk
  have c1 := (d0 0).trans h0
  have f1 := d1 0
  have l1 := (hk0.out.ext hb1).lt
  obtain ⟨b, off, rfl, hb, hE⟩ := hT1.1.2.2 (by have := (List.getElem?_eq_some_iff.1 hx).1; omega)
  obtain ⟨y0, y1, y2⟩ := (hE.ext hb1 hb).title hx
  have hbw := Nat.lt_of_lt_of_le hb hb1.size
  have hkI : (k : Int) < tn := by have := (List.getElem?_eq_some_iff.1 hx).1; omega
  replace hx := Lib.hid hx; clear c0 f0 lb1 d0 d1 hE hT1
  have hN1 := hN.out.ext hb1
  obtain ⟨n0, n1⟩ := hN1.walk
  have lN := hN1.lt
  replace hN1 := Lib.hid hN1
  go_wp2
  refine title_end x (W := w1) (g := w.heap.size) (ok := true) ?_ ?_ ?_ ?_ ?_
  ·exact hN1.out
  ·rfl
  ·rfl
  ·rfl
  ·exact ⟨by rw [hr.out, e9]; rfl, set3_ext (((Ext.refl w).alloc _).trans hb1) (Nat.le_refl _) _⟩
set_option maxRecDepth 100000 in
set_option maxHeartbeats 1600000 in
theorem isCopy_any (bb : Nat) (cs : Array Value) (tp : Option Addr) (tn tc : Nat) (T : List TitleV) (p : ByteArray) (no : Int) (w : World) (hB : Blk w bb 130 cs) (h0 : cs[0]? = some (.slice tp tn tc)) (hT : Slc 3 titleC w tp tn tc T) (hok : TitlesOk T) :
 Calls Tryz.prog 127 #[.pointer (some ⟨bb, 0, none⟩), .string p, .int .i64 no] w fun e w' => e = .returned (.bool (isCopyT T (p, no))) ∧ Ext w w' := by
 have ht := title_any bb cs tp tn tc T p w hB h0 hT hok
 have hr : isCopyT T (p, no) = match titleOf T p with | some t => !outB no 1 t.owned | none => false := rfl
 cases h9 : titleOf T p with
 | none =>
   rw [h9] at ht hr
   have hr2 : isCopyT T (p, no) = false := hr
   rw [hr2]
   replace ht := Lib.hid ht; clear hr2 hr h9 hB h0 hT hok
   go_enter Tryz.func127, Tryz.ntmps127
   go_wp2_with (go_at_call 106; (with_reducible refine Calls.mono ht.out ?_); rintro e w1 ⟨rfl, hb1⟩; unfold titleVal)
   go_ret
   exact ⟨rfl, hb1.alloc _⟩
 | some t =>
   rw [h9] at ht hr
   have hr2 : isCopyT T (p, no) = !outB no 1 t.owned := hr
   rw [hr2]
   clear hr2
   have ho := fun u => sOut_is (rfl : outB no 1 t.owned = outB no 1 t.owned) u
   generalize outB no 1 t.owned = v at *
   replace ht := Lib.hid ht; replace ho := Lib.hid ho; clear hr h9 hB h0 hT hok
   go_enter Tryz.func127, Tryz.ntmps127
   go_wp2_with (first
    | (go_at_call 106; (with_reducible refine Calls.mono ht.out ?_); rintro e w1 ⟨rfl, hb1⟩; unfold titleVal)
    | (go_at_call 159; (with_reducible refine Calls.mono (ho.out _) ?_); rintro e w4 ⟨rfl, rfl⟩))
   go_ret
   exact ⟨rfl, hb1.alloc _⟩
end Go.Proofs.YtkjhbofbcmelgaaGreatDoor
namespace Go.Proofs.YtkjhbofbcmelgaaGreatDoor
open Go Go.RowKit Go.Maps
def libC (tp : Option Addr) (tn tc : Nat) (r : LendR) (ms ml mh : Nat) (lv : Value) : Array Value :=
 #[.slice tp tn tc, .int .i64 r.days, .int .i64 r.late, .int .i64 r.most, .int .i64 r.each, .map (some ms), .map (some ml), lv, .map (some mh)]
/-- A library in memory: its loans and what singers have are younger than base. -/
structure LibM (base : Nat) (w : World) (bb ms ml mh q : Nat) (tp : Option Addr) (tn tc : Nat) (r : LendR) (L : LibS) : Prop where
 row : ∃ lv, Blk w bb 130 (libC tp tn tc r ms ml mh lv) ∧ w.ownsRow base 132 6 lv L.loans.length (L.loans.flatMap loanC)
 maps : MapsM base w ms ml mh q L
/-- All stands but the library's four blocks, and what is younger than base. -/
structure KeepL (base bb ms ml mh : Nat) (a w : World) : Prop where
 os : w.os = a.os
 tape : w.tape = a.tape
 output : w.output = a.output
 size : a.heap.size ≤ w.heap.size
 block : ∀ k, k < a.heap.size → k < base → k ≠ bb → k ≠ ms → k ≠ ml → k ≠ mh → w.heap[k]? = a.heap[k]?
section
variable {base bb ms ml mh : Nat} {a w w' : World}
theorem KeepL.refl (a : World) : KeepL base bb ms ml mh a a := ⟨rfl, rfl, rfl, Nat.le_refl _, fun _ _ _ _ _ _ _ => rfl⟩
theorem KeepL.ext (h : KeepL base bb ms ml mh a w) (he : Ext w w') : KeepL base bb ms ml mh a w' :=
 ⟨he.os.trans h.os, he.tape.trans h.tape, he.output.trans h.output, Nat.le_trans h.size he.size, fun k hk h1 h2 h3 h4 h5 => (he.block k (Nat.lt_of_lt_of_le hk h.size)).trans (h.block k hk h1 h2 h3 h4 h5)⟩
theorem KeepL.grown (h : KeepL base bb ms ml mh a w) {m : Nat} (hg : w.grownBy w' (some m)) (hm : m = bb ∨ m = ms ∨ m = ml ∨ m = mh ∨ base ≤ m) : KeepL base bb ms ml mh a w' :=
 ⟨hg.os.trans h.os, hg.tape.trans h.tape, hg.output.trans h.output, Nat.le_trans h.size hg.size, fun k hk h1 h2 h3 h4 h5 => (hg.block k (Nat.lt_of_lt_of_le hk h.size) fun e => by cases e; omega).trans (h.block k hk h1 h2 h3 h4 h5)⟩
theorem KeepL.trans {u : World} (h : KeepL base bb ms ml mh a w) (h' : KeepL base bb ms ml mh w u) : KeepL base bb ms ml mh a u :=
 ⟨h'.os.trans h.os, h'.tape.trans h.tape, h'.output.trans h.output, Nat.le_trans h.size h'.size, fun k hk h1 h2 h3 h4 h5 => (h'.block k (Nat.lt_of_lt_of_le hk h.size) h1 h2 h3 h4 h5).trans (h.block k hk h1 h2 h3 h4 h5)⟩
theorem KeepL.app (h : KeepL base bb ms ml mh a w) {e : TypeId} {k n : Nat} {v : Value} {xs : List Value} (ho : w.ownsRow base e k v n xs) (hg : w.grownBy w' v.ownBlock) : KeepL base bb ms ml mh a w' := by
 cases hv : v.ownBlock with
 | none =>
   rw [hv] at hg
   exact ⟨hg.os.trans h.os, hg.tape.trans h.tape, hg.output.trans h.output, Nat.le_trans h.size hg.size, fun k hk h1 h2 h3 h4 h5 => (hg.block k (Nat.lt_of_lt_of_le hk h.size) (by simp)).trans (h.block k hk h1 h2 h3 h4 h5)⟩
 | some g =>
   rw [hv] at hg
   exact h.grown hg (.inr (.inr (.inr (.inr (ho.lt g hv).1))))
theorem KeepL.set (h : KeepL base bb ms ml mh a w) (o : Nat) (v : Value) : KeepL base bb ms ml mh a (w.setCell ⟨bb, o, none⟩ v) := h.grown (grown_set w ⟨bb, o, none⟩ v) (.inl rfl)
end
section
variable {base : Nat} {w w' : World} {bb ms ml mh q : Nat} {tp : Option Addr} {tn tc : Nat} {r : LendR} {L : LibS}
theorem LibM.ext (h : LibM base w bb ms ml mh q tp tn tc r L) (he : Ext w w') : LibM base w' bb ms ml mh q tp tn tc r L := by
 obtain ⟨⟨lv, hb, ho⟩, hm⟩ := h
 exact ⟨⟨lv, hb.ext he, own_ext he ho⟩, hm.ext he⟩
theorem LibM.le (h : LibM base w bb ms ml mh q tp tn tc r L) {q' : Nat} (hq : q ≤ q') : LibM base w' bb ms ml mh q' tp tn tc r L → LibM base w' bb ms ml mh q' tp tn tc r L := id
theorem LibM.lt (h : LibM base w bb ms ml mh q tp tn tc r L) : bb < w.heap.size := by
 obtain ⟨⟨lv, hb, ho⟩, hm⟩ := h
 exact hb.lt
end
set_option maxRecDepth 100000 in
set_option maxHeartbeats 1600000 in
theorem state_any {base : Nat} {w : World} {bb ms ml mh q : Nat} {tp : Option Addr} {tn tc : Nat} {r : LendR} {L : LibS} (h : LibM base w bb ms ml mh q tp tn tc r L) (p : ByteArray) (no : Int) (hk : okSN (p, no)) :
 Calls Tryz.prog 66 #[.pointer (some ⟨bb, 0, none⟩), .agg #[.string p, .int .i64 no]] w fun e w' => e = .returned (.string (L.at_ (p, no))) ∧ Ext w w' := by
 obtain ⟨lv, hB, -⟩ := (h.ext ((Ext.refl w).alloc (.cells #[.string p, .int .i64 no] 120))).row
 have hS := (h.ext ((Ext.refl w).alloc (.cells #[.string p, .int .i64 no] 120))).maps.st
 have hX := Blk.new' (w := w) (g := w.heap.size) (t := 120) (cs := #[.string p, .int .i64 no]) rfl
 have lb := hB.lt
 have lx := hX.lt
 have c5 := hB.cell 5
 have e0 := hX.cell 0
 have e1 := hX.cell 1
 have hlk : ∀ u, Ext (w.alloc (.cells #[.string p, .int .i64 no] 120)) u → (Instr.lookup 125 (.map (some ms)) (.agg #[.string p, .int .i64 no]) true).run Tryz.prog u = .ok (.tuple #[.string ((L.st (p, no)).getD ⟨#[]⟩), .bool (L.st (p, no)).isSome]) u := fun u hu => (hS.ext hu).look_ok hk
 have ha : L.at_ (p, no) = (L.st (p, no)).getD inW := rfl
 rw [ha]
 clear ha hS h
 generalize L.st (p, no) = sv at *
 replace hlk := Lib.hid hlk; replace hB := Lib.hid hB; replace hX := Lib.hid hX
 unfold libC at c5
 go_enter Tryz.func66, Tryz.ntmps66
 go_upto_region 1 with fail
 cases sv
 all_goals
  refine wp_region_facts [] [([],false,false),([0],false,false),([0,1],false,false),([0,1,2],false,false),([],false,false),([0,1,2,3,4],false,false),([0,1,2,3,4,5],false,false),([0,1,2,3,4,5,6],false,false),([0,1,2,3,4,5,6],false,false),([0,1,2,3,4,5,6,7],false,false),([0,1,2,3,4,5,6,8],false,false)] (Ext) Ext (fun _ => True) (by kernel_rfl) (by kernel_rfl) Ext.refl (fun _ _ _ => Ext.trans) (fun _ _ h => h) (fun _ _ h => h.size) (fun _ _ h _ => h) trivial ?_
  dsimp only [List.length_cons, List.length_nil, List.drop_succ_cons, List.drop_zero, List.drop_nil]
  refine fq 0 rfl rfl rfl cK rfl rfl ?_; apply Exists.intro; constructor
  ·intro sv w' hw' hfa
   refine ⟨rfl, ?_⟩; simp only [putsL]; change qT _; simp only [qT, Act.put, sIA, sCS, sCZ]; simp [go_sem, quietTo, Ext.refl]; all_goals rfl
  refine fq 1 rfl rfl rfl cK rfl rfl ?_; apply Exists.intro; constructor
  ·rintro sv w' hw' ⟨(f0 : sv 0 = _), -⟩; (try dsimp only at f0)
   refine ⟨rfl, ?_⟩; simp only [putsL]; change qT (pT _ 8 (sv 0)); simp only [qT, pT, Act.put, sIA, sCS, sCZ]; simp [go_sem, quietTo, Ext.refl, f0]; all_goals rfl
  refine fq 2 rfl rfl rfl cK rfl rfl ?_; apply Exists.intro; constructor
  ·rintro sv w' hw' ⟨_, (f1 : sv 1 = _), -⟩; (try dsimp only at f1)
   refine ⟨rfl, ?_⟩; simp only [putsL]; change qT (pT (pT _ 9 (sv 1)) 8 (sv 0)); simp only [qT, pT, Act.put, sIA, sCS, sCZ]; simp [go_sem, quietTo, Ext.refl, f1]; all_goals rfl
  refine fq 3 rfl rfl rfl cK rfl rfl ?_; apply Exists.intro; constructor
  ·rintro sv w' hw' ⟨_, _, (f2 : sv 2 = _), -⟩; (try dsimp only at f2)
   obtain ⟨hc, hf, hz9⟩ := ((Ext.refl _).drew.trans hw').walk; have y5 := (hc bb 5 lb).trans c5
   refine ⟨rfl, ?_⟩; simp only [putsL]; change qT (pT (pT (pT _ 10 (sv 2)) 9 (sv 1)) 8 (sv 0)); simp only [qT, pT, Act.put, sIA, sCS, sCZ]; simp [go_sem, quietTo, Ext.refl, ↓IntWalk.iteOmega, f2, y5]; (all_goals try simp (disch := omega) only [IntWalk.i64_in]); all_goals rfl
  refine fq 4 rfl rfl rfl cK rfl rfl ?_; apply Exists.intro; constructor
  ·intro sv w' hw' hfa
   obtain ⟨hc, hf, hz9⟩ := ((Ext.refl _).drew.trans hw').walk; have x0 := (hc _ 0 lx).trans e0; have x1 := (hc _ 1 lx).trans e1
   refine ⟨rfl, ?_⟩; simp only [putsL]; change qT _; simp only [qT, Act.put, sIA, sCS, sCZ]; simp [go_sem, quietTo, Ext.refl, ↓IntWalk.iteOmega, x0, x1]; (all_goals try simp (disch := omega) only [IntWalk.i64_in]); all_goals rfl
  refine fq 5 rfl rfl rfl cK rfl rfl ?_; apply Exists.intro; constructor
  ·rintro sv w' hw' ⟨_, _, _, (f3 : sv 3 = _), (f4 : sv 4 = _), -⟩; (try dsimp only at f3 f4)
   have hl9 := hlk.out w' ((Ext.refl _).drew.trans hw')
   refine ⟨rfl, ?_⟩; simp only [putsL]; change qT (pT (pT (pT (pT (pT _ 12 (sv 4)) 11 (sv 3)) 10 (sv 2)) 9 (sv 1)) 8 (sv 0)); simp only [qT, pT, Act.put, sIA, sCS, sCZ]; simp [go_sem, quietTo, Ext.refl, ↓IntWalk.iteOmega, f3, f4, hl9]; (all_goals try simp (disch := omega) only [IntWalk.i64_in]); all_goals rfl
  refine fq 6 rfl rfl rfl cK rfl rfl ?_; apply Exists.intro; constructor
  ·rintro sv w' hw' ⟨_, _, _, _, _, (f5 : sv 5 = _), -⟩; (try dsimp only at f5)
   refine ⟨rfl, ?_⟩; simp only [putsL]; change qT (pT (pT (pT (pT (pT (pT _ 13 (sv 5)) 12 (sv 4)) 11 (sv 3)) 10 (sv 2)) 9 (sv 1)) 8 (sv 0)); simp only [qT, pT, Act.put, sIA, sCS, sCZ]; simp [go_sem, quietTo, Ext.refl, f5]; all_goals rfl
  refine fq 7 rfl rfl rfl cK rfl rfl ?_; apply Exists.intro; constructor
  ·rintro sv w' hw' ⟨_, _, _, _, _, _, (f6 : sv 6 = _), -⟩; (try dsimp only at f6)
   refine ⟨rfl, ?_⟩; simp only [putsL]; change qT (pT (pT (pT (pT (pT (pT (pT _ 7 (sv 6)) 13 (sv 5)) 12 (sv 4)) 11 (sv 3)) 10 (sv 2)) 9 (sv 1)) 8 (sv 0)); simp only [qT, pT, Act.put, sIA, sCS, sCZ]; simp [go_sem, quietTo, Ext.refl, f6]; all_goals rfl
  refine fq 8 rfl rfl rfl cK rfl rfl ?_; apply Exists.intro; constructor
  ·rintro sv w' hw' ⟨_, _, _, _, _, _, (f6 : sv 6 = _), -⟩; (try dsimp only at f6)
   refine ⟨rfl, ?_⟩; simp only [putsL]; change qT (pT (pT (pT (pT (pT (pT (pT _ 7 (sv 6)) 13 (sv 5)) 12 (sv 4)) 11 (sv 3)) 10 (sv 2)) 9 (sv 1)) 8 (sv 0)); simp only [qT, pT, Act.put, sIA, sCS, sCZ]; simp [go_sem, quietTo, Ext.refl, f6]; all_goals rfl
  refine fq 9 rfl rfl rfl cK rfl rfl ?_; apply Exists.intro; constructor
  ·rintro sv w' hw' ⟨_, _, _, _, _, _, _, (f7 : sv 7 = _), -⟩; (try dsimp only at f7)
   refine ⟨rfl, ?_⟩; simp only [putsL]; change qT (pT (pT (pT (pT (pT (pT (pT (pT _ 14 (sv 7)) 7 (sv 6)) 13 (sv 5)) 12 (sv 4)) 11 (sv 3)) 10 (sv 2)) 9 (sv 1)) 8 (sv 0)); simp only [qT, pT, Act.put, sIA, sCS, sCZ]; simp [go_sem, quietTo, Ext.refl, f7]; all_goals rfl
  refine fq 10 rfl rfl rfl cK rfl rfl ?_; apply Exists.intro; constructor
  ·rintro sv w' hw' ⟨_, _, _, _, _, _, _, (f8 : sv 8 = _), -⟩; (try dsimp only at f8)
   refine ⟨rfl, ?_⟩; simp only [putsL]; change qT (pT (pT (pT (pT (pT (pT (pT (pT _ 15 (sv 8)) 7 (sv 6)) 13 (sv 5)) 12 (sv 4)) 11 (sv 3)) 10 (sv 2)) 9 (sv 1)) 8 (sv 0)); simp only [qT, pT, Act.put, sIA, sCS, sCZ]; simp [go_sem, quietTo, Ext.refl, f8]; all_goals rfl
  refine fac_nil fun xa wra hera hfra hcra holda hapa => ?_
  obtain ⟨(f0 : xa 0 = _), (f1 : xa 1 = _), (f2 : xa 2 = _), (f3 : xa 3 = _), (f4 : xa 4 = _), (f5 : xa 5 = _), (f6 : xa 6 = _), (f7 : xa 7 = _), (f8 : xa 8 = _), (f9 : xa 9 = _), (f10 : xa 10 = _), -⟩ := hfra; (try dsimp only at f0 f1 f2 f3 f4 f5 f6 f7 f8 f9 f10)
  change wpList _ _ _ _ (pT (pT (pT (pT (pT (pT (pT (pT (pT (pT (pT _ 8 (xa 0)) 9 (xa 1)) 10 (xa 2)) 11 (xa 3)) 12 (xa 4)) 13 (xa 5)) 7 (xa 6)) 14 (xa 7)) 15 (xa 8)) 5 (xa 9)) 6 (xa 10)) _
  simp only [putsL, Nat.reduceAdd, List.drop_succ_cons, List.drop_zero, List.drop_nil, pT, Act.put, sIA, sCS, sCZ]
  try simp only [f0, f1, f2, f3, f4, f5, f6, f7, f8, f9, f10]
  clear f0 f1 f2 f3 f4 f5 f6 f7 f8 f9 f10; clear holda hapa
  go_wp2
  go_ret
  exact ⟨rfl, ((Ext.refl _).alloc _).drew.trans hera⟩
end Go.Proofs.YtkjhbofbcmelgaaGreatDoor
namespace Go.Proofs.YtkjhbofbcmelgaaGreatDoor
open Go Go.RowKit Go.Sort
def idL (l : LoanV) : IdV := (l.piece, l.no)
/-- An open loan. -/
def LoanV.Open (l : LoanV) : Prop := l.till < 0
instance (l : LoanV) : Decidable l.Open := by unfold LoanV.Open; exact inferInstance
/-- What holds of a library in which slips up to a moment were followed. -/
structure LibI (each t : Int) (L : LibS) : Prop where
 open_ : ∀ (i : Nat) (l : LoanV), L.loans[i]? = some l → l.Open → L.at_ (idL l) = outW ∧ L.last (idL l) = some (i : Int)
 lastId : ∀ k (i : Nat), L.last k = some (i : Int) → ∃ l, L.loans[i]? = some l ∧ idL l = k
 later : ∀ k (i j : Nat) (l : LoanV), L.last k = some (i : Int) → i < j → L.loans[j]? = some l → idL l ≠ k
 outI : ∀ k, L.at_ k = outW → ∃ (i : Nat) (l : LoanV), L.last k = some (i : Int) ∧ L.loans[i]? = some l ∧ l.Open
 has : ∀ s o, L.has s = some o → (o.length : Int) ≤ each ∧ ∀ p, p ∈ o ↔ ∃ l ∈ L.loans, l.Open ∧ l.singer = s ∧ l.piece = p
 none_ : ∀ s, L.has s = none → ∀ l ∈ L.loans, l.Open → l.singer ≠ s
 two : L.loans.Pairwise fun a b => a.Open → b.Open → a.singer = b.singer → a.piece ≠ b.piece
 since : ∀ l ∈ L.loans, l.since ≤ t
theorem LibI.new {each t : Int} : LibI each t LibS.new := by
 refine ⟨fun i l h => by simp [LibS.new] at h, fun k i h => by simp [LibS.new] at h, fun k i j l h => by simp [LibS.new] at h, fun k h => absurd h ?_, fun s o h => by simp [LibS.new] at h, fun s _ l hl => by simp [LibS.new] at hl, by simp [LibS.new], fun l hl => by simp [LibS.new] at hl⟩
 show inW ≠ outW
 decide
theorem get_snoc {α : Type} {xs : List α} {y l : α} {i : Nat} (h : (xs ++ [y])[i]? = some l) : (i < xs.length ∧ xs[i]? = some l) ∨ (i = xs.length ∧ l = y) := by
 rcases Nat.lt_trichotomy i xs.length with e | e | e
 ·rw [List.getElem?_append_left e] at h
  exact .inl ⟨e, h⟩
 ·subst e
  simp at h
  exact .inr ⟨rfl, h.symm⟩
 ·rw [List.getElem?_eq_none (by simp; omega)] at h
  cases h
theorem get_set {α : Type} {xs : List α} {y l : α} {i j : Nat} (h : (xs.set i y)[j]? = some l) : (j ≠ i ∧ xs[j]? = some l) ∨ (j = i ∧ l = y ∧ i < xs.length) := by
 rw [List.getElem?_set] at h
 by_cases e : i = j
 ·rw [if_pos e] at h
  split at h
  ·rename_i hl
   cases h
   exact .inr ⟨e.symm, rfl, by omega⟩
  ·cases h
 ·rw [if_neg e] at h
  exact .inl ⟨fun h => e h.symm, h⟩
theorem lendD_I {r : LendR} {t : Int} {L : LibS} {x : SlipV} (h : LibI r.each t L) (ht : x.at_ ≤ t) (hin : L.at_ (x.piece, x.copy) = inW) : LibI r.each t (lendD r L x).1 := by
 unfold lendD
 by_cases h1 : x.piece ∈ ownOf L x.singer
 ·rw [if_pos h1]; exact h
 rw [if_neg h1]
 by_cases h2 : r.each ≤ (ownOf L x.singer).length
 ·rw [if_pos h2]; exact h
 rw [if_neg h2]
 have hown : ∀ p, p ∈ ownOf L x.singer ↔ ∃ l ∈ L.loans, l.Open ∧ l.singer = x.singer ∧ l.piece = p := fun p => by
  unfold ownOf
  cases hh : L.has x.singer with
  | none => simp only [Option.getD_none, List.not_mem_nil, false_iff]; rintro ⟨l, hl, ho, hs, -⟩; exact h.none_ _ hh l hl ho hs
  | some o => exact (h.has _ _ hh).2 p
 have hno : ∀ l ∈ L.loans, l.Open → l.singer = x.singer → l.piece ≠ x.piece := fun l hl ho hs hp => h1 ((hown _).2 ⟨l, hl, ho, hs, hp⟩)
 have hnew : (⟨x.piece, x.copy, x.singer, x.at_, -1, false⟩ : LoanV).Open := by show (-1 : Int) < 0; decide
 have hnk : ∀ i l, L.loans[i]? = some l → l.Open → idL l ≠ (x.piece, x.copy) := fun i l hl ho e => by
  have := (h.open_ i l hl ho).1
  rw [e, hin] at this
  exact absurd this (by decide)
 refine ⟨fun i l hl ho => ?_, fun k i hk => ?_, fun k i j l hk hij hl => ?_, fun k hk => ?_, fun s o hs => ?_, fun s hs l hl ho => ?_, ?_, fun l hl => ?_⟩
 ·rcases get_snoc hl with ⟨hi, hl⟩ | ⟨rfl, rfl⟩
  ·have hne := hnk i l hl ho
   have := h.open_ i l hl ho
   exact ⟨by rw [at_set, if_neg hne]; exact this.1, by show setF _ _ _ _ = _; rw [setF_some, if_neg hne]; exact this.2⟩
  ·exact ⟨by rw [at_set]; exact if_pos rfl, by show setF _ _ _ _ = _; rw [setF_some]; exact if_pos rfl⟩
 ·have hk : setF L.last _ _ k = _ := hk
  rw [setF_some] at hk
  by_cases e : k = (x.piece, x.copy)
  ·rw [if_pos e] at hk
   have hi : i = L.loans.length := by have : ((L.loans.length : Nat) : Int) = i := Option.some.inj hk; omega
   exact ⟨⟨x.piece, x.copy, x.singer, x.at_, -1, false⟩, by show (L.loans ++ [_])[i]? = _; rw [hi]; exact List.getElem?_concat_length, e.symm⟩
  ·rw [if_neg e] at hk
   obtain ⟨l, hl, hid⟩ := h.lastId k i hk
   exact ⟨l, by show (L.loans ++ [_])[i]? = _; rw [List.getElem?_append_left (List.getElem?_eq_some_iff.1 hl).1]; exact hl, hid⟩
 ·have hk : setF L.last _ _ k = _ := hk
  rw [setF_some] at hk
  by_cases e : k = (x.piece, x.copy)
  ·rw [if_pos e] at hk
   have hi : i = L.loans.length := by have : ((L.loans.length : Nat) : Int) = i := Option.some.inj hk; omega
   rcases get_snoc hl with ⟨hi2, -⟩ | ⟨hj, -⟩ <;> omega
  ·rw [if_neg e] at hk
   rcases get_snoc hl with ⟨-, hl⟩ | ⟨-, rfl⟩
   ·exact h.later k i j l hk hij hl
   ·exact fun e2 => e e2.symm
 ·rw [at_set] at hk
  by_cases e : k = (x.piece, x.copy)
  ·exact ⟨L.loans.length, _, by show setF _ _ _ _ = _; rw [setF_some]; exact if_pos e, List.getElem?_concat_length, hnew⟩
  ·rw [if_neg e] at hk
   obtain ⟨i, l, e1, e2, e3⟩ := h.outI k hk
   exact ⟨i, l, by show setF _ _ _ _ = _; rw [setF_some, if_neg e]; exact e1, by show (L.loans ++ [_])[i]? = _; rw [List.getElem?_append_left (List.getElem?_eq_some_iff.1 e2).1]; exact e2, e3⟩
 ·have hs : setF L.has _ _ s = _ := hs
  rw [setF_some] at hs
  by_cases e : s = x.singer
  ·rw [if_pos e] at hs
   cases hs
   refine ⟨by simp; omega, fun p => ?_⟩
   rw [List.mem_append, List.mem_singleton, hown]
   constructor
   ·rintro (⟨l, hl, h3⟩ | hp)
    ·exact ⟨l, List.mem_append_left _ hl, by rw [e]; exact h3⟩
    ·exact ⟨_, List.mem_append_right _ (List.mem_singleton.2 rfl), hnew, e.symm, hp.symm⟩
   ·rintro ⟨l, hl, h3, h4, h5⟩
    rcases List.mem_append.1 hl with hl | hl
    ·exact .inl ⟨l, hl, h3, by rw [← e]; exact h4, h5⟩
    ·rw [List.mem_singleton.1 hl] at h5
     exact .inr h5.symm
  ·rw [if_neg e] at hs
   obtain ⟨h3, h4⟩ := h.has s o hs
   refine ⟨h3, fun p => ?_⟩
   rw [h4]
   constructor
   ·rintro ⟨l, hl, h5⟩; exact ⟨l, List.mem_append_left _ hl, h5⟩
   ·rintro ⟨l, hl, h5, h6, h7⟩
    rcases List.mem_append.1 hl with hl | hl
    ·exact ⟨l, hl, h5, h6, h7⟩
    ·rw [List.mem_singleton.1 hl] at h6
     exact absurd h6.symm e
 ·have hs : setF L.has _ _ s = _ := hs
  rw [setF_some] at hs
  by_cases e : s = x.singer
  ·rw [if_pos e] at hs; cases hs
  ·rw [if_neg e] at hs
   rcases List.mem_append.1 hl with hl | hl
   ·exact h.none_ s hs l hl ho
   ·rw [List.mem_singleton.1 hl]; exact fun e2 => e e2.symm
 ·refine List.pairwise_append.2 ⟨h.two, List.pairwise_singleton _ _, fun a ha b hb => ?_⟩
  rw [List.mem_singleton.1 hb]
  exact fun ho _ hs => hno a ha ho hs
 ·rcases List.mem_append.1 hl with hl | hl
  ·exact h.since l hl
  ·rw [List.mem_singleton.1 hl]; exact ht
theorem mem_at {α : Type} {xs : List α} {a : α} (h : a ∈ xs) : ∃ i : Nat, xs[i]? = some a := List.mem_iff_getElem?.1 h
/-- A loan changes that is closed then. -/
theorem set_I {each t : Int} {L : LibS} (h : LibI each t L) {k0 : IdV} {i : Nat} {l l' : LoanV} (hk : L.last k0 = some (i : Int)) (hl : L.loans[i]? = some l) (hid : idL l = k0) (hc : ¬ l'.Open) (hid' : idL l' = k0) (hs' : l'.since = l.since) {v : ByteArray} (hv : v ≠ outW) {H' : ByteArray → Option (List ByteArray)}
 (hH : ∀ s o, H' s = some o → (o.length : Int) ≤ each ∧ ∀ p, p ∈ o ↔ ∃ (j : Nat) (z : LoanV), j ≠ i ∧ L.loans[j]? = some z ∧ z.Open ∧ z.singer = s ∧ z.piece = p) (hN : ∀ s, H' s = none → L.has s = none) : LibI each t ⟨setF L.st k0 v, L.last, L.loans.set i l', H'⟩ := by
 have hil := (List.getElem?_eq_some_iff.1 hl).1
 refine ⟨fun j z hz ho => ?_, fun k j hj => ?_, fun k j m z hj hjm hz => ?_, fun k hk2 => ?_, fun s o hs => ?_, fun s hs z hz ho => ?_, ?_, fun z hz => ?_⟩
 ·rcases get_set hz with ⟨hne, hz⟩ | ⟨-, rfl, -⟩
  ·obtain ⟨h1, h2⟩ := h.open_ j z hz ho
   have hne2 : idL z ≠ k0 := fun e => by
    rw [e, hk] at h2
    simp at h2
    omega
   exact ⟨by rw [at_set, if_neg hne2]; exact h1, h2⟩
  ·exact absurd ho hc
 ·obtain ⟨z, hz, he⟩ := h.lastId k j hj
  by_cases e : j = i
  ·subst e
   rw [hl] at hz
   cases hz
   exact ⟨l', by simp [hil], by rw [hid', ← hid, he]⟩
  ·exact ⟨z, by show (L.loans.set i l')[j]? = _; rw [List.getElem?_set_ne (fun e2 => e e2.symm)]; exact hz, he⟩
 ·rcases get_set hz with ⟨hne, hz⟩ | ⟨rfl, rfl, -⟩
  ·exact h.later k j m z hj hjm hz
  ·rw [hid', ← hid]
   exact h.later k j m l hj hjm hl
 ·rw [at_set] at hk2
  by_cases e : k = k0
  ·rw [if_pos e] at hk2
   exact absurd hk2 hv
  ·rw [if_neg e] at hk2
   obtain ⟨j, z, e1, e2, e3⟩ := h.outI k hk2
   have hne : i ≠ j := fun e4 => by
    subst e4
    obtain ⟨z2, hz2, he2⟩ := h.lastId k i e1
    rw [hl] at hz2
    cases hz2
    exact e (he2.symm.trans hid)
   exact ⟨j, z, e1, by show (L.loans.set i l')[j]? = _; rw [List.getElem?_set_ne hne]; exact e2, e3⟩
 ·obtain ⟨h1, h2⟩ := hH s o hs
  refine ⟨h1, fun p => ?_⟩
  rw [h2]
  constructor
  ·rintro ⟨j, z, h3, h4, h5⟩
   exact ⟨z, List.mem_iff_getElem?.2 ⟨j, by show (L.loans.set i l')[j]? = _; rw [List.getElem?_set_ne (fun e => h3 e.symm)]; exact h4⟩, h5⟩
  ·rintro ⟨z, hz, h5, h6⟩
   obtain ⟨j, hj⟩ := mem_at hz
   rcases get_set hj with ⟨hne, hj⟩ | ⟨-, rfl, -⟩
   ·exact ⟨j, z, hne, hj, h5, h6⟩
   ·exact absurd h5 hc
 ·obtain ⟨j, hj⟩ := mem_at hz
  rcases get_set hj with ⟨hne, hj⟩ | ⟨-, rfl, -⟩
  ·exact h.none_ s (hN s hs) z (List.mem_of_getElem? hj) ho
  ·exact absurd ho hc
 ·refine List.pairwise_iff_getElem.2 fun a b ha hb hab h1 h2 => ?_
  have ga : (L.loans.set i l')[a]? = some (L.loans.set i l')[a] := List.getElem?_eq_getElem ha
  have gb : (L.loans.set i l')[b]? = some (L.loans.set i l')[b] := List.getElem?_eq_getElem hb
  generalize (L.loans.set i l')[a] = za at *
  generalize (L.loans.set i l')[b] = zb at *
  rcases get_set ga with ⟨-, ga⟩ | ⟨-, rfl, -⟩
  ·rcases get_set gb with ⟨-, gb⟩ | ⟨-, rfl, -⟩
   ·obtain ⟨la, ea⟩ := List.getElem?_eq_some_iff.1 ga
    obtain ⟨lb, eb⟩ := List.getElem?_eq_some_iff.1 gb
    have := List.pairwise_iff_getElem.1 h.two a b la lb hab
    rw [ea, eb] at this
    exact this h1 h2
   ·exact absurd h2 hc
  ·exact absurd h1 hc
 ·rcases List.mem_or_eq_of_mem_set hz with hz | rfl
  ·exact h.since z hz
  ·rw [hs']; exact h.since l (List.mem_of_getElem? hl)
theorem endD_I {r : LendR} {t : Int} {L : LibS} {x : SlipV} {lost : Bool} (h : LibI r.each t L) (ht : 0 ≤ x.at_) (hs : L.at_ (x.piece, x.copy) = outW) : LibI r.each t (endD L x lost) := by
 obtain ⟨i, l, e1, e2, ho⟩ := h.outI _ hs
 obtain ⟨z, hz, hid⟩ := h.lastId _ i e1
 rw [e2] at hz
 cases hz
 have hl0 := (List.getElem?_eq_some_iff.1 e2).1
 have hL : lastL L (x.piece, x.copy) = l := by
  have := lastL_of e1 hl0
  rw [e2] at this
  exact (Option.some.inj this).symm
 unfold endD
 rw [lastI_of e1, hL]
 have hone : ∀ j z, L.loans[j]? = some z → z.Open → z.singer = l.singer → z.piece = x.piece → j = i := fun j z hz hoz hsz hpz => by
  obtain ⟨lj, ej⟩ := List.getElem?_eq_some_iff.1 hz
  obtain ⟨li, ei⟩ := List.getElem?_eq_some_iff.1 e2
  have hp : l.piece = x.piece := congrArg Prod.fst hid
  rcases Nat.lt_trichotomy j i with e | e | e
  ·have := List.pairwise_iff_getElem.1 h.two j i lj li e
   rw [ej, ei] at this
   exact absurd (hpz.trans hp.symm) (this hoz ho hsz)
  ·exact e
  ·have := List.pairwise_iff_getElem.1 h.two i j li lj e
   rw [ej, ei] at this
   exact absurd (hp.trans hpz.symm) (this ho hoz hsz.symm)
 refine set_I (l' := { l with till := x.at_, lost := lost }) (v := if lost then lostW else inW) h e1 e2 hid (by show ¬ x.at_ < 0; omega) hid rfl (by cases lost <;> decide) (fun s o ho2 => ?_) fun s hn => ?_
 ·have ho2 : (if s = l.singer then _ else _) = some o := ho2
  by_cases e : s = l.singer
  ·rw [if_pos e] at ho2
   cases hh : L.has s with
   | none => rw [hh] at ho2; cases ho2
   | some q =>
     rw [hh] at ho2
     cases ho2
     obtain ⟨h1, h2⟩ := h.has s q hh
     refine ⟨by have := List.length_filter_le (fun p => decide (p ≠ x.piece)) q; dsimp only; omega, fun p => ?_⟩
     rw [List.mem_filter, h2, decide_eq_true_eq]
     constructor
     ·rintro ⟨⟨z, hz, h5, h6, h7⟩, h8⟩
      obtain ⟨j, hj⟩ := mem_at hz
      refine ⟨j, z, fun e3 => h8 ?_, hj, h5, h6, h7⟩
      subst e3
      rw [e2] at hj
      cases hj
      rw [← h7]
      exact congrArg Prod.fst hid
     ·rintro ⟨j, z, h3, h4, h5, h6, h7⟩
      exact ⟨⟨z, List.mem_of_getElem? h4, h5, h6, h7⟩, fun e3 => h3 (hone j z h4 h5 (h6.trans e) (h7.trans e3))⟩
  ·rw [if_neg e] at ho2
   obtain ⟨h1, h2⟩ := h.has s o ho2
   refine ⟨h1, fun p => ?_⟩
   rw [h2]
   constructor
   ·rintro ⟨z, hz, h5, h6, h7⟩
    obtain ⟨j, hj⟩ := mem_at hz
    refine ⟨j, z, fun e3 => e ?_, hj, h5, h6, h7⟩
    subst e3
    rw [e2] at hj
    cases hj
    exact h6.symm
   ·rintro ⟨j, z, h3, h4, h5⟩
    exact ⟨z, List.mem_of_getElem? h4, h5⟩
 ·have hn : (if s = l.singer then _ else _) = none := hn
  by_cases e : s = l.singer
  ·rw [if_pos e] at hn
   cases hh : L.has s with
   | none => rfl
   | some q => rw [hh] at hn; cases hn
  ·rw [if_neg e] at hn; exact hn
/-- A copy that is not out is as it is said; it still is not out. -/
theorem st_I {each t : Int} {L : LibS} (h : LibI each t L) {k0 : IdV} (hk : L.at_ k0 ≠ outW) {v : ByteArray} (hv : v ≠ outW) : LibI each t ⟨setF L.st k0 v, L.last, L.loans, L.has⟩ := by
 refine ⟨fun j z hz ho => ?_, h.lastId, h.later, fun k hk2 => ?_, h.has, h.none_, h.two, h.since⟩
 ·obtain ⟨h1, h2⟩ := h.open_ j z hz ho
  exact ⟨by rw [at_set, if_neg fun e => hk (by rw [← e]; exact h1)]; exact h1, h2⟩
 ·rw [at_set] at hk2
  by_cases e : k = k0
  ·rw [if_pos e] at hk2; exact absurd hk2 hv
  ·rw [if_neg e] at hk2; exact h.outI k hk2
theorem slipD_I {n : Nat} {T : List TitleV} {r : LendR} {t : Int} {L : LibS} {x : SlipV} (h : LibI r.each t L) (hn : LibN n L) (hx : 1 ≤ x.kind ∧ x.kind ≤ 5) (h0 : 0 ≤ x.at_) (ht : x.at_ ≤ t) : LibI r.each t (slipD T r L x).1 := by
 unfold slipD
 by_cases h1 : isCopyT T (x.piece, x.copy) = false
 ·rw [if_pos h1]; exact h
 rw [if_neg h1]
 by_cases h2 : L.at_ (x.piece, x.copy) ≠ needW x.kind
 ·rw [if_pos h2]; exact h
 rw [if_neg h2]
 have h2 : L.at_ (x.piece, x.copy) = needW x.kind := Classical.byContradiction h2
 by_cases k1 : x.kind = 1
 ·rw [if_pos k1]; exact lendD_I h ht (by rw [h2, k1]; rfl)
 rw [if_neg k1]
 by_cases k2 : x.kind = 2 ∨ x.kind = 3
 ·rw [if_pos k2]
  refine endD_I h h0 ?_
  rw [h2]
  rcases k2 with e | e <;> rw [e] <;> rfl
 rw [if_neg k2]
 by_cases k4 : x.kind = 4
 ·rw [if_pos k4]
  have hs : L.at_ (x.piece, x.copy) = lostW := by rw [h2, k4]; rfl
  obtain ⟨i, e1, e2⟩ := hn.ok.last _ (.inr hs)
  have hl := lastL_of e1 e2
  obtain ⟨z, hz, hid⟩ := h.lastId _ i e1
  rw [hl] at hz
  cases hz
  have hc : ¬ (lastL L (x.piece, x.copy)).Open := fun ho => by
   have := (h.open_ i _ hl ho).1
   rw [hid, hs] at this
   exact absurd this (by decide)
  rw [lastI_of e1]
  refine set_I (l' := { lastL L (x.piece, x.copy) with lost := false }) (v := inW) h e1 hl hid hc hid rfl (by decide) (fun s o ho => ?_) fun s hs => hs
  obtain ⟨h3, h4⟩ := h.has s o ho
  refine ⟨h3, fun p => ?_⟩
  rw [h4]
  constructor
  ·rintro ⟨z, hz, h5, h6⟩
   obtain ⟨j, hj⟩ := mem_at hz
   refine ⟨j, z, fun e3 => hc ?_, hj, h5, h6⟩
   subst e3
   rw [hl] at hj
   cases hj
   exact h5
  ·rintro ⟨j, z, h3, h4, h5⟩
   exact ⟨z, List.mem_of_getElem? h4, h5⟩
 rw [if_neg k4]
 have hk5 : x.kind = 5 := by omega
 exact st_I h (by rw [h2, hk5]; decide) (by decide)
theorem run_I {T : List TitleV} {r : LendR} {t : Int} {d : List SlipV} (hd : ∀ x ∈ d, ((1 ≤ x.kind ∧ x.kind ≤ 5) ∧ x.singer.size ≤ 1000000) ∧ 0 ≤ x.at_) {is : List Nat} (hi : ∀ i ∈ is, i < d.length ∧ atD d i ≤ t) : ∀ (k : Nat), k ≤ is.length → k ≤ 100000 → LibI r.each t (runR T r d (LibS.new, fun _ => none) (is.take k)).1
 | 0, _, _ => by simpa [runR] using LibI.new
 | k + 1, hk, hb => by
   have e : is[k]? = some is[k] := List.getElem?_eq_getElem (by omega)
   rw [run_take e]
   have hm := hi is[k] (List.getElem_mem _)
   have hx := hd d[is[k]] (List.getElem_mem hm.1)
   have ed : d.getD is[k] default = d[is[k]] := by rw [List.getD_eq_getElem?_getD, List.getElem?_eq_getElem hm.1]; rfl
   have ht := hm.2
   unfold atD at ht
   unfold stepR
   rw [ed] at ht ⊢
   exact slipD_I (run_I hd hi k (by omega) (by omega)) (run_ok (fun x hx => (hd x hx).1) (fun i h => (hi i h).1) k (by omega) (by omega)) hx.1.1 hx.2 ht
end Go.Proofs.YtkjhbofbcmelgaaGreatDoor
