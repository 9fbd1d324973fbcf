/- A title by its piece; whether there is a copy; how a copy is. Conditions: sizes. A library of copies in memory; how a copy is. Conditions: as each theorem says. -/
import Derived.Test.YtkjhbofbcmelgaaGreatDoorFzLbB
import Derived.Test.YtkjhbofbcmelgaaGreatDoorFzJ20
import Derived.Test.YtkjhbofbcmelgaaGreatDoorFzJ16
import Derived.Test.YtkjhbofbcmelgaaGreatDoorFzFactsB
set_option linter.unusedSimpArgs false
set_option linter.unusedVariables false
namespace Go.Proofs.YtkjhbofbcmelgaaGreatDoor
open Go Go.RowKit Go.Maps
def titleVal (x : TitleV) : Value := .agg #[.string x.piece, .int .i64 x.owned, .int .i64 x.cost]
theorem titleOf_some {T : List TitleV} (h : TitlesOk T) {k : Nat} {x : TitleV} (hx : T[k]? = some x) : titleOf T x.piece = some x := by
 unfold titleOf
 obtain ⟨hi, he⟩ := List.getElem?_eq_some_iff.1 hx
 refine List.find?_eq_some_iff_getElem.2 ⟨by simp, k, hi, he, fun j hj => ?_⟩
 have := h.less (List.getElem?_eq_getElem (show j < T.length by omega)) hx hj
 simp only [Bool.not_eq_true', decide_eq_false_iff_not]
 intro e2
 rw [e2, cmpS_refl] at this
 cases this
theorem titleOf_none {T : List TitleV} {p : ByteArray} (h : ∀ x ∈ T, x.piece ≠ p) : titleOf T p = none := by
 unfold titleOf
 exact List.find?_eq_none.2 fun t ht => by simpa using h t ht
def set3 (w : World) (g : Nat) (x : TitleV) : World := ((w.setCell ⟨g, 0, none⟩ (.string x.piece)).setCell ⟨g, 1, none⟩ (.int .i64 x.owned)).setCell ⟨g, 2, none⟩ (.int .i64 x.cost)
theorem set3_ext {a w : World} (h : Ext a w) {g : Nat} (hg : a.heap.size ≤ g) (x : TitleV) : Ext a (set3 w g x) := by
 unfold set3
 exact ((h.setCell (p := ⟨g, 0, none⟩) hg _).setCell (p := ⟨g, 1, none⟩) hg _).setCell (p := ⟨g, 2, none⟩) hg _
theorem title_end {R : Ending → World → Prop} {a : Act} {W : World} {g : Nat} (x : TitleV) {ok : Bool} (hB : Blk W g 97 #[.string ⟨#[]⟩, .int .i64 0, .int .i64 0]) (h4 : a.tmps.getD 4 undef = .pointer (some ⟨g, 0, none⟩)) (h5 : a.tmps.getD 5 undef = .bool ok) (hd : a.defers = [])
 (hR : R (.returned (.tuple #[titleVal x, .bool ok])) (set3 W g x)) : bodyPost Tryz.prog Tryz.f106 R .ret a (set3 W g x) := by
 have hb : Blk (set3 W g x) g 97 #[.string x.piece, .int .i64 x.owned, .int .i64 x.cost] := by
  unfold set3
  exact ((hB.set_ 0 _).set_ 1 _).set_ 2 _
 exact bodyPost_ret (results_rowT Tryz.results106 _ _ g 97 _ (0,0) _ h4 hb Tryz.underlying97 rfl (by kernel_rfl) _ h5) hd hR
set_option maxRecDepth 100000 in
set_option maxHeartbeats 1600000 in
theorem title_any (bb : Nat) (cs : Array Value) (tp : Option Addr) (tn tc : Nat) (T : List TitleV) (p : ByteArray) (w : World) (hB : Blk w bb 130 cs) (h0 : cs[0]? = some (.slice tp tn tc)) (hT : Slc 3 titleC w tp tn tc T) (hok : TitlesOk T) :
 Calls Tryz.prog 106 #[.pointer (some ⟨bb, 0, none⟩), .string p] w fun e w' => e = .returned (.tuple #[titleVal ((titleOf T p).getD ⟨⟨#[]⟩, 0,0⟩), .bool (titleOf T p).isSome]) ∧ Ext w w' := by
 have lb := hB.lt
 have hB1 : Blk (w.alloc (.cells #[.string ⟨#[]⟩, .int .i64 0, .int .i64 0] 97)) bb 130 cs := hB.alloc _
 have c0 := (hB1.cell 0).trans h0
 have f0 := hB1.frozen 0
 have lb1 := hB1.lt
 have hT1 : Slc 3 titleC (w.alloc (.cells #[.string ⟨#[]⟩, .int .i64 0, .int .i64 0] 97)) tp tn tc T := hT.ext ((Ext.refl _).alloc _)
 have hs := tiSearch_any tp tn tc T p (w.alloc (.cells #[.string ⟨#[]⟩, .int .i64 0, .int .i64 0] 97)) hT1 hok
 have hTl := hT.1.1
 have hk0 := hB1
 replace hs := Lib.hid hs; replace hk0 := Lib.hid hk0; replace hok := Lib.hid hok
 have hN := Lib.hid (Blk.new' (w := w) (g := w.heap.size) (t := 97) (cs := #[.string ⟨#[]⟩, .int .i64 0, .int .i64 0]) rfl)
 obtain ⟨r, hr⟩ : ∃ r, r = titleOf T p := ⟨_, rfl⟩
 rw [← hr]
 replace hr := Lib.hid hr; clear hB hB1 hT
 go_enter Tryz.func106, Tryz.ntmps106
 go_upto_if 18 with (go_at_call 160; (with_reducible refine Calls.mono hs.out ?_); rintro e w1 ⟨k, is, rfl, hb1, h1, h2⟩; replace h1 := Lib.hid h1; replace h2 := Lib.hid h2)
 cases is
 ·have e9 := titleOf_none (h2.out rfl)
  have hN1 := hN.out.ext hb1
  clear c0 f0 lb1
  obtain ⟨n0, n1⟩ := hN1.walk
  have lN := hN1.lt
  replace hN1 := Lib.hid hN1
  go_wp2
  refine title_end ⟨⟨#[]⟩, 0,0⟩ (W := w1) (g := w.heap.size) (ok := false) ?_ ?_ ?_ ?_ ?_
  ·exact hN1.out
  ·rfl
  ·rfl
  ·rfl
  ·exact ⟨by rw [hr.out, e9]; rfl, set3_ext (((Ext.refl w).alloc _).trans hb1) (Nat.le_refl _) _⟩
 ·obtain ⟨x, hx, hxp⟩ := h1.out rfl
  have e9 := titleOf_some hok.out hx
  rw [hxp] at e9
  clear hxp
  obtain ⟨d0, d1⟩ := (hk0.out.ext hb1).walk
  have c1 := (d0 0).trans h0
  have f1 := d1 0
  have l1 := (hk0.out.ext hb1).lt
  obtain ⟨b, off, rfl, hb, hE⟩ := hT1.1.2.2 (by have := (List.getElem?_eq_some_iff.1 hx).1; omega)
  obtain ⟨y0, y1, y2⟩ := (hE.ext hb1 hb).title hx
  have hbw := Nat.lt_of_lt_of_le hb hb1.size
  have hkI : (k : Int) < tn := by have := (List.getElem?_eq_some_iff.1 hx).1; omega
  replace hx := Lib.hid hx; clear c0 f0 lb1 d0 d1 hE hT1
  have hN1 := hN.out.ext hb1
  obtain ⟨n0, n1⟩ := hN1.walk
  have lN := hN1.lt
  replace hN1 := Lib.hid hN1
  go_wp2
  refine title_end x (W := w1) (g := w.heap.size) (ok := true) ?_ ?_ ?_ ?_ ?_
  ·exact hN1.out
  ·rfl
  ·rfl
  ·rfl
  ·exact ⟨by rw [hr.out, e9]; rfl, set3_ext (((Ext.refl w).alloc _).trans hb1) (Nat.le_refl _) _⟩
set_option maxRecDepth 100000 in
set_option maxHeartbeats 1600000 in
theorem isCopy_any (bb : Nat) (cs : Array Value) (tp : Option Addr) (tn tc : Nat) (T : List TitleV) (p : ByteArray) (no : Int) (w : World) (hB : Blk w bb 130 cs) (h0 : cs[0]? = some (.slice tp tn tc)) (hT : Slc 3 titleC w tp tn tc T) (hok : TitlesOk T) :
 Calls Tryz.prog 127 #[.pointer (some ⟨bb, 0, none⟩), .string p, .int .i64 no] w fun e w' => e = .returned (.bool (isCopyT T (p, no))) ∧ Ext w w' := by
 have ht := title_any bb cs tp tn tc T p w hB h0 hT hok
 have hr : isCopyT T (p, no) = match titleOf T p with | some t => !outB no 1 t.owned | none => false := rfl
 cases h9 : titleOf T p with
 | none =>
   rw [h9] at ht hr
   have hr2 : isCopyT T (p, no) = false := hr
   rw [hr2]
   replace ht := Lib.hid ht; clear hr2 hr h9 hB h0 hT hok
   go_enter Tryz.func127, Tryz.ntmps127
   go_wp2_with (go_at_call 106; (with_reducible refine Calls.mono ht.out ?_); rintro e w1 ⟨rfl, hb1⟩; unfold titleVal)
   go_ret
   exact ⟨rfl, hb1.alloc _⟩
 | some t =>
   rw [h9] at ht hr
   have hr2 : isCopyT T (p, no) = !outB no 1 t.owned := hr
   rw [hr2]
   clear hr2
   have ho := fun u => sOut_is (rfl : outB no 1 t.owned = outB no 1 t.owned) u
   generalize outB no 1 t.owned = v at *
   replace ht := Lib.hid ht; replace ho := Lib.hid ho; clear hr h9 hB h0 hT hok
   go_enter Tryz.func127, Tryz.ntmps127
   go_wp2_with (first
    | (go_at_call 106; (with_reducible refine Calls.mono ht.out ?_); rintro e w1 ⟨rfl, hb1⟩; unfold titleVal)
    | (go_at_call 159; (with_reducible refine Calls.mono (ho.out _) ?_); rintro e w4 ⟨rfl, rfl⟩))
   go_ret
   exact ⟨rfl, hb1.alloc _⟩
end Go.Proofs.YtkjhbofbcmelgaaGreatDoor
namespace Go.Proofs.YtkjhbofbcmelgaaGreatDoor
open Go Go.RowKit Go.Maps
def libC (tp : Option Addr) (tn tc : Nat) (r : LendR) (ms ml mh : Nat) (lv : Value) : Array Value :=
 #[.slice tp tn tc, .int .i64 r.days, .int .i64 r.late, .int .i64 r.most, .int .i64 r.each, .map (some ms), .map (some ml), lv, .map (some mh)]
/-- A library in memory: its loans and what singers have are younger than base. -/
structure LibM (base : Nat) (w : World) (bb ms ml mh q : Nat) (tp : Option Addr) (tn tc : Nat) (r : LendR) (L : LibS) : Prop where
 row : ∃ lv, Blk w bb 130 (libC tp tn tc r ms ml mh lv) ∧ w.ownsRow base 132 6 lv L.loans.length (L.loans.flatMap loanC)
 maps : MapsM base w ms ml mh q L
/-- All stands but the library's four blocks, and what is younger than base. -/
structure KeepL (base bb ms ml mh : Nat) (a w : World) : Prop where
 os : w.os = a.os
 tape : w.tape = a.tape
 output : w.output = a.output
 size : a.heap.size ≤ w.heap.size
 block : ∀ k, k < a.heap.size → k < base → k ≠ bb → k ≠ ms → k ≠ ml → k ≠ mh → w.heap[k]? = a.heap[k]?
section
variable {base bb ms ml mh : Nat} {a w w' : World}
theorem KeepL.refl (a : World) : KeepL base bb ms ml mh a a := ⟨rfl, rfl, rfl, Nat.le_refl _, fun _ _ _ _ _ _ _ => rfl⟩
theorem KeepL.ext (h : KeepL base bb ms ml mh a w) (he : Ext w w') : KeepL base bb ms ml mh a w' :=
 ⟨he.os.trans h.os, he.tape.trans h.tape, he.output.trans h.output, Nat.le_trans h.size he.size, fun k hk h1 h2 h3 h4 h5 => (he.block k (Nat.lt_of_lt_of_le hk h.size)).trans (h.block k hk h1 h2 h3 h4 h5)⟩
theorem KeepL.grown (h : KeepL base bb ms ml mh a w) {m : Nat} (hg : w.grownBy w' (some m)) (hm : m = bb ∨ m = ms ∨ m = ml ∨ m = mh ∨ base ≤ m) : KeepL base bb ms ml mh a w' :=
 ⟨hg.os.trans h.os, hg.tape.trans h.tape, hg.output.trans h.output, Nat.le_trans h.size hg.size, fun k hk h1 h2 h3 h4 h5 => (hg.block k (Nat.lt_of_lt_of_le hk h.size) fun e => by cases e; omega).trans (h.block k hk h1 h2 h3 h4 h5)⟩
theorem KeepL.trans {u : World} (h : KeepL base bb ms ml mh a w) (h' : KeepL base bb ms ml mh w u) : KeepL base bb ms ml mh a u :=
 ⟨h'.os.trans h.os, h'.tape.trans h.tape, h'.output.trans h.output, Nat.le_trans h.size h'.size, fun k hk h1 h2 h3 h4 h5 => (h'.block k (Nat.lt_of_lt_of_le hk h.size) h1 h2 h3 h4 h5).trans (h.block k hk h1 h2 h3 h4 h5)⟩
theorem KeepL.app (h : KeepL base bb ms ml mh a w) {e : TypeId} {k n : Nat} {v : Value} {xs : List Value} (ho : w.ownsRow base e k v n xs) (hg : w.grownBy w' v.ownBlock) : KeepL base bb ms ml mh a w' := by
 cases hv : v.ownBlock with
 | none =>
   rw [hv] at hg
   exact ⟨hg.os.trans h.os, hg.tape.trans h.tape, hg.output.trans h.output, Nat.le_trans h.size hg.size, fun k hk h1 h2 h3 h4 h5 => (hg.block k (Nat.lt_of_lt_of_le hk h.size) (by simp)).trans (h.block k hk h1 h2 h3 h4 h5)⟩
 | some g =>
   rw [hv] at hg
   exact h.grown hg (.inr (.inr (.inr (.inr (ho.lt g hv).1))))
theorem KeepL.set (h : KeepL base bb ms ml mh a w) (o : Nat) (v : Value) : KeepL base bb ms ml mh a (w.setCell ⟨bb, o, none⟩ v) := h.grown (grown_set w ⟨bb, o, none⟩ v) (.inl rfl)
end
section
variable {base : Nat} {w w' : World} {bb ms ml mh q : Nat} {tp : Option Addr} {tn tc : Nat} {r : LendR} {L : LibS}
theorem LibM.ext (h : LibM base w bb ms ml mh q tp tn tc r L) (he : Ext w w') : LibM base w' bb ms ml mh q tp tn tc r L := by
 obtain ⟨⟨lv, hb, ho⟩, hm⟩ := h
 exact ⟨⟨lv, hb.ext he, own_ext he ho⟩, hm.ext he⟩
theorem LibM.le (h : LibM base w bb ms ml mh q tp tn tc r L) {q' : Nat} (hq : q ≤ q') : LibM base w' bb ms ml mh q' tp tn tc r L → LibM base w' bb ms ml mh q' tp tn tc r L := id
theorem LibM.lt (h : LibM base w bb ms ml mh q tp tn tc r L) : bb < w.heap.size := by
 obtain ⟨⟨lv, hb, ho⟩, hm⟩ := h
 exact hb.lt
end
set_option maxRecDepth 100000 in
set_option maxHeartbeats 1600000 in
theorem state_any {base : Nat} {w : World} {bb ms ml mh q : Nat} {tp : Option Addr} {tn tc : Nat} {r : LendR} {L : LibS} (h : LibM base w bb ms ml mh q tp tn tc r L) (p : ByteArray) (no : Int) (hk : okSN (p, no)) :
 Calls Tryz.prog 66 #[.pointer (some ⟨bb, 0, none⟩), .agg #[.string p, .int .i64 no]] w fun e w' => e = .returned (.string (L.at_ (p, no))) ∧ Ext w w' := by
 obtain ⟨lv, hB, -⟩ := (h.ext ((Ext.refl w).alloc (.cells #[.string p, .int .i64 no] 120))).row
 have hS := (h.ext ((Ext.refl w).alloc (.cells #[.string p, .int .i64 no] 120))).maps.st
 have hX := Blk.new' (w := w) (g := w.heap.size) (t := 120) (cs := #[.string p, .int .i64 no]) rfl
 have lb := hB.lt
 have lx := hX.lt
 have c5 := hB.cell 5
 have e0 := hX.cell 0
 have e1 := hX.cell 1
 have hlk : ∀ u, Ext (w.alloc (.cells #[.string p, .int .i64 no] 120)) u → (Instr.lookup 125 (.map (some ms)) (.agg #[.string p, .int .i64 no]) true).run Tryz.prog u = .ok (.tuple #[.string ((L.st (p, no)).getD ⟨#[]⟩), .bool (L.st (p, no)).isSome]) u := fun u hu => (hS.ext hu).look_ok hk
 have ha : L.at_ (p, no) = (L.st (p, no)).getD inW := rfl
 rw [ha]
 clear ha hS h
 generalize L.st (p, no) = sv at *
 replace hlk := Lib.hid hlk; replace hB := Lib.hid hB; replace hX := Lib.hid hX
 unfold libC at c5
 go_enter Tryz.func66, Tryz.ntmps66
 go_upto_region 1 with fail
 cases sv
 all_goals
  refine wp_region_facts [] [([],false,false),([0],false,false),([0,1],false,false),([0,1,2],false,false),([],false,false),([0,1,2,3,4],false,false),([0,1,2,3,4,5],false,false),([0,1,2,3,4,5,6],false,false),([0,1,2,3,4,5,6],false,false),([0,1,2,3,4,5,6,7],false,false),([0,1,2,3,4,5,6,8],false,false)] (Ext) Ext (fun _ => True) (by kernel_rfl) (by kernel_rfl) Ext.refl (fun _ _ _ => Ext.trans) (fun _ _ h => h) (fun _ _ h => h.size) (fun _ _ h _ => h) trivial ?_
  dsimp only [List.length_cons, List.length_nil, List.drop_succ_cons, List.drop_zero, List.drop_nil]
  refine fq 0 rfl rfl rfl cK rfl rfl ?_; apply Exists.intro; constructor
  ·intro sv w' hw' hfa
   refine ⟨rfl, ?_⟩; simp only [putsL]; change qT _; simp only [qT, Act.put, sIA, sCS, sCZ]; simp [go_sem, quietTo, Ext.refl]; all_goals rfl
  refine fq 1 rfl rfl rfl cK rfl rfl ?_; apply Exists.intro; constructor
  ·rintro sv w' hw' ⟨(f0 : sv 0 = _), -⟩; (try dsimp only at f0)
   refine ⟨rfl, ?_⟩; simp only [putsL]; change qT (pT _ 8 (sv 0)); simp only [qT, pT, Act.put, sIA, sCS, sCZ]; simp [go_sem, quietTo, Ext.refl, f0]; all_goals rfl
  refine fq 2 rfl rfl rfl cK rfl rfl ?_; apply Exists.intro; constructor
  ·rintro sv w' hw' ⟨_, (f1 : sv 1 = _), -⟩; (try dsimp only at f1)
   refine ⟨rfl, ?_⟩; simp only [putsL]; change qT (pT (pT _ 9 (sv 1)) 8 (sv 0)); simp only [qT, pT, Act.put, sIA, sCS, sCZ]; simp [go_sem, quietTo, Ext.refl, f1]; all_goals rfl
  refine fq 3 rfl rfl rfl cK rfl rfl ?_; apply Exists.intro; constructor
  ·rintro sv w' hw' ⟨_, _, (f2 : sv 2 = _), -⟩; (try dsimp only at f2)
   obtain ⟨hc, hf, hz9⟩ := ((Ext.refl _).drew.trans hw').walk; have y5 := (hc bb 5 lb).trans c5; have x0 := (hc _ 0 lx).trans e0; have x1 := (hc _ 1 lx).trans e1; have hl9 := hlk.out w' ((Ext.refl _).drew.trans hw')
   refine ⟨rfl, ?_⟩; simp only [putsL]; change qT (pT (pT (pT _ 10 (sv 2)) 9 (sv 1)) 8 (sv 0)); simp only [qT, pT, Act.put, sIA, sCS, sCZ]; simp [go_sem, quietTo, Ext.refl, ↓IntWalk.iteOmega, f2, y5]; (all_goals try simp (disch := omega) only [IntWalk.i64_in]); all_goals rfl
  refine fq 4 rfl rfl rfl cK rfl rfl ?_; apply Exists.intro; constructor
  ·intro sv w' hw' hfa
   obtain ⟨hc, hf, hz9⟩ := ((Ext.refl _).drew.trans hw').walk; have y5 := (hc bb 5 lb).trans c5; have x0 := (hc _ 0 lx).trans e0; have x1 := (hc _ 1 lx).trans e1; have hl9 := hlk.out w' ((Ext.refl _).drew.trans hw')
   refine ⟨rfl, ?_⟩; simp only [putsL]; change qT _; simp only [qT, Act.put, sIA, sCS, sCZ]; simp [go_sem, quietTo, Ext.refl, ↓IntWalk.iteOmega, x0, x1]; (all_goals try simp (disch := omega) only [IntWalk.i64_in]); all_goals rfl
  refine fq 5 rfl rfl rfl cK rfl rfl ?_; apply Exists.intro; constructor
  ·rintro sv w' hw' ⟨_, _, _, (f3 : sv 3 = _), (f4 : sv 4 = _), -⟩; (try dsimp only at f3 f4)
   obtain ⟨hc, hf, hz9⟩ := ((Ext.refl _).drew.trans hw').walk; have y5 := (hc bb 5 lb).trans c5; have x0 := (hc _ 0 lx).trans e0; have x1 := (hc _ 1 lx).trans e1; have hl9 := hlk.out w' ((Ext.refl _).drew.trans hw')
   refine ⟨rfl, ?_⟩; simp only [putsL]; change qT (pT (pT (pT (pT (pT _ 12 (sv 4)) 11 (sv 3)) 10 (sv 2)) 9 (sv 1)) 8 (sv 0)); simp only [qT, pT, Act.put, sIA, sCS, sCZ]; simp [go_sem, quietTo, Ext.refl, ↓IntWalk.iteOmega, f3, f4, hl9]; (all_goals try simp (disch := omega) only [IntWalk.i64_in]); all_goals rfl
  refine fq 6 rfl rfl rfl cK rfl rfl ?_; apply Exists.intro; constructor
  ·rintro sv w' hw' ⟨_, _, _, _, _, (f5 : sv 5 = _), -⟩; (try dsimp only at f5)
   refine ⟨rfl, ?_⟩; simp only [putsL]; change qT (pT (pT (pT (pT (pT (pT _ 13 (sv 5)) 12 (sv 4)) 11 (sv 3)) 10 (sv 2)) 9 (sv 1)) 8 (sv 0)); simp only [qT, pT, Act.put, sIA, sCS, sCZ]; simp [go_sem, quietTo, Ext.refl, f5]; all_goals rfl
  refine fq 7 rfl rfl rfl cK rfl rfl ?_; apply Exists.intro; constructor
  ·rintro sv w' hw' ⟨_, _, _, _, _, _, (f6 : sv 6 = _), -⟩; (try dsimp only at f6)
   refine ⟨rfl, ?_⟩; simp only [putsL]; change qT (pT (pT (pT (pT (pT (pT (pT _ 7 (sv 6)) 13 (sv 5)) 12 (sv 4)) 11 (sv 3)) 10 (sv 2)) 9 (sv 1)) 8 (sv 0)); simp only [qT, pT, Act.put, sIA, sCS, sCZ]; simp [go_sem, quietTo, Ext.refl, f6]; all_goals rfl
  refine fq 8 rfl rfl rfl cK rfl rfl ?_; apply Exists.intro; constructor
  ·rintro sv w' hw' ⟨_, _, _, _, _, _, (f6 : sv 6 = _), -⟩; (try dsimp only at f6)
   refine ⟨rfl, ?_⟩; simp only [putsL]; change qT (pT (pT (pT (pT (pT (pT (pT _ 7 (sv 6)) 13 (sv 5)) 12 (sv 4)) 11 (sv 3)) 10 (sv 2)) 9 (sv 1)) 8 (sv 0)); simp only [qT, pT, Act.put, sIA, sCS, sCZ]; simp [go_sem, quietTo, Ext.refl, f6]; all_goals rfl
  refine fq 9 rfl rfl rfl cK rfl rfl ?_; apply Exists.intro; constructor
  ·rintro sv w' hw' ⟨_, _, _, _, _, _, _, (f7 : sv 7 = _), -⟩; (try dsimp only at f7)
   refine ⟨rfl, ?_⟩; simp only [putsL]; change qT (pT (pT (pT (pT (pT (pT (pT (pT _ 14 (sv 7)) 7 (sv 6)) 13 (sv 5)) 12 (sv 4)) 11 (sv 3)) 10 (sv 2)) 9 (sv 1)) 8 (sv 0)); simp only [qT, pT, Act.put, sIA, sCS, sCZ]; simp [go_sem, quietTo, Ext.refl, f7]; all_goals rfl
  refine fq 10 rfl rfl rfl cK rfl rfl ?_; apply Exists.intro; constructor
  ·rintro sv w' hw' ⟨_, _, _, _, _, _, _, (f8 : sv 8 = _), -⟩; (try dsimp only at f8)
   refine ⟨rfl, ?_⟩; simp only [putsL]; change qT (pT (pT (pT (pT (pT (pT (pT (pT _ 15 (sv 8)) 7 (sv 6)) 13 (sv 5)) 12 (sv 4)) 11 (sv 3)) 10 (sv 2)) 9 (sv 1)) 8 (sv 0)); simp only [qT, pT, Act.put, sIA, sCS, sCZ]; simp [go_sem, quietTo, Ext.refl, f8]; all_goals rfl
  refine fac_nil fun xa wra hera hfra hcra holda hapa => ?_
  obtain ⟨(f0 : xa 0 = _), (f1 : xa 1 = _), (f2 : xa 2 = _), (f3 : xa 3 = _), (f4 : xa 4 = _), (f5 : xa 5 = _), (f6 : xa 6 = _), (f7 : xa 7 = _), (f8 : xa 8 = _), (f9 : xa 9 = _), (f10 : xa 10 = _), -⟩ := hfra; (try dsimp only at f0 f1 f2 f3 f4 f5 f6 f7 f8 f9 f10)
  change wpList _ _ _ _ (pT (pT (pT (pT (pT (pT (pT (pT (pT (pT (pT _ 8 (xa 0)) 9 (xa 1)) 10 (xa 2)) 11 (xa 3)) 12 (xa 4)) 13 (xa 5)) 7 (xa 6)) 14 (xa 7)) 15 (xa 8)) 5 (xa 9)) 6 (xa 10)) _
  simp only [putsL, Nat.reduceAdd, List.drop_succ_cons, List.drop_zero, List.drop_nil, pT, Act.put, sIA, sCS, sCZ]
  try simp only [f0, f1, f2, f3, f4, f5, f6, f7, f8, f9, f10]
  clear f0 f1 f2 f3 f4 f5 f6 f7 f8 f9 f10; clear holda hapa
  go_wp2
  go_ret
  exact ⟨rfl, ((Ext.refl _).alloc _).drew.trans hera⟩
end Go.Proofs.YtkjhbofbcmelgaaGreatDoor
