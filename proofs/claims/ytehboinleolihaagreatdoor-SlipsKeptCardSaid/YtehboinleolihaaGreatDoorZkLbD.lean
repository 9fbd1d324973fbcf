/- A library of copies in memory; how a copy is. Conditions: as each theorem says. -/
import Derived.Test.YtehboinleolihaaGreatDoorZkLbC
import Derived.Test.YtehboinleolihaaGreatDoorZkFactsB
set_option linter.unusedSimpArgs false
set_option linter.unusedVariables false
namespace Go.Proofs.YtehboinleolihaaGreatDoor
open Go Go.RowKit Go.Maps
def libC (tp : Option Addr) (tn tc : Nat) (r : LendR) (ms ml mh : Nat) (lv : Value) : Array Value :=
 #[.slice tp tn tc, .int .i64 r.days, .int .i64 r.late, .int .i64 r.most, .int .i64 r.each, .map (some ms), .map (some ml), lv, .map (some mh)]
/-- A library in memory: its loans and what singers have are younger than base. -/
structure LibM (base : Nat) (w : World) (bb ms ml mh q : Nat) (tp : Option Addr) (tn tc : Nat) (r : LendR) (L : LibS) : Prop where
 row : ∃ lv, Blk w bb 145 (libC tp tn tc r ms ml mh lv) ∧ w.ownsRow base 147 6 lv L.loans.length (L.loans.flatMap loanC)
 maps : MapsM base w ms ml mh q L
/-- All stands but the library's four blocks, and what is younger than base. -/
structure KeepL (base bb ms ml mh : Nat) (a w : World) : Prop where
 os : w.os = a.os
 tape : w.tape = a.tape
 output : w.output = a.output
 size : a.heap.size ≤ w.heap.size
 block : ∀ k, k < a.heap.size → k < base → k ≠ bb → k ≠ ms → k ≠ ml → k ≠ mh → w.heap[k]? = a.heap[k]?
section
variable {base bb ms ml mh : Nat} {a w w' : World}
theorem KeepL.refl (a : World) : KeepL base bb ms ml mh a a := ⟨rfl, rfl, rfl, Nat.le_refl _, fun _ _ _ _ _ _ _ => rfl⟩
theorem KeepL.ext (h : KeepL base bb ms ml mh a w) (he : Ext w w') : KeepL base bb ms ml mh a w' :=
 ⟨he.os.trans h.os, he.tape.trans h.tape, he.output.trans h.output, Nat.le_trans h.size he.size, fun k hk h1 h2 h3 h4 h5 => (he.block k (Nat.lt_of_lt_of_le hk h.size)).trans (h.block k hk h1 h2 h3 h4 h5)⟩
theorem KeepL.grown (h : KeepL base bb ms ml mh a w) {m : Nat} (hg : w.grownBy w' (some m)) (hm : m = bb ∨ m = ms ∨ m = ml ∨ m = mh ∨ base ≤ m) : KeepL base bb ms ml mh a w' :=
 ⟨hg.os.trans h.os, hg.tape.trans h.tape, hg.output.trans h.output, Nat.le_trans h.size hg.size, fun k hk h1 h2 h3 h4 h5 => (hg.block k (Nat.lt_of_lt_of_le hk h.size) fun e => by cases e; omega).trans (h.block k hk h1 h2 h3 h4 h5)⟩
theorem KeepL.trans {u : World} (h : KeepL base bb ms ml mh a w) (h' : KeepL base bb ms ml mh w u) : KeepL base bb ms ml mh a u :=
 ⟨h'.os.trans h.os, h'.tape.trans h.tape, h'.output.trans h.output, Nat.le_trans h.size h'.size, fun k hk h1 h2 h3 h4 h5 => (h'.block k (Nat.lt_of_lt_of_le hk h.size) h1 h2 h3 h4 h5).trans (h.block k hk h1 h2 h3 h4 h5)⟩
theorem KeepL.app (h : KeepL base bb ms ml mh a w) {e : TypeId} {k n : Nat} {v : Value} {xs : List Value} (ho : w.ownsRow base e k v n xs) (hg : w.grownBy w' v.ownBlock) : KeepL base bb ms ml mh a w' := by
 cases hv : v.ownBlock with
 | none =>
   rw [hv] at hg
   exact ⟨hg.os.trans h.os, hg.tape.trans h.tape, hg.output.trans h.output, Nat.le_trans h.size hg.size, fun k hk h1 h2 h3 h4 h5 => (hg.block k (Nat.lt_of_lt_of_le hk h.size) (by simp)).trans (h.block k hk h1 h2 h3 h4 h5)⟩
 | some g =>
   rw [hv] at hg
   exact h.grown hg (.inr (.inr (.inr (.inr (ho.lt g hv).1))))
theorem KeepL.set (h : KeepL base bb ms ml mh a w) (o : Nat) (v : Value) : KeepL base bb ms ml mh a (w.setCell ⟨bb, o, none⟩ v) := h.grown (grown_set w ⟨bb, o, none⟩ v) (.inl rfl)
end
section
variable {base : Nat} {w w' : World} {bb ms ml mh q : Nat} {tp : Option Addr} {tn tc : Nat} {r : LendR} {L : LibS}
theorem LibM.ext (h : LibM base w bb ms ml mh q tp tn tc r L) (he : Ext w w') : LibM base w' bb ms ml mh q tp tn tc r L := by
 obtain ⟨⟨lv, hb, ho⟩, hm⟩ := h
 exact ⟨⟨lv, hb.ext he, own_ext he ho⟩, hm.ext he⟩
theorem LibM.le (h : LibM base w bb ms ml mh q tp tn tc r L) {q' : Nat} (hq : q ≤ q') : LibM base w' bb ms ml mh q' tp tn tc r L → LibM base w' bb ms ml mh q' tp tn tc r L := id
theorem LibM.lt (h : LibM base w bb ms ml mh q tp tn tc r L) : bb < w.heap.size := by
 obtain ⟨⟨lv, hb, ho⟩, hm⟩ := h
 exact hb.lt
end
set_option maxRecDepth 100000 in
set_option maxHeartbeats 1600000 in
theorem state_any {base : Nat} {w : World} {bb ms ml mh q : Nat} {tp : Option Addr} {tn tc : Nat} {r : LendR} {L : LibS} (h : LibM base w bb ms ml mh q tp tn tc r L) (p : ByteArray) (no : Int) (hk : okSN (p, no)) :
 Calls Tryz.prog 88 #[.pointer (some ⟨bb, 0, none⟩), .agg #[.string p, .int .i64 no]] w fun e w' => e = .returned (.string (L.at_ (p, no))) ∧ Ext w w' := by
 obtain ⟨lv, hB, -⟩ := (h.ext ((Ext.refl w).alloc (.cells #[.string p, .int .i64 no] 135))).row
 have hS := (h.ext ((Ext.refl w).alloc (.cells #[.string p, .int .i64 no] 135))).maps.st
 have hX := Blk.new' (w := w) (g := w.heap.size) (t := 135) (cs := #[.string p, .int .i64 no]) rfl
 have lb := hB.lt
 have lx := hX.lt
 have c5 := hB.cell 5
 have e0 := hX.cell 0
 have e1 := hX.cell 1
 have hlk : ∀ u, Ext (w.alloc (.cells #[.string p, .int .i64 no] 135)) u → (Instr.lookup 140 (.map (some ms)) (.agg #[.string p, .int .i64 no]) true).run Tryz.prog u = .ok (.tuple #[.string ((L.st (p, no)).getD ⟨#[]⟩), .bool (L.st (p, no)).isSome]) u := fun u hu => (hS.ext hu).look_ok hk
 have ha : L.at_ (p, no) = (L.st (p, no)).getD inW := rfl
 rw [ha]
 clear ha hS h
 generalize L.st (p, no) = sv at *
 replace hlk := Lib.hid hlk; replace hB := Lib.hid hB; replace hX := Lib.hid hX
 unfold libC at c5
 go_enter Tryz.func88, Tryz.ntmps88
 go_upto_region 1 with fail
 cases sv
 all_goals
  refine wp_region_facts [] [([],false,false),([0],false,false),([0,1],false,false),([0,1,2],false,false),([],false,false),([0,1,2,3,4],false,false),([0,1,2,3,4,5],false,false),([0,1,2,3,4,5,6],false,false),([0,1,2,3,4,5,6],false,false),([0,1,2,3,4,5,6,7],false,false),([0,1,2,3,4,5,6,8],false,false)] (Ext) Ext (fun _ => True) (by kernel_rfl) (by kernel_rfl) Ext.refl (fun _ _ _ => Ext.trans) (fun _ _ h => h) (fun _ _ h => h.size) (fun _ _ h _ => h) trivial ?_
  dsimp only [List.length_cons, List.length_nil, List.drop_succ_cons, List.drop_zero, List.drop_nil]
  refine fq 0 rfl rfl rfl cK rfl rfl ?_; apply Exists.intro; constructor
  ·intro sv w' hw' hfa
   refine ⟨rfl, ?_⟩; simp only [putsL]; change qT _; simp only [qT, Act.put, sIA, sCS, sCZ]; simp [go_sem, quietTo, Ext.refl]; all_goals rfl
  refine fq 1 rfl rfl rfl cK rfl rfl ?_; apply Exists.intro; constructor
  ·rintro sv w' hw' ⟨(f0 : sv 0 = _), -⟩; (try dsimp only at f0)
   refine ⟨rfl, ?_⟩; simp only [putsL]; change qT (pT _ 8 (sv 0)); simp only [qT, pT, Act.put, sIA, sCS, sCZ]; simp [go_sem, quietTo, Ext.refl, f0]; all_goals rfl
  refine fq 2 rfl rfl rfl cK rfl rfl ?_; apply Exists.intro; constructor
  ·rintro sv w' hw' ⟨_, (f1 : sv 1 = _), -⟩; (try dsimp only at f1)
   refine ⟨rfl, ?_⟩; simp only [putsL]; change qT (pT (pT _ 9 (sv 1)) 8 (sv 0)); simp only [qT, pT, Act.put, sIA, sCS, sCZ]; simp [go_sem, quietTo, Ext.refl, f1]; all_goals rfl
  refine fq 3 rfl rfl rfl cK rfl rfl ?_; apply Exists.intro; constructor
  ·rintro sv w' hw' ⟨_, _, (f2 : sv 2 = _), -⟩; (try dsimp only at f2)
   obtain ⟨hc, hf, hz9⟩ := ((Ext.refl _).drew.trans hw').walk; have y5 := (hc bb 5 lb).trans c5; have x0 := (hc _ 0 lx).trans e0; have x1 := (hc _ 1 lx).trans e1; have hl9 := hlk.out w' ((Ext.refl _).drew.trans hw')
   refine ⟨rfl, ?_⟩; simp only [putsL]; change qT (pT (pT (pT _ 10 (sv 2)) 9 (sv 1)) 8 (sv 0)); simp only [qT, pT, Act.put, sIA, sCS, sCZ]; simp [go_sem, quietTo, Ext.refl, ↓IntWalk.iteOmega, f2, y5]; (all_goals try simp (disch := omega) only [IntWalk.i64_in]); all_goals rfl
  refine fq 4 rfl rfl rfl cK rfl rfl ?_; apply Exists.intro; constructor
  ·intro sv w' hw' hfa
   obtain ⟨hc, hf, hz9⟩ := ((Ext.refl _).drew.trans hw').walk; have y5 := (hc bb 5 lb).trans c5; have x0 := (hc _ 0 lx).trans e0; have x1 := (hc _ 1 lx).trans e1; have hl9 := hlk.out w' ((Ext.refl _).drew.trans hw')
   refine ⟨rfl, ?_⟩; simp only [putsL]; change qT _; simp only [qT, Act.put, sIA, sCS, sCZ]; simp [go_sem, quietTo, Ext.refl, ↓IntWalk.iteOmega, x0, x1]; (all_goals try simp (disch := omega) only [IntWalk.i64_in]); all_goals rfl
  refine fq 5 rfl rfl rfl cK rfl rfl ?_; apply Exists.intro; constructor
  ·rintro sv w' hw' ⟨_, _, _, (f3 : sv 3 = _), (f4 : sv 4 = _), -⟩; (try dsimp only at f3 f4)
   obtain ⟨hc, hf, hz9⟩ := ((Ext.refl _).drew.trans hw').walk; have y5 := (hc bb 5 lb).trans c5; have x0 := (hc _ 0 lx).trans e0; have x1 := (hc _ 1 lx).trans e1; have hl9 := hlk.out w' ((Ext.refl _).drew.trans hw')
   refine ⟨rfl, ?_⟩; simp only [putsL]; change qT (pT (pT (pT (pT (pT _ 12 (sv 4)) 11 (sv 3)) 10 (sv 2)) 9 (sv 1)) 8 (sv 0)); simp only [qT, pT, Act.put, sIA, sCS, sCZ]; simp [go_sem, quietTo, Ext.refl, ↓IntWalk.iteOmega, f3, f4, hl9]; (all_goals try simp (disch := omega) only [IntWalk.i64_in]); all_goals rfl
  refine fq 6 rfl rfl rfl cK rfl rfl ?_; apply Exists.intro; constructor
  ·rintro sv w' hw' ⟨_, _, _, _, _, (f5 : sv 5 = _), -⟩; (try dsimp only at f5)
   refine ⟨rfl, ?_⟩; simp only [putsL]; change qT (pT (pT (pT (pT (pT (pT _ 13 (sv 5)) 12 (sv 4)) 11 (sv 3)) 10 (sv 2)) 9 (sv 1)) 8 (sv 0)); simp only [qT, pT, Act.put, sIA, sCS, sCZ]; simp [go_sem, quietTo, Ext.refl, f5]; all_goals rfl
  refine fq 7 rfl rfl rfl cK rfl rfl ?_; apply Exists.intro; constructor
  ·rintro sv w' hw' ⟨_, _, _, _, _, _, (f6 : sv 6 = _), -⟩; (try dsimp only at f6)
   refine ⟨rfl, ?_⟩; simp only [putsL]; change qT (pT (pT (pT (pT (pT (pT (pT _ 7 (sv 6)) 13 (sv 5)) 12 (sv 4)) 11 (sv 3)) 10 (sv 2)) 9 (sv 1)) 8 (sv 0)); simp only [qT, pT, Act.put, sIA, sCS, sCZ]; simp [go_sem, quietTo, Ext.refl, f6]; all_goals rfl
  refine fq 8 rfl rfl rfl cK rfl rfl ?_; apply Exists.intro; constructor
  ·rintro sv w' hw' ⟨_, _, _, _, _, _, (f6 : sv 6 = _), -⟩; (try dsimp only at f6)
   refine ⟨rfl, ?_⟩; simp only [putsL]; change qT (pT (pT (pT (pT (pT (pT (pT _ 7 (sv 6)) 13 (sv 5)) 12 (sv 4)) 11 (sv 3)) 10 (sv 2)) 9 (sv 1)) 8 (sv 0)); simp only [qT, pT, Act.put, sIA, sCS, sCZ]; simp [go_sem, quietTo, Ext.refl, f6]; all_goals rfl
  refine fq 9 rfl rfl rfl cK rfl rfl ?_; apply Exists.intro; constructor
  ·rintro sv w' hw' ⟨_, _, _, _, _, _, _, (f7 : sv 7 = _), -⟩; (try dsimp only at f7)
   refine ⟨rfl, ?_⟩; simp only [putsL]; change qT (pT (pT (pT (pT (pT (pT (pT (pT _ 14 (sv 7)) 7 (sv 6)) 13 (sv 5)) 12 (sv 4)) 11 (sv 3)) 10 (sv 2)) 9 (sv 1)) 8 (sv 0)); simp only [qT, pT, Act.put, sIA, sCS, sCZ]; simp [go_sem, quietTo, Ext.refl, f7]; all_goals rfl
  refine fq 10 rfl rfl rfl cK rfl rfl ?_; apply Exists.intro; constructor
  ·rintro sv w' hw' ⟨_, _, _, _, _, _, _, (f8 : sv 8 = _), -⟩; (try dsimp only at f8)
   refine ⟨rfl, ?_⟩; simp only [putsL]; change qT (pT (pT (pT (pT (pT (pT (pT (pT _ 15 (sv 8)) 7 (sv 6)) 13 (sv 5)) 12 (sv 4)) 11 (sv 3)) 10 (sv 2)) 9 (sv 1)) 8 (sv 0)); simp only [qT, pT, Act.put, sIA, sCS, sCZ]; simp [go_sem, quietTo, Ext.refl, f8]; all_goals rfl
  refine fac_nil fun xa wra hera hfra hcra holda hapa => ?_
  obtain ⟨(f0 : xa 0 = _), (f1 : xa 1 = _), (f2 : xa 2 = _), (f3 : xa 3 = _), (f4 : xa 4 = _), (f5 : xa 5 = _), (f6 : xa 6 = _), (f7 : xa 7 = _), (f8 : xa 8 = _), (f9 : xa 9 = _), (f10 : xa 10 = _), -⟩ := hfra; (try dsimp only at f0 f1 f2 f3 f4 f5 f6 f7 f8 f9 f10)
  change wpList _ _ _ _ (pT (pT (pT (pT (pT (pT (pT (pT (pT (pT (pT _ 8 (xa 0)) 9 (xa 1)) 10 (xa 2)) 11 (xa 3)) 12 (xa 4)) 13 (xa 5)) 7 (xa 6)) 14 (xa 7)) 15 (xa 8)) 5 (xa 9)) 6 (xa 10)) _
  simp only [putsL, Nat.reduceAdd, List.drop_succ_cons, List.drop_zero, List.drop_nil, pT, Act.put, sIA, sCS, sCZ]
  try simp only [f0, f1, f2, f3, f4, f5, f6, f7, f8, f9, f10]
  clear f0 f1 f2 f3 f4 f5 f6 f7 f8 f9 f10; clear holda hapa
  go_wp2
  go_ret
  exact ⟨rfl, ((Ext.refl _).alloc _).drew.trans hera⟩
end Go.Proofs.YtehboinleolihaaGreatDoor
