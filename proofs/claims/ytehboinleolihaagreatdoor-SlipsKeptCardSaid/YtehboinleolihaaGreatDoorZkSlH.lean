/- A line is read. Conditions: sizes. -/
import Derived.Test.YtehboinleolihaaGreatDoorZkSlE
set_option linter.unusedSimpArgs false
set_option linter.unusedVariables false
namespace Go.Proofs.YtehboinleolihaaGreatDoor
open Go Go.RowKit
theorem kindI_idx (w : ByteArray) : ∀ (L : List ByteArray) (i : Nat), Lib.idxFromS L w i = kindI w i L
 | [], _ => rfl
 | x :: r, i => by
   unfold Lib.idxFromS kindI
   rw [kindI_idx w r (i + 1)]
theorem index_call (g : Nat) (x : ByteArray) (w : World) (h : Blk w g 9 kindCells) :
 Calls Tryz.prog 163 #[.slice (some ⟨g, 0, none⟩) 6 6, .string x] w fun e w' => e = .returned (.int .i64 (kindI x 0 kindW)) ∧ Ext w w' := by
 have hc : ∀ j, j < kindW.length → w.cell? ⟨g, 0 + j, none⟩ = some (.string (kindW.getD j ByteArray.empty)) := fun j hj => by
  rw [Nat.zero_add, h.cell, kindCells_at (show j < 6 from hj)]
  rfl
 refine (Tryz.slices_Index_string g 0 6 6 kindW x w (by decide) (by decide) hc).mono fun e w' h => ⟨?_, h.2 ▸ Ext.refl _⟩
 rw [h.1]
 show Ending.returned (.int .i64 (Lib.idxFromS (kindW.take 6) x 0)) = _
 rw [show kindW.take 6 = kindW from rfl, kindI_idx]
theorem results_rowT {P : Program} {fn : Func} {p q : Tmp} {ty : TypeId} (h : fn.results = #[.cell p ty, .tmp q]) (tmps : Array Value) (w : World) (g : Nat) (t : TypeId) (cs : Array Value) (fr : Nat × Nat) (d : TypeDesc)
 (hp : tmps.getD p undef = .pointer (some ⟨g, 0, none⟩)) (hg : w.heap[g]? = some (.cells cs t fr))
 (hu : P.underlying ty = some d) (hd : (match d with | .struct _ | .array _ _ => true | _ => false) = true) (hi : (P.info? ty).map (·.size) = some cs.size) (v : Value) (hq : tmps.getD q undef = v) :
 (results fn tmps).run P w = .ok (.tuple #[.agg cs, v]) w := by
 have hp' : tmps[p]?.getD undef = .pointer (some ⟨g, 0, none⟩) := by simpa using hp
 have hq' : tmps[q]?.getD undef = v := by simpa using hq
 simp [results, h, hp', hq', asAddr, run_loadVar_row w g t ty cs fr d hg hu hd hi]
def ReadP (l : List UInt8) (e : Ending) : Prop := ∃ (x : SlipV) (ok : Bool), e = .returned (.tuple #[.agg #[.string x.by_, .int .i64 x.no, .int .i64 x.at_, .int .i64 x.kind, .string x.piece, .int .i64 x.copy, .string x.singer], .bool ok]) ∧ lineF l = (if ok then some x else none)
theorem readP {l : List UInt8} {x : SlipV} {ok : Bool} (h : lineF l = if ok then some x else none) : ReadP l (.returned (.tuple #[.agg #[.string x.by_, .int .i64 x.no, .int .i64 x.at_, .int .i64 x.kind, .string x.piece, .int .i64 x.copy, .string x.singer], .bool ok])) := ⟨x, ok, rfl, h⟩
def set7 (w : World) (g : Nat) (x : SlipV) : World := ((((((w.setCell ⟨g, 0, none⟩ (.string x.by_)).setCell ⟨g, 1, none⟩ (.int .i64 x.no)).setCell ⟨g, 2, none⟩ (.int .i64 x.at_)).setCell ⟨g, 3, none⟩ (.int .i64 x.kind)).setCell ⟨g, 4, none⟩ (.string x.piece)).setCell ⟨g, 5, none⟩ (.int .i64 x.copy)).setCell ⟨g, 6, none⟩ (.string x.singer)
theorem set7_blk {w : World} {g : Nat} {x : SlipV} (h : Blk w g 79 #[.string ⟨#[]⟩, .int .i64 0, .int .i64 0, .int .i64 0, .string ⟨#[]⟩, .int .i64 0, .string ⟨#[]⟩]) : Blk (set7 w g x) g 79 #[.string x.by_, .int .i64 x.no, .int .i64 x.at_, .int .i64 x.kind, .string x.piece, .int .i64 x.copy, .string x.singer] := by
 unfold set7
 refine Blk.cast (((((((h.set_ 0 _).set_ 1 _).set_ 2 _).set_ 3 _).set_ 4 _).set_ 5 _).set_ 6 _) ?_
 simp
theorem set7_ext {a w : World} {g : Nat} {x : SlipV} (h : Ext a w) (hg : a.heap.size ≤ g) : Ext a (set7 w g x) := by
 unfold set7
 exact ((((((h.setCell hg _).setCell hg _).setCell hg _).setCell hg _).setCell hg _).setCell hg _).setCell hg _
theorem slip_end {R : Ending → World → Prop} {a : Act} {W : World} {g : Nat} (x : SlipV) {ok : Bool} (hB : Blk W g 79 #[.string ⟨#[]⟩, .int .i64 0, .int .i64 0, .int .i64 0, .string ⟨#[]⟩, .int .i64 0, .string ⟨#[]⟩]) (h2 : a.tmps.getD 2 undef = .pointer (some ⟨g, 0, none⟩)) (h3 : a.tmps.getD 3 undef = .bool ok) (hd : a.defers = [])
 (hR : R (.returned (.tuple #[.agg #[.string x.by_, .int .i64 x.no, .int .i64 x.at_, .int .i64 x.kind, .string x.piece, .int .i64 x.copy, .string x.singer], .bool ok])) (set7 W g x)) : bodyPost Tryz.prog Tryz.f159 R .ret a (set7 W g x) :=
 bodyPost_ret (results_rowT Tryz.results159 _ _ g 79 _ (0,0) _ h2 (set7_blk hB) Tryz.underlying79 rfl (by kernel_rfl) _ h3) hd hR
theorem set7_far {w : World} {g h : Nat} {t : TypeId} {cs : Array Value} {x : SlipV} (hB : Blk w g t cs) (hn : g ≠ h) : Blk (set7 w h x) g t cs := by
 unfold set7
 exact ((((((hB.far (p := ⟨h, 0, none⟩) (by simp; omega) _).far (p := ⟨h, 1, none⟩) (by simp; omega) _).far (p := ⟨h, 2, none⟩) (by simp; omega) _).far (p := ⟨h, 3, none⟩) (by simp; omega) _).far (p := ⟨h, 4, none⟩) (by simp; omega) _).far (p := ⟨h, 5, none⟩) (by simp; omega) _).far (p := ⟨h, 6, none⟩) (by simp; omega) _
set_option maxRecDepth 100000 in
set_option maxHeartbeats 6400000 in
theorem readLine_any (B : Nat) (s : ByteArray) (w : World) (hs : s.size ≤ 1000000) (hm : MaxL B w) :
 Calls Tryz.prog 159 #[.string s] w fun e w' => ReadP s.data.toList e ∧ Ext w w' := by
 have hsl : s.data.toList.length = s.size := Array.length_toList
 have hZ : Ext w (w.alloc (.cells #[.string ⟨#[]⟩, .int .i64 0, .int .i64 0, .int .i64 0, .string ⟨#[]⟩, .int .i64 0, .string ⟨#[]⟩] 79)) := (Ext.refl _).alloc _
 have hZB := Lib.hid (Blk.new' (w := w) (t := 79) (cs := #[.string ⟨#[]⟩, .int .i64 0, .int .i64 0, .int .i64 0, .string ⟨#[]⟩, .int .i64 0, .string ⟨#[]⟩]) rfl)
 have hm1 := hm.ext hZ
 by_cases hE : ∃ x ∈ wordsL s.data.toList, x = ⟨#[]⟩
 ·have hF : lineF s.data.toList = none := by unfold lineF; rw [if_pos (.inl hE)]
  have hwb := words_bad s B _ (by omega) hm1 hE
  replace hwb := Lib.hid hwb; replace hF := Lib.hid hF; clear hE
  go_enter Tryz.func159, Tryz.ntmps159
  go_wp2_with (go_at_call 220; (with_reducible refine Calls.mono hwb.out ?_); rintro e w1 ⟨rfl, hb1⟩; have hz := hZB.out.ext hb1; obtain ⟨p1, q1⟩ := hz.walk; have l1 := hz.lt)
  refine slip_end default hz rfl rfl rfl ⟨readP (by rw [hF.out]; rfl), set7_ext (hZ.trans hb1) (Nat.le_refl _)⟩
 have hwb := words_row s B _ (by omega) hm1 fun x hx e => hE ⟨x, hx, e⟩
 have hwz : ∀ x ∈ wordsL s.data.toList, x.size ≤ 1000000 := fun x hx => by have := wordsL_size hx; omega
 have hL6 : (wordsL s.data.toList).length ≤ 1000001 := by have := splitW_most 32 s.data.toList; change (wordsL s.data.toList).length ≤ _ at this; omega
 have hlF : lineF s.data.toList = lineF s.data.toList := rfl
 conv at hlF => rhs; unfold lineF
 replace hE := Lib.hid hE
 generalize hW : wordsL s.data.toList = W at *
 replace hlF := Lib.hid hlF
 by_cases hlen : W.length < 6
 ·have hF : lineF s.data.toList = none := by rw [hlF.out, if_pos (.inr hlen)]
  replace hwb := Lib.hid hwb; replace hF := Lib.hid hF
  have hlt : (W.length : Int) < 6 := by omega
  go_enter Tryz.func159, Tryz.ntmps159
  go_wp2_with (go_at_call 220; (with_reducible refine Calls.mono hwb.out ?_); rintro e w1 ⟨rfl, hR0, hb1⟩; have hz := hZB.out.ext hb1; obtain ⟨p1, q1⟩ := hz.walk; have l1 := hz.lt; have hR : Blk w1 (w.heap.size + 1) 9 _ := (by simpa using hR0))
  refine slip_end default hz rfl rfl rfl ⟨readP (by rw [hF.out]; rfl), set7_ext (hZ.trans hb1) (Nat.le_refl _)⟩
 have hlt : ¬ (W.length : Int) < 6 := by omega
 obtain ⟨y0, e0⟩ := getD_some (rfl : W.length = W.length) (show 0 < W.length by omega)
 obtain ⟨y1, e1⟩ := getD_some (rfl : W.length = W.length) (show 1 < W.length by omega)
 obtain ⟨y2, e2⟩ := getD_some (rfl : W.length = W.length) (show 2 < W.length by omega)
 obtain ⟨y3, e3⟩ := getD_some (rfl : W.length = W.length) (show 3 < W.length by omega)
 obtain ⟨y4, e4⟩ := getD_some (rfl : W.length = W.length) (show 4 < W.length by omega)
 obtain ⟨y5, e5⟩ := getD_some (rfl : W.length = W.length) (show 5 < W.length by omega)
 have d0 : ∀ {i : Nat} {y : ByteArray}, W[i]? = some y → W.getD i ⟨#[]⟩ = y := fun h => by rw [List.getD_eq_getElem?_getD, h]; rfl
 have hlG : lineF s.data.toList = if (numOk 15 y1 && numOk 15 y2 && numOk 15 y5) = false ∨ kindI y3 0 kindW < 1 then none else
  if kindI y3 0 kindW = 1 then (if W.length = 7 then some ⟨y0, numV y1, numV y2,1, y4, numV y5, W.getD 6 ⟨#[]⟩⟩ else none)
  else if W.length = 6 then some ⟨y0, numV y1, numV y2, kindI y3 0 kindW, y4, numV y5, ⟨#[]⟩⟩ else none := by
  rw [hlF.out, if_neg (fun e => e.elim hE.out hlen)]
  simp only [d0 e0, d0 e1, d0 e2, d0 e3, d0 e4, d0 e5]
 replace hlG := Lib.hid hlG
 have s1 := hwz y1 (List.mem_of_getElem? e1)
 have s2 := hwz y2 (List.mem_of_getElem? e2)
 have s5 := hwz y5 (List.mem_of_getElem? e5)
 replace hwb := Lib.hid hwb; replace e0 := Lib.hid e0; replace e1 := Lib.hid e1; replace e2 := Lib.hid e2; replace e3 := Lib.hid e3; replace e4 := Lib.hid e4; replace e5 := Lib.hid e5; clear d0 hlF
 have hI1 : (1 : Int) < W.length := by omega
 have hI2 : (2 : Int) < W.length := by omega
 have hI3 : (3 : Int) < W.length := by omega
 have hI4 : (4 : Int) < W.length := by omega
 have hI5 : (5 : Int) < W.length := by omega
 go_enter Tryz.func159, Tryz.ntmps159
 go_upto_region 4 with (go_at_call 220; (with_reducible refine Calls.mono hwb.out ?_); rintro e w1 ⟨rfl, hR0, hb1⟩; have hz := hZB.out.ext hb1; obtain ⟨p1, q1⟩ := hz.walk; have l1 := hz.lt; have hR : Blk w1 (w.heap.size + 1) 9 _ := (by simpa using hR0))
 have hEw := hZ.trans hb1
 clear p1 q1 l1 hb1 hR0
 by_cases hN : (numOk 15 y1 && numOk 15 y2 && numOk 15 y5) = false
 ·have hN3 : ∃ x ∈ [y1, y2, y5], numOk 15 x = false := by
   refine Classical.byContradiction fun hx => ?_
   have h1 : ∀ x ∈ [y1, y2, y5], numOk 15 x = true := fun x hm => by
    cases hb : numOk 15 x with
    | true => rfl
    | false => exact absurd ⟨x, hm, hb⟩ hx
   rw [h1 y1 (by simp), h1 y2 (by simp), h1 y5 (by simp)] at hN
   cases hN
  have hN4 : ∀ x ∈ [y1, y2, y5], x.size ≤ 1000000 := by
   intro x hx
   simp only [List.mem_cons, List.not_mem_nil, or_false] at hx
   rcases hx with rfl | rfl | rfl
   ·exact s1
   ·exact s2
   ·exact s5
  have hF : lineF s.data.toList = none := by rw [hlG.out, if_pos (.inl hN)]
  replace hF := Lib.hid hF; replace hN := Lib.hid hN
  refine wp_region_facts [13] [([],false,false),([0],false,false),([0,1],false,false),([],false,false),([3],false,false),([3,4],false,false),([],false,false),([6],false,false),([6,7],false,false),([0,1,2,3,4,5,6,7,8], false, true),([0,1,2,3,4,5,6,7,8,9],false,false),([0,1,2,3,4,5,6,7,8,9,10],false,false),([0,1,2,3,4,5,6,7,8,9,10,11],false,false),([0,1,2,3,4,5,6,7,8,9,10,11],false,false)] (Ext) Ext (fun _ => True) (by kernel_rfl) (by kernel_rfl) Ext.refl (fun _ _ _ => Ext.trans) (fun _ _ h => h) (fun _ _ h => h.size) (fun _ _ h _ => h) trivial ?_
  dsimp only [List.length_cons, List.length_nil, List.drop_succ_cons, List.drop_zero, List.drop_nil]
  refine fq 0 rfl rfl rfl cK rfl rfl ?_; apply Exists.intro; constructor
  ·intro sv w' hw' hfa
   refine ⟨rfl, ?_⟩; simp only [putsL]; change qT _; simp only [qT, Act.put, sIA, sCS, sCZ]; simp [go_sem, quietTo, Ext.refl]; all_goals rfl
  refine fq 1 rfl rfl rfl cK rfl rfl ?_; apply Exists.intro; constructor
  ·rintro sv w' hw' ⟨(f0 : sv 0 = _), -⟩; (try dsimp only at f0)
   have hk9 := (Ext.refl w1).drew.trans hw'; have hR9 := hR.ext hk9; have x1 := cell_of_row hR9 e1.out; have x2 := cell_of_row hR9 e2.out; have x5 := cell_of_row hR9 e5.out
   refine ⟨rfl, ?_⟩; simp only [putsL]; change qT (pT _ 23 (sv 0)); simp only [qT, pT, Act.put, sIA, sCS, sCZ]; simp [go_sem, quietTo, Ext.refl, ↓IntWalk.iteOmega, f0, hI1]; (all_goals try simp (disch := omega) only [IntWalk.i64_in]); all_goals rfl
  refine fq 2 rfl rfl rfl cK rfl rfl ?_; apply Exists.intro; constructor
  ·rintro sv w' hw' ⟨_, (f1 : sv 1 = _), -⟩; (try dsimp only at f1)
   have hk9 := (Ext.refl w1).drew.trans hw'; have hR9 := hR.ext hk9; have x1 := cell_of_row hR9 e1.out; have x2 := cell_of_row hR9 e2.out; have x5 := cell_of_row hR9 e5.out
   refine ⟨rfl, ?_⟩; simp only [putsL]; change qT (pT (pT _ 24 (sv 1)) 23 (sv 0)); simp only [qT, pT, Act.put, sIA, sCS, sCZ]; simp [go_sem, quietTo, Ext.refl, ↓IntWalk.iteOmega, f1, x1]; (all_goals try simp (disch := omega) only [IntWalk.i64_in]); all_goals rfl
  refine fq 3 rfl rfl rfl cK rfl rfl ?_; apply Exists.intro; constructor
  ·intro sv w' hw' hfa
   refine ⟨rfl, ?_⟩; simp only [putsL]; change qT _; simp only [qT, Act.put, sIA, sCS, sCZ]; simp [go_sem, quietTo, Ext.refl]; all_goals rfl
  refine fq 4 rfl rfl rfl cK rfl rfl ?_; apply Exists.intro; constructor
  ·rintro sv w' hw' ⟨(f3 : sv 3 = _), -⟩; (try dsimp only at f3)
   have hk9 := (Ext.refl w1).drew.trans hw'; have hR9 := hR.ext hk9; have x1 := cell_of_row hR9 e1.out; have x2 := cell_of_row hR9 e2.out; have x5 := cell_of_row hR9 e5.out
   refine ⟨rfl, ?_⟩; simp only [putsL]; change qT (pT _ 26 (sv 3)); simp only [qT, pT, Act.put, sIA, sCS, sCZ]; simp [go_sem, quietTo, Ext.refl, ↓IntWalk.iteOmega, f3, hI2]; (all_goals try simp (disch := omega) only [IntWalk.i64_in]); all_goals rfl
  refine fq 5 rfl rfl rfl cK rfl rfl ?_; apply Exists.intro; constructor
  ·rintro sv w' hw' ⟨_, (f4 : sv 4 = _), -⟩; (try dsimp only at f4)
   have hk9 := (Ext.refl w1).drew.trans hw'; have hR9 := hR.ext hk9; have x1 := cell_of_row hR9 e1.out; have x2 := cell_of_row hR9 e2.out; have x5 := cell_of_row hR9 e5.out
   refine ⟨rfl, ?_⟩; simp only [putsL]; change qT (pT (pT _ 27 (sv 4)) 26 (sv 3)); simp only [qT, pT, Act.put, sIA, sCS, sCZ]; simp [go_sem, quietTo, Ext.refl, ↓IntWalk.iteOmega, f4, x2]; (all_goals try simp (disch := omega) only [IntWalk.i64_in]); all_goals rfl
  refine fq 6 rfl rfl rfl cK rfl rfl ?_; apply Exists.intro; constructor
  ·intro sv w' hw' hfa
   refine ⟨rfl, ?_⟩; simp only [putsL]; change qT _; simp only [qT, Act.put, sIA, sCS, sCZ]; simp [go_sem, quietTo, Ext.refl]; all_goals rfl
  refine fq 7 rfl rfl rfl cK rfl rfl ?_; apply Exists.intro; constructor
  ·rintro sv w' hw' ⟨(f6 : sv 6 = _), -⟩; (try dsimp only at f6)
   have hk9 := (Ext.refl w1).drew.trans hw'; have hR9 := hR.ext hk9; have x1 := cell_of_row hR9 e1.out; have x2 := cell_of_row hR9 e2.out; have x5 := cell_of_row hR9 e5.out
   refine ⟨rfl, ?_⟩; simp only [putsL]; change qT (pT _ 29 (sv 6)); simp only [qT, pT, Act.put, sIA, sCS, sCZ]; simp [go_sem, quietTo, Ext.refl, ↓IntWalk.iteOmega, f6, hI5]; (all_goals try simp (disch := omega) only [IntWalk.i64_in]); all_goals rfl
  refine fq 8 rfl rfl rfl cK rfl rfl ?_; apply Exists.intro; constructor
  ·rintro sv w' hw' ⟨_, (f7 : sv 7 = _), -⟩; (try dsimp only at f7)
   have hk9 := (Ext.refl w1).drew.trans hw'; have hR9 := hR.ext hk9; have x1 := cell_of_row hR9 e1.out; have x2 := cell_of_row hR9 e2.out; have x5 := cell_of_row hR9 e5.out
   refine ⟨rfl, ?_⟩; simp only [putsL]; change qT (pT (pT _ 30 (sv 7)) 29 (sv 6)); simp only [qT, pT, Act.put, sIA, sCS, sCZ]; simp [go_sem, quietTo, Ext.refl, ↓IntWalk.iteOmega, f7, x5]; (all_goals try simp (disch := omega) only [IntWalk.i64_in]); all_goals rfl
  refine fac_row 9 rfl rfl rfl cK (fun _ _ h => h.size) (fun _ _ _ _ _ he _ hb => hb.ext he) ?_
  apply Exists.intro
  apply Exists.intro
  apply Exists.intro
  apply Exists.intro
  refine ⟨fun sv w' hw' hfa => ?_, ?_⟩
  ·obtain ⟨_, _, (f2 : sv 2 = _), _, _, (f5 : sv 5 = _), _, _, (f8 : sv 8 = _), -⟩ := hfa; (try dsimp only at f2 f5 f8)
   refine ⟨rfl, ?_⟩; simp only [putsL]; change rowTo _ _ _ _ _ (Sem.run _ (execOp (Act.eval (pT (pT (pT (pT (pT (pT (pT (pT (pT _ 31 (sv 8)) 30 (sv 7)) 29 (sv 6)) 28 (sv 5)) 27 (sv 4)) 26 (sv 3)) 25 (sv 2)) 24 (sv 1)) 23 (sv 0))) _) _); (try simp only [pT, Act.put, sIA, sCS, sCZ]); simp [go_sem, rowTo, Ext.refl, f2, f5, f8]; (all_goals try simp (disch := omega) only [IntWalk.i64_in]); all_goals first | rfl | exact ⟨rfl, rfl⟩ | exact ⟨⟨rfl, rfl⟩, rfl⟩
  refine fq 10 rfl rfl rfl cK rfl rfl ?_; apply Exists.intro; constructor
  ·rintro sv w' hw' ⟨(f0 : sv 0 = _), (f1 : sv 1 = _), (f2 : sv 2 = _), (f3 : sv 3 = _), (f4 : sv 4 = _), (f5 : sv 5 = _), (f6 : sv 6 = _), (f7 : sv 7 = _), (f8 : sv 8 = _), f9, -⟩; (try dsimp only at f0 f1 f2 f3 f4 f5 f6 f7 f8)
   obtain ⟨g9, f9, l9, b9⟩ := f9; replace f9 : sv 9 = _ := f9; obtain ⟨p9, q9⟩ := b9.walk
   have hk9 := (Ext.refl w1).drew.trans hw'; have hR9 := hR.ext hk9; have x1 := cell_of_row hR9 e1.out; have x2 := cell_of_row hR9 e2.out; have x5 := cell_of_row hR9 e5.out
   refine ⟨rfl, ?_⟩; simp only [putsL]; change qT (pT (pT (pT (pT (pT (pT (pT (pT (pT (pT _ 32 (sv 9)) 31 (sv 8)) 30 (sv 7)) 29 (sv 6)) 28 (sv 5)) 27 (sv 4)) 26 (sv 3)) 25 (sv 2)) 24 (sv 1)) 23 (sv 0)); simp only [qT, pT, Act.put, sIA, sCS, sCZ]; simp [go_sem, quietTo, Ext.refl, ↓IntWalk.iteOmega, f9, p9, q9]
   all_goals try simp (disch := omega) only [IntWalk.i64_in]
   all_goals first
    | rfl
    | (exact nums_bad g9 3 3 [y1, y2, y5] _ (fun j x hx => by rw [Nat.zero_add]; exact cell_of_row (W := [y1, y2, y5]) b9 hx) b9.lt rfl (by omega) hN4 hN3)
  refine fq 11 rfl rfl rfl cK rfl rfl ?_; apply Exists.intro; constructor
  ·rintro sv w' hw' ⟨_, _, _, _, _, _, _, _, _, _, (f10 : sv 10 = _), -⟩; (try dsimp only at f10)
   refine ⟨rfl, ?_⟩; simp only [putsL]; change qT (pT (pT (pT (pT (pT (pT (pT (pT (pT (pT (pT _ 33 (sv 10)) 32 (sv 9)) 31 (sv 8)) 30 (sv 7)) 29 (sv 6)) 28 (sv 5)) 27 (sv 4)) 26 (sv 3)) 25 (sv 2)) 24 (sv 1)) 23 (sv 0)); simp only [qT, pT, Act.put, sIA, sCS, sCZ]; simp [go_sem, quietTo, Ext.refl, f10]; all_goals rfl
  refine fq 12 rfl rfl rfl cK rfl rfl ?_; apply Exists.intro; constructor
  ·rintro sv w' hw' ⟨_, _, _, _, _, _, _, _, _, _, _, (f11 : sv 11 = _), -⟩; (try dsimp only at f11)
   refine ⟨rfl, ?_⟩; simp only [putsL]; change qT (pT (pT (pT (pT (pT (pT (pT (pT (pT (pT (pT (pT _ 22 (sv 11)) 33 (sv 10)) 32 (sv 9)) 31 (sv 8)) 30 (sv 7)) 29 (sv 6)) 28 (sv 5)) 27 (sv 4)) 26 (sv 3)) 25 (sv 2)) 24 (sv 1)) 23 (sv 0)); simp only [qT, pT, Act.put, sIA, sCS, sCZ]; simp [go_sem, quietTo, Ext.refl, f11]; all_goals rfl
  refine fac_late 13 rfl rfl Ext.refl cK rfl rfl (fun _ _ _ _ h => h) ?_; apply Exists.intro; constructor
  ·rintro sv w' hw' ⟨_, _, _, _, _, _, _, _, _, _, _, (f11 : sv 11 = _), -⟩; (try dsimp only at f11)
   refine ⟨rfl, fun w2 => ?_⟩
   simp only [putsL]
   change pureTo _ _ (Sem.run _ (execOp (Act.eval (Act.put (Act.put (Act.put (Act.put (Act.put (Act.put (Act.put (Act.put (Act.put (Act.put (Act.put (Act.put _ (some 22) (sv 11)) (some 33) (sv 10)) (some 32) (sv 9)) (some 31) (sv 8)) (some 30) (sv 7)) (some 29) (sv 6)) (some 28) (sv 5)) (some 27) (sv 4)) (some 26) (sv 3)) (some 25) (sv 2)) (some 24) (sv 1)) (some 23) (sv 0))) _) _)
   try simp only [Act.put, sIA, sCS, sCZ]
   simp [go_sem, pureTo, f11]
   (all_goals try simp (disch := omega) only [IntWalk.i64_in]); all_goals rfl
  refine fac_nil fun xa wra hera hfra hcra holda hapa => ?_
  obtain ⟨(f0 : xa 0 = _), (f1 : xa 1 = _), (f2 : xa 2 = _), (f3 : xa 3 = _), (f4 : xa 4 = _), (f5 : xa 5 = _), (f6 : xa 6 = _), (f7 : xa 7 = _), (f8 : xa 8 = _), f9, (f10 : xa 10 = _), (f11 : xa 11 = _), (f12 : xa 12 = _), (f13 : xa 13 = _), -⟩ := hfra; (try dsimp only at f0 f1 f2 f3 f4 f5 f6 f7 f8 f10 f11 f12 f13)
  obtain ⟨g9, f9, l9, b9⟩ := f9; replace f9 : xa 9 = _ := f9; obtain ⟨p9, q9⟩ := b9.walk
  change wpList _ _ _ _ (pT (pT (pT (pT (pT (pT (pT (pT (pT (pT (pT (pT (pT (pT _ 23 (xa 0)) 24 (xa 1)) 25 (xa 2)) 26 (xa 3)) 27 (xa 4)) 28 (xa 5)) 29 (xa 6)) 30 (xa 7)) 31 (xa 8)) 32 (xa 9)) 33 (xa 10)) 22 (xa 11)) 34 (xa 12)) 35 (xa 13)) _
  simp only [putsL, Nat.reduceAdd, List.drop_succ_cons, List.drop_zero, List.drop_nil, pT, Act.put, sIA, sCS, sCZ]
  try simp only [f0, f1, f2, f3, f4, f5, f6, f7, f8, f9, f10, f11, f12, f13]
  clear f0 f1 f2 f3 f4 f5 f6 f7 f8 f10 f11 f12 f13; clear holda hapa
  have hka := (Ext.refl w1).drew.trans hera
  have hRa := hR.ext hka
  have hza := hz.ext hka
  have hEa := hEw.trans hka
  have hidx := fun g u h => index_call g y3 u h
  generalize kindI y3 0 kindW = K at *
  replace hidx := Lib.hid hidx; clear hR hz
  go_upto_region 5 with fail
  refine wp_region_facts [] [([], false, true),([],false,false),([1],false,false),([1,2],false,false),([0,1,2,3],false,false),([0,1,2,3,4],false,false)] (Ext) Ext (fun _ => True) (by kernel_rfl) (by kernel_rfl) Ext.refl (fun _ _ _ => Ext.trans) (fun _ _ h => h) (fun _ _ h => h.size) (fun _ _ h _ => h) trivial ?_
  dsimp only [List.length_cons, List.length_nil, List.drop_succ_cons, List.drop_zero, List.drop_nil]
  refine fac_callS 0 rfl rfl rfl cK (fun _ _ h => h.size) (fun _ _ _ _ _ he _ hb => hb.ext he) ?_
  apply Exists.intro
  apply Exists.intro
  apply Exists.intro
  apply Exists.intro
  refine ⟨fun sv w' hw' hfa => ?_, ?_⟩
  ·have hk9 := (Ext.refl wra).drew.trans hw'; have hR9 := hRa.ext hk9; have x3 := cell_of_row hR9 e3.out
   refine ⟨rfl, ?_⟩
   simp only [putsL]
   change outc _ _ (Sem.run _ (execOp (Act.eval _) _) _)
   try simp only [Act.put, sIA, sCS, sCZ]
   simp [go_sem, outc]
   exact kindWo_fresh _
  refine fq 1 rfl rfl rfl cK rfl rfl ?_; apply Exists.intro; constructor
  ·intro sv w' hw' hfa
   refine ⟨rfl, ?_⟩; simp only [putsL]; change qT _; simp only [qT, Act.put, sIA, sCS, sCZ]; simp [go_sem, quietTo, Ext.refl]; all_goals rfl
  refine fq 2 rfl rfl rfl cK rfl rfl ?_; apply Exists.intro; constructor
  ·rintro sv w' hw' ⟨(f1 : sv 1 = _), -⟩; (try dsimp only at f1)
   have hk9 := (Ext.refl wra).drew.trans hw'; have hR9 := hRa.ext hk9; have x3 := cell_of_row hR9 e3.out
   refine ⟨rfl, ?_⟩; simp only [putsL]; change qT (pT _ 37 (sv 1)); simp only [qT, pT, Act.put, sIA, sCS, sCZ]; simp [go_sem, quietTo, Ext.refl, ↓IntWalk.iteOmega, f1, hI3]; (all_goals try simp (disch := omega) only [IntWalk.i64_in]); all_goals rfl
  refine fq 3 rfl rfl rfl cK rfl rfl ?_; apply Exists.intro; constructor
  ·rintro sv w' hw' ⟨_, (f2 : sv 2 = _), -⟩; (try dsimp only at f2)
   have hk9 := (Ext.refl wra).drew.trans hw'; have hR9 := hRa.ext hk9; have x3 := cell_of_row hR9 e3.out
   refine ⟨rfl, ?_⟩; simp only [putsL]; change qT (pT (pT _ 38 (sv 2)) 37 (sv 1)); simp only [qT, pT, Act.put, sIA, sCS, sCZ]; simp [go_sem, quietTo, Ext.refl, ↓IntWalk.iteOmega, f2, x3]; (all_goals try simp (disch := omega) only [IntWalk.i64_in]); all_goals rfl
  refine fq 4 rfl rfl rfl cK rfl rfl ?_; apply Exists.intro; constructor
  ·rintro sv w' hw' ⟨f0, (f1 : sv 1 = _), (f2 : sv 2 = _), (f3 : sv 3 = _), -⟩; (try dsimp only at f1 f2 f3)
   obtain ⟨g0, f0, l0, b0⟩ := f0; replace f0 : sv 0 = _ := f0; obtain ⟨p0, q0⟩ := b0.walk
   have hk9 := (Ext.refl wra).drew.trans hw'; have hR9 := hRa.ext hk9; have x3 := cell_of_row hR9 e3.out
   refine ⟨rfl, ?_⟩; simp only [putsL]; change qT (pT (pT (pT (pT _ 39 (sv 3)) 38 (sv 2)) 37 (sv 1)) 36 (sv 0)); simp only [qT, pT, Act.put, sIA, sCS, sCZ]; simp [go_sem, quietTo, Ext.refl, ↓IntWalk.iteOmega, f0, f3, p0, q0]; (all_goals try simp (disch := omega) only [IntWalk.i64_in]); all_goals first | rfl | (exact hidx.out _ _ b0)
  refine fq 5 rfl rfl rfl cK rfl rfl ?_; apply Exists.intro; constructor
  ·rintro sv w' hw' ⟨_, _, _, _, (f4 : sv 4 = _), -⟩; (try dsimp only at f4)
   refine ⟨rfl, ?_⟩; simp only [putsL]; change qT (pT (pT (pT (pT (pT _ 40 (sv 4)) 39 (sv 3)) 38 (sv 2)) 37 (sv 1)) 36 (sv 0)); simp only [qT, pT, Act.put, sIA, sCS, sCZ]; simp [go_sem, quietTo, Ext.refl, f4]; all_goals rfl
  refine fac_nil fun xb wrb herb hfrb hcrb holdb hapb => ?_
  obtain ⟨f0, (f1 : xb 1 = _), (f2 : xb 2 = _), (f3 : xb 3 = _), (f4 : xb 4 = _), (f5 : xb 5 = _), -⟩ := hfrb; (try dsimp only at f1 f2 f3 f4 f5)
  obtain ⟨g0, f0, l0, b0⟩ := f0; replace f0 : xb 0 = _ := f0; obtain ⟨p0, q0⟩ := b0.walk
  change wpList _ _ _ _ (pT (pT (pT (pT (pT (pT _ 36 (xb 0)) 37 (xb 1)) 38 (xb 2)) 39 (xb 3)) 40 (xb 4)) 7 (xb 5)) _
  simp only [putsL, Nat.reduceAdd, List.drop_succ_cons, List.drop_zero, List.drop_nil, pT, Act.put, sIA, sCS, sCZ]
  try simp only [f1, f2, f3, f4, f5]
  clear f1 f2 f3 f4 f5; clear holdb hapb
  have hkb := (Ext.refl wra).drew.trans herb
  have hzb := hza.ext hkb
  have hEb := hEa.trans hkb
  clear hRa hza hka
  obtain ⟨pz, qz⟩ := hzb.walk
  have lz := hzb.lt
  go_wp2
  refine slip_end default (W := wrb) (g := w.heap.size) (ok := false) ?_ ?_ ?_ ?_ ?_
  ·exact hzb
  ·rfl
  ·rfl
  ·rfl
  ·exact ⟨readP (by rw [hF.out]; rfl), set7_ext hEb (Nat.le_refl _)⟩
 ·have hN3 : ∀ x ∈ [y1, y2, y5], numOk 15 x = true := by
   simp only [Bool.not_eq_false, Bool.and_eq_true] at hN
   intro x hx
   simp only [List.mem_cons, List.not_mem_nil, or_false] at hx
   rcases hx with rfl | rfl | rfl
   ·exact hN.1.1
   ·exact hN.1.2
   ·exact hN.2
  have hN4 : ∀ x ∈ [y1, y2, y5], x.size ≤ 1000000 := by
   intro x hx
   simp only [List.mem_cons, List.not_mem_nil, or_false] at hx
   rcases hx with rfl | rfl | rfl
   ·exact s1
   ·exact s2
   ·exact s5
  replace hN := Lib.hid hN
  refine wp_region_facts [13] [([],false,false),([0],false,false),([0,1],false,false),([],false,false),([3],false,false),([3,4],false,false),([],false,false),([6],false,false),([6,7],false,false),([0,1,2,3,4,5,6,7,8], false, true),([0,1,2,3,4,5,6,7,8,9],false,false),([0,1,2,3,4,5,6,7,8,9,10],false,false),([0,1,2,3,4,5,6,7,8,9,10,11],false,false),([0,1,2,3,4,5,6,7,8,9,10,11],false,false)] (Ext) Ext (fun _ => True) (by kernel_rfl) (by kernel_rfl) Ext.refl (fun _ _ _ => Ext.trans) (fun _ _ h => h) (fun _ _ h => h.size) (fun _ _ h _ => h) trivial ?_
  dsimp only [List.length_cons, List.length_nil, List.drop_succ_cons, List.drop_zero, List.drop_nil]
  refine fq 0 rfl rfl rfl cK rfl rfl ?_; apply Exists.intro; constructor
  ·intro sv w' hw' hfa
   refine ⟨rfl, ?_⟩; simp only [putsL]; change qT _; simp only [qT, Act.put, sIA, sCS, sCZ]; simp [go_sem, quietTo, Ext.refl]; all_goals rfl
  refine fq 1 rfl rfl rfl cK rfl rfl ?_; apply Exists.intro; constructor
  ·rintro sv w' hw' ⟨(f0 : sv 0 = _), -⟩; (try dsimp only at f0)
   have hk9 := (Ext.refl w1).drew.trans hw'; have hR9 := hR.ext hk9; have x1 := cell_of_row hR9 e1.out; have x2 := cell_of_row hR9 e2.out; have x5 := cell_of_row hR9 e5.out
   refine ⟨rfl, ?_⟩; simp only [putsL]; change qT (pT _ 23 (sv 0)); simp only [qT, pT, Act.put, sIA, sCS, sCZ]; simp [go_sem, quietTo, Ext.refl, ↓IntWalk.iteOmega, f0, hI1]; (all_goals try simp (disch := omega) only [IntWalk.i64_in]); all_goals rfl
  refine fq 2 rfl rfl rfl cK rfl rfl ?_; apply Exists.intro; constructor
  ·rintro sv w' hw' ⟨_, (f1 : sv 1 = _), -⟩; (try dsimp only at f1)
   have hk9 := (Ext.refl w1).drew.trans hw'; have hR9 := hR.ext hk9; have x1 := cell_of_row hR9 e1.out; have x2 := cell_of_row hR9 e2.out; have x5 := cell_of_row hR9 e5.out
   refine ⟨rfl, ?_⟩; simp only [putsL]; change qT (pT (pT _ 24 (sv 1)) 23 (sv 0)); simp only [qT, pT, Act.put, sIA, sCS, sCZ]; simp [go_sem, quietTo, Ext.refl, ↓IntWalk.iteOmega, f1, x1]; (all_goals try simp (disch := omega) only [IntWalk.i64_in]); all_goals rfl
  refine fq 3 rfl rfl rfl cK rfl rfl ?_; apply Exists.intro; constructor
  ·intro sv w' hw' hfa
   refine ⟨rfl, ?_⟩; simp only [putsL]; change qT _; simp only [qT, Act.put, sIA, sCS, sCZ]; simp [go_sem, quietTo, Ext.refl]; all_goals rfl
  refine fq 4 rfl rfl rfl cK rfl rfl ?_; apply Exists.intro; constructor
  ·rintro sv w' hw' ⟨(f3 : sv 3 = _), -⟩; (try dsimp only at f3)
   have hk9 := (Ext.refl w1).drew.trans hw'; have hR9 := hR.ext hk9; have x1 := cell_of_row hR9 e1.out; have x2 := cell_of_row hR9 e2.out; have x5 := cell_of_row hR9 e5.out
   refine ⟨rfl, ?_⟩; simp only [putsL]; change qT (pT _ 26 (sv 3)); simp only [qT, pT, Act.put, sIA, sCS, sCZ]; simp [go_sem, quietTo, Ext.refl, ↓IntWalk.iteOmega, f3, hI2]; (all_goals try simp (disch := omega) only [IntWalk.i64_in]); all_goals rfl
  refine fq 5 rfl rfl rfl cK rfl rfl ?_; apply Exists.intro; constructor
  ·rintro sv w' hw' ⟨_, (f4 : sv 4 = _), -⟩; (try dsimp only at f4)
   have hk9 := (Ext.refl w1).drew.trans hw'; have hR9 := hR.ext hk9; have x1 := cell_of_row hR9 e1.out; have x2 := cell_of_row hR9 e2.out; have x5 := cell_of_row hR9 e5.out
   refine ⟨rfl, ?_⟩; simp only [putsL]; change qT (pT (pT _ 27 (sv 4)) 26 (sv 3)); simp only [qT, pT, Act.put, sIA, sCS, sCZ]; simp [go_sem, quietTo, Ext.refl, ↓IntWalk.iteOmega, f4, x2]; (all_goals try simp (disch := omega) only [IntWalk.i64_in]); all_goals rfl
  refine fq 6 rfl rfl rfl cK rfl rfl ?_; apply Exists.intro; constructor
  ·intro sv w' hw' hfa
   refine ⟨rfl, ?_⟩; simp only [putsL]; change qT _; simp only [qT, Act.put, sIA, sCS, sCZ]; simp [go_sem, quietTo, Ext.refl]; all_goals rfl
  refine fq 7 rfl rfl rfl cK rfl rfl ?_; apply Exists.intro; constructor
  ·rintro sv w' hw' ⟨(f6 : sv 6 = _), -⟩; (try dsimp only at f6)
   have hk9 := (Ext.refl w1).drew.trans hw'; have hR9 := hR.ext hk9; have x1 := cell_of_row hR9 e1.out; have x2 := cell_of_row hR9 e2.out; have x5 := cell_of_row hR9 e5.out
   refine ⟨rfl, ?_⟩; simp only [putsL]; change qT (pT _ 29 (sv 6)); simp only [qT, pT, Act.put, sIA, sCS, sCZ]; simp [go_sem, quietTo, Ext.refl, ↓IntWalk.iteOmega, f6, hI5]; (all_goals try simp (disch := omega) only [IntWalk.i64_in]); all_goals rfl
  refine fq 8 rfl rfl rfl cK rfl rfl ?_; apply Exists.intro; constructor
  ·rintro sv w' hw' ⟨_, (f7 : sv 7 = _), -⟩; (try dsimp only at f7)
   have hk9 := (Ext.refl w1).drew.trans hw'; have hR9 := hR.ext hk9; have x1 := cell_of_row hR9 e1.out; have x2 := cell_of_row hR9 e2.out; have x5 := cell_of_row hR9 e5.out
   refine ⟨rfl, ?_⟩; simp only [putsL]; change qT (pT (pT _ 30 (sv 7)) 29 (sv 6)); simp only [qT, pT, Act.put, sIA, sCS, sCZ]; simp [go_sem, quietTo, Ext.refl, ↓IntWalk.iteOmega, f7, x5]; (all_goals try simp (disch := omega) only [IntWalk.i64_in]); all_goals rfl
  refine fac_row 9 rfl rfl rfl cK (fun _ _ h => h.size) (fun _ _ _ _ _ he _ hb => hb.ext he) ?_
  apply Exists.intro
  apply Exists.intro
  apply Exists.intro
  apply Exists.intro
  refine ⟨fun sv w' hw' hfa => ?_, ?_⟩
  ·obtain ⟨_, _, (f2 : sv 2 = _), _, _, (f5 : sv 5 = _), _, _, (f8 : sv 8 = _), -⟩ := hfa; (try dsimp only at f2 f5 f8)
   refine ⟨rfl, ?_⟩; simp only [putsL]; change rowTo _ _ _ _ _ (Sem.run _ (execOp (Act.eval (pT (pT (pT (pT (pT (pT (pT (pT (pT _ 31 (sv 8)) 30 (sv 7)) 29 (sv 6)) 28 (sv 5)) 27 (sv 4)) 26 (sv 3)) 25 (sv 2)) 24 (sv 1)) 23 (sv 0))) _) _); (try simp only [pT, Act.put, sIA, sCS, sCZ]); simp [go_sem, rowTo, Ext.refl, f2, f5, f8]; (all_goals try simp (disch := omega) only [IntWalk.i64_in]); all_goals first | rfl | exact ⟨rfl, rfl⟩ | exact ⟨⟨rfl, rfl⟩, rfl⟩
  refine fac_any 10 rfl rfl rfl cK ?_
  refine ⟨(fun y u => ∃ (p : Option Addr) (c : Nat), y 10 = .tuple #[.slice p 3 c, .bool true] ∧ Slc 1 intC u p 3 c [numV y1, numV y2, numV y5]), fun sv w' hw' hfa => ?_, ?_, ?_⟩
  ·obtain ⟨(f0 : sv 0 = _), (f1 : sv 1 = _), (f2 : sv 2 = _), (f3 : sv 3 = _), (f4 : sv 4 = _), (f5 : sv 5 = _), (f6 : sv 6 = _), (f7 : sv 7 = _), (f8 : sv 8 = _), f9, -⟩ := hfa; (try dsimp only at f0 f1 f2 f3 f4 f5 f6 f7 f8)
   obtain ⟨g9, f9, l9, b9⟩ := f9; replace f9 : sv 9 = _ := f9; obtain ⟨p9, q9⟩ := b9.walk
   have hk9 := (Ext.refl w1).drew.trans hw'; have hR9 := hR.ext hk9; have x1 := cell_of_row hR9 e1.out; have x2 := cell_of_row hR9 e2.out; have x5 := cell_of_row hR9 e5.out
   refine ⟨rfl, ?_⟩
   simp only [putsL]
   change outc _ _ (Sem.run _ (execOp (Act.eval (pT (pT (pT (pT (pT (pT (pT (pT (pT (pT _ 32 (sv 9)) 31 (sv 8)) 30 (sv 7)) 29 (sv 6)) 28 (sv 5)) 27 (sv 4)) 26 (sv 3)) 25 (sv 2)) 24 (sv 1)) 23 (sv 0))) _) _)
   try simp only [pT, Act.put, sIA, sCS, sCZ]
   simp [go_sem, outc, f9, p9, q9]
   refine (nums_good g9 3 3 [y1, y2, y5] _ (fun j x hx => by rw [Nat.zero_add]; exact cell_of_row (W := [y1, y2, y5]) b9 hx) b9.lt rfl (by omega) hN4 hN3).mono ?_
   rintro e w9 ⟨⟨p9, c9, rfl, hS⟩, hb9⟩
   exact ⟨_, rfl, hb9, p9, c9, by simp [upd], hS⟩
  ·exact fun x w w' ⟨p, c, h1, h2⟩ he => ⟨p, c, h1, h2.ext he⟩
  refine fac_any 11 rfl rfl rfl cK ?_
  refine ⟨(fun y u => ∃ (p : Option Addr) (c : Nat), y 11 = .tuple #[.slice p 3 c, .bool true] ∧ Slc 1 intC u p 3 c [numV y1, numV y2, numV y5]), fun sv w' hw' hfa => ?_, ?_, ?_⟩
  ·obtain ⟨(f0 : sv 0 = _), (f1 : sv 1 = _), (f2 : sv 2 = _), (f3 : sv 3 = _), (f4 : sv 4 = _), (f5 : sv 5 = _), (f6 : sv 6 = _), (f7 : sv 7 = _), (f8 : sv 8 = _), f9, f10, -⟩ := hfa; (try dsimp only at f0 f1 f2 f3 f4 f5 f6 f7 f8)
   obtain ⟨g9, f9, l9, b9⟩ := f9; replace f9 : sv 9 = _ := f9; obtain ⟨p9, q9⟩ := b9.walk
   obtain ⟨p10, c10, f10, hs10⟩ := f10
   replace f10 : sv 10 = _ := f10
   have hk9 := (Ext.refl w1).drew.trans hw'; have hR9 := hR.ext hk9; have x1 := cell_of_row hR9 e1.out; have x2 := cell_of_row hR9 e2.out; have x5 := cell_of_row hR9 e5.out
   refine ⟨rfl, ?_⟩
   simp only [putsL]
   change outc _ _ (Sem.run _ (execOp (Act.eval (pT (pT (pT (pT (pT (pT (pT (pT (pT (pT (pT _ 33 (sv 10)) 32 (sv 9)) 31 (sv 8)) 30 (sv 7)) 29 (sv 6)) 28 (sv 5)) 27 (sv 4)) 26 (sv 3)) 25 (sv 2)) 24 (sv 1)) 23 (sv 0))) _) _)
   try simp only [pT, Act.put, sIA, sCS, sCZ]
   simp [go_sem, outc, f10]
   exact ⟨Ext.refl _, p10, c10, by simp [upd], hs10⟩
  ·exact fun x w w' ⟨p, c, h1, h2⟩ he => ⟨p, c, h1, h2.ext he⟩
  refine fac_any 12 rfl rfl rfl cK ?_
  refine ⟨(fun y u => ∃ (p : Option Addr) (c : Nat), y 12 = .slice p 3 c ∧ Slc 1 intC u p 3 c [numV y1, numV y2, numV y5]), fun sv w' hw' hfa => ?_, ?_, ?_⟩
  ·obtain ⟨(f0 : sv 0 = _), (f1 : sv 1 = _), (f2 : sv 2 = _), (f3 : sv 3 = _), (f4 : sv 4 = _), (f5 : sv 5 = _), (f6 : sv 6 = _), (f7 : sv 7 = _), (f8 : sv 8 = _), f9, f10, f11, -⟩ := hfa; (try dsimp only at f0 f1 f2 f3 f4 f5 f6 f7 f8)
   obtain ⟨g9, f9, l9, b9⟩ := f9; replace f9 : sv 9 = _ := f9; obtain ⟨p9, q9⟩ := b9.walk
   obtain ⟨p10, c10, f10, hs10⟩ := f10
   replace f10 : sv 10 = _ := f10
   obtain ⟨p11, c11, f11, hs11⟩ := f11
   replace f11 : sv 11 = _ := f11
   have hk9 := (Ext.refl w1).drew.trans hw'; have hR9 := hR.ext hk9; have x1 := cell_of_row hR9 e1.out; have x2 := cell_of_row hR9 e2.out; have x5 := cell_of_row hR9 e5.out
   refine ⟨rfl, ?_⟩
   simp only [putsL]
   change outc _ _ (Sem.run _ (execOp (Act.eval (pT (pT (pT (pT (pT (pT (pT (pT (pT (pT (pT (pT _ 22 (sv 11)) 33 (sv 10)) 32 (sv 9)) 31 (sv 8)) 30 (sv 7)) 29 (sv 6)) 28 (sv 5)) 27 (sv 4)) 26 (sv 3)) 25 (sv 2)) 24 (sv 1)) 23 (sv 0))) _) _)
   try simp only [pT, Act.put, sIA, sCS, sCZ]
   simp [go_sem, outc, f11]
   exact ⟨Ext.refl _, p11, c11, by simp [upd], hs11⟩
  ·exact fun x w w' ⟨p, c, h1, h2⟩ he => ⟨p, c, h1, h2.ext he⟩
  refine fac_late 13 rfl rfl Ext.refl cK rfl rfl (fun _ _ _ _ h => h) ?_; apply Exists.intro; constructor
  ·rintro sv w' hw' ⟨_, _, _, _, _, _, _, _, _, _, _, f11, -⟩
   obtain ⟨p11, c11, f11, hs11⟩ := f11
   replace f11 : sv 11 = _ := f11
   refine ⟨rfl, fun w2 => ?_⟩
   simp only [putsL]
   change pureTo _ _ (Sem.run _ (execOp (Act.eval (Act.put (Act.put (Act.put (Act.put (Act.put (Act.put (Act.put (Act.put (Act.put (Act.put (Act.put (Act.put _ (some 22) (sv 11)) (some 33) (sv 10)) (some 32) (sv 9)) (some 31) (sv 8)) (some 30) (sv 7)) (some 29) (sv 6)) (some 28) (sv 5)) (some 27) (sv 4)) (some 26) (sv 3)) (some 25) (sv 2)) (some 24) (sv 1)) (some 23) (sv 0))) _) _)
   try simp only [Act.put, sIA, sCS, sCZ]
   simp [go_sem, pureTo, f11]
   (all_goals try simp (disch := omega) only [IntWalk.i64_in]); all_goals rfl
  refine fac_nil fun xa wra hera hfra hcra holda hapa => ?_
  obtain ⟨(f0 : xa 0 = _), (f1 : xa 1 = _), (f2 : xa 2 = _), (f3 : xa 3 = _), (f4 : xa 4 = _), (f5 : xa 5 = _), (f6 : xa 6 = _), (f7 : xa 7 = _), (f8 : xa 8 = _), f9, f10, f11, f12, f13, -⟩ := hfra; (try dsimp only at f0 f1 f2 f3 f4 f5 f6 f7 f8)
  obtain ⟨g9, f9, l9, b9⟩ := f9; replace f9 : xa 9 = _ := f9; obtain ⟨p9, q9⟩ := b9.walk
  obtain ⟨p10, c10, f10, hs10⟩ := f10
  replace f10 : xa 10 = _ := f10
  obtain ⟨p11, c11, f11, hs11⟩ := f11
  replace f11 : xa 11 = _ := f11
  obtain ⟨p12, c12, f12, hs12⟩ := f12
  replace f12 : xa 12 = _ := f12; replace f13 : xa 13 = _ := f13
  try dsimp only at f13
  change wpList _ _ _ _ (pT (pT (pT (pT (pT (pT (pT (pT (pT (pT (pT (pT (pT (pT _ 23 (xa 0)) 24 (xa 1)) 25 (xa 2)) 26 (xa 3)) 27 (xa 4)) 28 (xa 5)) 29 (xa 6)) 30 (xa 7)) 31 (xa 8)) 32 (xa 9)) 33 (xa 10)) 22 (xa 11)) 34 (xa 12)) 35 (xa 13)) _
  simp only [putsL, Nat.reduceAdd, List.drop_succ_cons, List.drop_zero, List.drop_nil, pT, Act.put, sIA, sCS, sCZ]
  try simp only [f0, f1, f2, f3, f4, f5, f6, f7, f8, f9, f10, f11, f12, f13]
  clear f0 f1 f2 f3 f4 f5 f6 f7 f8 f13; clear holda hapa
  have hka := (Ext.refl w1).drew.trans hera
  have hRa := hR.ext hka
  have hza := hz.ext hka
  have hEa := hEw.trans hka
  have hidx := fun g u h => index_call g y3 u h
  have hK5 := kindI_most y3
  generalize kindI y3 0 kindW = K at *
  replace hidx := Lib.hid hidx
  obtain ⟨ib, io, rfl, hib0, hiE⟩ := hs12.1.2.2 (by decide)
  have v0 : wra.cell? ⟨ib, io, none⟩ = some (.int .i64 (numV y1)) := by simpa using hiE 0 _ rfl 0 _ rfl
  have v1 : wra.cell? ⟨ib, io + 1, none⟩ = some (.int .i64 (numV y2)) := by simpa using hiE 1 _ rfl 0 _ rfl
  have v2 : wra.cell? ⟨ib, io + 2, none⟩ = some (.int .i64 (numV y5)) := by simpa using hiE 2 _ rfl 0 _ rfl
  clear hs10 hs11 hs12 hiE f10 f11 hR hz
  go_upto_region 5 with fail
  refine wp_region_facts [] [([], false, true),([],false,false),([1],false,false),([1,2],false,false),([0,1,2,3],false,false),([0,1,2,3,4],false,false)] (Ext) Ext (fun _ => True) (by kernel_rfl) (by kernel_rfl) Ext.refl (fun _ _ _ => Ext.trans) (fun _ _ h => h) (fun _ _ h => h.size) (fun _ _ h _ => h) trivial ?_
  dsimp only [List.length_cons, List.length_nil, List.drop_succ_cons, List.drop_zero, List.drop_nil]
  refine fac_callS 0 rfl rfl rfl cK (fun _ _ h => h.size) (fun _ _ _ _ _ he _ hb => hb.ext he) ?_
  apply Exists.intro
  apply Exists.intro
  apply Exists.intro
  apply Exists.intro
  refine ⟨fun sv w' hw' hfa => ?_, ?_⟩
  ·have hk9 := (Ext.refl wra).drew.trans hw'; have hR9 := hRa.ext hk9; have x3 := cell_of_row hR9 e3.out
   refine ⟨rfl, ?_⟩
   simp only [putsL]
   change outc _ _ (Sem.run _ (execOp (Act.eval _) _) _)
   try simp only [Act.put, sIA, sCS, sCZ]
   simp [go_sem, outc]
   exact kindWo_fresh _
  refine fq 1 rfl rfl rfl cK rfl rfl ?_; apply Exists.intro; constructor
  ·intro sv w' hw' hfa
   refine ⟨rfl, ?_⟩; simp only [putsL]; change qT _; simp only [qT, Act.put, sIA, sCS, sCZ]; simp [go_sem, quietTo, Ext.refl]; all_goals rfl
  refine fq 2 rfl rfl rfl cK rfl rfl ?_; apply Exists.intro; constructor
  ·rintro sv w' hw' ⟨(f1 : sv 1 = _), -⟩; (try dsimp only at f1)
   have hk9 := (Ext.refl wra).drew.trans hw'; have hR9 := hRa.ext hk9; have x3 := cell_of_row hR9 e3.out
   refine ⟨rfl, ?_⟩; simp only [putsL]; change qT (pT _ 37 (sv 1)); simp only [qT, pT, Act.put, sIA, sCS, sCZ]; simp [go_sem, quietTo, Ext.refl, ↓IntWalk.iteOmega, f1, hI3]; (all_goals try simp (disch := omega) only [IntWalk.i64_in]); all_goals rfl
  refine fq 3 rfl rfl rfl cK rfl rfl ?_; apply Exists.intro; constructor
  ·rintro sv w' hw' ⟨_, (f2 : sv 2 = _), -⟩; (try dsimp only at f2)
   have hk9 := (Ext.refl wra).drew.trans hw'; have hR9 := hRa.ext hk9; have x3 := cell_of_row hR9 e3.out
   refine ⟨rfl, ?_⟩; simp only [putsL]; change qT (pT (pT _ 38 (sv 2)) 37 (sv 1)); simp only [qT, pT, Act.put, sIA, sCS, sCZ]; simp [go_sem, quietTo, Ext.refl, ↓IntWalk.iteOmega, f2, x3]; (all_goals try simp (disch := omega) only [IntWalk.i64_in]); all_goals rfl
  refine fq 4 rfl rfl rfl cK rfl rfl ?_; apply Exists.intro; constructor
  ·rintro sv w' hw' ⟨f0, (f1 : sv 1 = _), (f2 : sv 2 = _), (f3 : sv 3 = _), -⟩; (try dsimp only at f1 f2 f3)
   obtain ⟨g0, f0, l0, b0⟩ := f0; replace f0 : sv 0 = _ := f0; obtain ⟨p0, q0⟩ := b0.walk
   have hk9 := (Ext.refl wra).drew.trans hw'; have hR9 := hRa.ext hk9; have x3 := cell_of_row hR9 e3.out
   refine ⟨rfl, ?_⟩; simp only [putsL]; change qT (pT (pT (pT (pT _ 39 (sv 3)) 38 (sv 2)) 37 (sv 1)) 36 (sv 0)); simp only [qT, pT, Act.put, sIA, sCS, sCZ]; simp [go_sem, quietTo, Ext.refl, ↓IntWalk.iteOmega, f0, f3, p0, q0]; (all_goals try simp (disch := omega) only [IntWalk.i64_in]); all_goals first | rfl | (exact hidx.out _ _ b0)
  refine fq 5 rfl rfl rfl cK rfl rfl ?_; apply Exists.intro; constructor
  ·rintro sv w' hw' ⟨_, _, _, _, (f4 : sv 4 = _), -⟩; (try dsimp only at f4)
   refine ⟨rfl, ?_⟩; simp only [putsL]; change qT (pT (pT (pT (pT (pT _ 40 (sv 4)) 39 (sv 3)) 38 (sv 2)) 37 (sv 1)) 36 (sv 0)); simp only [qT, pT, Act.put, sIA, sCS, sCZ]; simp [go_sem, quietTo, Ext.refl, f4]; all_goals rfl
  refine fac_nil fun xb wrb herb hfrb hcrb holdb hapb => ?_
  obtain ⟨f0, (f1 : xb 1 = _), (f2 : xb 2 = _), (f3 : xb 3 = _), (f4 : xb 4 = _), (f5 : xb 5 = _), -⟩ := hfrb; (try dsimp only at f1 f2 f3 f4 f5)
  obtain ⟨g0, f0, l0, b0⟩ := f0; replace f0 : xb 0 = _ := f0; obtain ⟨p0, q0⟩ := b0.walk
  change wpList _ _ _ _ (pT (pT (pT (pT (pT (pT _ 36 (xb 0)) 37 (xb 1)) 38 (xb 2)) 39 (xb 3)) 40 (xb 4)) 7 (xb 5)) _
  simp only [putsL, Nat.reduceAdd, List.drop_succ_cons, List.drop_zero, List.drop_nil, pT, Act.put, sIA, sCS, sCZ]
  try simp only [f1, f2, f3, f4, f5]
  clear f1 f2 f3 f4 f5; clear holdb hapb
  have hkb := (Ext.refl wra).drew.trans herb
  have hRb := hRa.ext hkb
  have hzb := hza.ext hkb
  have hEb := hEa.trans hkb
  have hib := Nat.lt_of_lt_of_le hib0 hkb.size
  replace v0 := (hkb.walk.1 _ _ hib0).trans v0
  replace v1 := (hkb.walk.1 _ _ hib0).trans v1
  replace v2 := (hkb.walk.1 _ _ hib0).trans v2
  clear hRa hza hka
  by_cases hK1 : K < 1
  ·have hF : lineF s.data.toList = none := by rw [hlG.out, if_pos (.inr hK1)]
   replace hF := Lib.hid hF
   obtain ⟨p1, q1⟩ := hzb.walk
   have l1 := hzb.lt
   go_wp2
   refine slip_end default hzb rfl rfl rfl ⟨readP (by rw [hF.out]; rfl), set7_ext hEb (Nat.le_refl _)⟩
  have hI0 : (0 : Int) < W.length := by omega
  go_upto_region 8 with fail
  refine wp_region_facts [] [([],false,false),([0],false,false),([0,1],false,false),([],false,false),([3],false,false),([3,4],false,false),([],false,false),([6],false,false),([6,7],false,false),([],false,false),([],false,false),([10],false,false),([10,11],false,false),([],false,false),([13],false,false),([13,14],false,false),([0,1,2,3,4,5,6,7,8,9,10,11,12,13,14,15],false,false),([], false, true)] (Ext) Ext (fun _ => True) (by kernel_rfl) (by kernel_rfl) Ext.refl (fun _ _ _ => Ext.trans) (fun _ _ h => h) (fun _ _ h => h.size) (fun _ _ h _ => h) trivial ?_
  dsimp only [List.length_cons, List.length_nil, List.drop_succ_cons, List.drop_zero, List.drop_nil]
  refine fq 0 rfl rfl rfl cK rfl rfl ?_; apply Exists.intro; constructor
  ·intro sv w' hw' hfa
   refine ⟨rfl, ?_⟩; simp only [putsL]; change qT _; simp only [qT, Act.put, sIA, sCS, sCZ]; simp [go_sem, quietTo, Ext.refl]; all_goals rfl
  refine fq 1 rfl rfl rfl cK rfl rfl ?_; apply Exists.intro; constructor
  ·rintro sv w' hw' ⟨(f0 : sv 0 = _), -⟩; (try dsimp only at f0)
   have hk9 := (Ext.refl wrb).drew.trans hw'; have hR9 := hRb.ext hk9; have x0 := cell_of_row hR9 e0.out; have x4 := cell_of_row hR9 e4.out; have i0 := (hk9.walk.1 _ _ hib).trans v0; have i1 := (hk9.walk.1 _ _ hib).trans v1; have i2 := (hk9.walk.1 _ _ hib).trans v2
   refine ⟨rfl, ?_⟩; simp only [putsL]; change qT (pT _ 48 (sv 0)); simp only [qT, pT, Act.put, sIA, sCS, sCZ]; simp [go_sem, quietTo, Ext.refl, ↓IntWalk.iteOmega, f0, hI0]; (all_goals try simp (disch := omega) only [IntWalk.i64_in]); all_goals rfl
  refine fq 2 rfl rfl rfl cK rfl rfl ?_; apply Exists.intro; constructor
  ·rintro sv w' hw' ⟨_, (f1 : sv 1 = _), -⟩; (try dsimp only at f1)
   have hk9 := (Ext.refl wrb).drew.trans hw'; have hR9 := hRb.ext hk9; have x0 := cell_of_row hR9 e0.out; have x4 := cell_of_row hR9 e4.out; have i0 := (hk9.walk.1 _ _ hib).trans v0; have i1 := (hk9.walk.1 _ _ hib).trans v1; have i2 := (hk9.walk.1 _ _ hib).trans v2
   refine ⟨rfl, ?_⟩; simp only [putsL]; change qT (pT (pT _ 49 (sv 1)) 48 (sv 0)); simp only [qT, pT, Act.put, sIA, sCS, sCZ]; simp [go_sem, quietTo, Ext.refl, ↓IntWalk.iteOmega, f1, x0]; (all_goals try simp (disch := omega) only [IntWalk.i64_in]); all_goals rfl
  refine fq 3 rfl rfl rfl cK rfl rfl ?_; apply Exists.intro; constructor
  ·intro sv w' hw' hfa
   refine ⟨rfl, ?_⟩; simp only [putsL]; change qT _; simp only [qT, Act.put, sIA, sCS, sCZ]; simp [go_sem, quietTo, Ext.refl]; all_goals rfl
  refine fq 4 rfl rfl rfl cK rfl rfl ?_; apply Exists.intro; constructor
  ·rintro sv w' hw' ⟨(f3 : sv 3 = _), -⟩; (try dsimp only at f3)
   refine ⟨rfl, ?_⟩; simp only [putsL]; change qT (pT _ 51 (sv 3)); simp only [qT, pT, Act.put, sIA, sCS, sCZ]; simp [go_sem, quietTo, Ext.refl, ↓IntWalk.iteOmega, f3]; (all_goals try simp (disch := omega) only [IntWalk.i64_in]); all_goals rfl
  refine fq 5 rfl rfl rfl cK rfl rfl ?_; apply Exists.intro; constructor
  ·rintro sv w' hw' ⟨_, (f4 : sv 4 = _), -⟩; (try dsimp only at f4)
   have hk9 := (Ext.refl wrb).drew.trans hw'; have hR9 := hRb.ext hk9; have x0 := cell_of_row hR9 e0.out; have x4 := cell_of_row hR9 e4.out; have i0 := (hk9.walk.1 _ _ hib).trans v0; have i1 := (hk9.walk.1 _ _ hib).trans v1; have i2 := (hk9.walk.1 _ _ hib).trans v2
   refine ⟨rfl, ?_⟩; simp only [putsL]; change qT (pT (pT _ 52 (sv 4)) 51 (sv 3)); simp only [qT, pT, Act.put, sIA, sCS, sCZ]; simp [go_sem, quietTo, Ext.refl, ↓IntWalk.iteOmega, f4, i0]; (all_goals try simp (disch := omega) only [IntWalk.i64_in]); all_goals rfl
  refine fq 6 rfl rfl rfl cK rfl rfl ?_; apply Exists.intro; constructor
  ·intro sv w' hw' hfa
   refine ⟨rfl, ?_⟩; simp only [putsL]; change qT _; simp only [qT, Act.put, sIA, sCS, sCZ]; simp [go_sem, quietTo, Ext.refl]; all_goals rfl
  refine fq 7 rfl rfl rfl cK rfl rfl ?_; apply Exists.intro; constructor
  ·rintro sv w' hw' ⟨(f6 : sv 6 = _), -⟩; (try dsimp only at f6)
   refine ⟨rfl, ?_⟩; simp only [putsL]; change qT (pT _ 54 (sv 6)); simp only [qT, pT, Act.put, sIA, sCS, sCZ]; simp [go_sem, quietTo, Ext.refl, ↓IntWalk.iteOmega, f6]; (all_goals try simp (disch := omega) only [IntWalk.i64_in]); all_goals rfl
  refine fq 8 rfl rfl rfl cK rfl rfl ?_; apply Exists.intro; constructor
  ·rintro sv w' hw' ⟨_, (f7 : sv 7 = _), -⟩; (try dsimp only at f7)
   have hk9 := (Ext.refl wrb).drew.trans hw'; have hR9 := hRb.ext hk9; have x0 := cell_of_row hR9 e0.out; have x4 := cell_of_row hR9 e4.out; have i0 := (hk9.walk.1 _ _ hib).trans v0; have i1 := (hk9.walk.1 _ _ hib).trans v1; have i2 := (hk9.walk.1 _ _ hib).trans v2
   refine ⟨rfl, ?_⟩; simp only [putsL]; change qT (pT (pT _ 55 (sv 7)) 54 (sv 6)); simp only [qT, pT, Act.put, sIA, sCS, sCZ]; simp [go_sem, quietTo, Ext.refl, ↓IntWalk.iteOmega, f7, i1]; (all_goals try simp (disch := omega) only [IntWalk.i64_in]); all_goals rfl
  refine fq 9 rfl rfl rfl cK rfl rfl ?_; apply Exists.intro; constructor
  ·intro sv w' hw' hfa
   refine ⟨rfl, ?_⟩; simp only [putsL]; change qT _; simp only [qT, Act.put, sIA, sCS, sCZ]; simp [go_sem, quietTo, Ext.refl]; all_goals rfl
  refine fq 10 rfl rfl rfl cK rfl rfl ?_; apply Exists.intro; constructor
  ·intro sv w' hw' hfa
   refine ⟨rfl, ?_⟩; simp only [putsL]; change qT _; simp only [qT, Act.put, sIA, sCS, sCZ]; simp [go_sem, quietTo, Ext.refl]; all_goals rfl
  refine fq 11 rfl rfl rfl cK rfl rfl ?_; apply Exists.intro; constructor
  ·rintro sv w' hw' ⟨(f10 : sv 10 = _), -⟩; (try dsimp only at f10)
   have hk9 := (Ext.refl wrb).drew.trans hw'; have hR9 := hRb.ext hk9; have x0 := cell_of_row hR9 e0.out; have x4 := cell_of_row hR9 e4.out; have i0 := (hk9.walk.1 _ _ hib).trans v0; have i1 := (hk9.walk.1 _ _ hib).trans v1; have i2 := (hk9.walk.1 _ _ hib).trans v2
   refine ⟨rfl, ?_⟩; simp only [putsL]; change qT (pT _ 58 (sv 10)); simp only [qT, pT, Act.put, sIA, sCS, sCZ]; simp [go_sem, quietTo, Ext.refl, ↓IntWalk.iteOmega, f10, hI4]; (all_goals try simp (disch := omega) only [IntWalk.i64_in]); all_goals rfl
  refine fq 12 rfl rfl rfl cK rfl rfl ?_; apply Exists.intro; constructor
  ·rintro sv w' hw' ⟨_, (f11 : sv 11 = _), -⟩; (try dsimp only at f11)
   have hk9 := (Ext.refl wrb).drew.trans hw'; have hR9 := hRb.ext hk9; have x0 := cell_of_row hR9 e0.out; have x4 := cell_of_row hR9 e4.out; have i0 := (hk9.walk.1 _ _ hib).trans v0; have i1 := (hk9.walk.1 _ _ hib).trans v1; have i2 := (hk9.walk.1 _ _ hib).trans v2
   refine ⟨rfl, ?_⟩; simp only [putsL]; change qT (pT (pT _ 59 (sv 11)) 58 (sv 10)); simp only [qT, pT, Act.put, sIA, sCS, sCZ]; simp [go_sem, quietTo, Ext.refl, ↓IntWalk.iteOmega, f11, x4]; (all_goals try simp (disch := omega) only [IntWalk.i64_in]); all_goals rfl
  refine fq 13 rfl rfl rfl cK rfl rfl ?_; apply Exists.intro; constructor
  ·intro sv w' hw' hfa
   refine ⟨rfl, ?_⟩; simp only [putsL]; change qT _; simp only [qT, Act.put, sIA, sCS, sCZ]; simp [go_sem, quietTo, Ext.refl]; all_goals rfl
  refine fq 14 rfl rfl rfl cK rfl rfl ?_; apply Exists.intro; constructor
  ·rintro sv w' hw' ⟨(f13 : sv 13 = _), -⟩; (try dsimp only at f13)
   refine ⟨rfl, ?_⟩; simp only [putsL]; change qT (pT _ 61 (sv 13)); simp only [qT, pT, Act.put, sIA, sCS, sCZ]; simp [go_sem, quietTo, Ext.refl, ↓IntWalk.iteOmega, f13]; (all_goals try simp (disch := omega) only [IntWalk.i64_in]); all_goals rfl
  refine fq 15 rfl rfl rfl cK rfl rfl ?_; apply Exists.intro; constructor
  ·rintro sv w' hw' ⟨_, (f14 : sv 14 = _), -⟩; (try dsimp only at f14)
   have hk9 := (Ext.refl wrb).drew.trans hw'; have hR9 := hRb.ext hk9; have x0 := cell_of_row hR9 e0.out; have x4 := cell_of_row hR9 e4.out; have i0 := (hk9.walk.1 _ _ hib).trans v0; have i1 := (hk9.walk.1 _ _ hib).trans v1; have i2 := (hk9.walk.1 _ _ hib).trans v2
   refine ⟨rfl, ?_⟩; simp only [putsL]; change qT (pT (pT _ 62 (sv 14)) 61 (sv 13)); simp only [qT, pT, Act.put, sIA, sCS, sCZ]; simp [go_sem, quietTo, Ext.refl, ↓IntWalk.iteOmega, f14, i2]; (all_goals try simp (disch := omega) only [IntWalk.i64_in]); all_goals rfl
  refine fq 16 rfl rfl rfl cK rfl rfl ?_; apply Exists.intro; constructor
  ·rintro sv w' hw' ⟨_, _, (f2 : sv 2 = _), _, _, (f5 : sv 5 = _), _, _, (f8 : sv 8 = _), (f9 : sv 9 = _), _, _, (f12 : sv 12 = _), _, _, (f15 : sv 15 = _), -⟩; (try dsimp only at f2 f5 f8 f9 f12 f15)
   refine ⟨rfl, ?_⟩; simp only [putsL]; change qT (pT (pT (pT (pT (pT (pT (pT (pT (pT (pT (pT (pT (pT (pT (pT (pT _ 63 (sv 15)) 62 (sv 14)) 61 (sv 13)) 60 (sv 12)) 59 (sv 11)) 58 (sv 10)) 57 (sv 9)) 56 (sv 8)) 55 (sv 7)) 54 (sv 6)) 53 (sv 5)) 52 (sv 4)) 51 (sv 3)) 50 (sv 2)) 49 (sv 1)) 48 (sv 0)); simp only [qT, pT, Act.put, sIA, sCS, sCZ]; simp [go_sem, quietTo, Ext.refl, f2, f5, f8, f9, f12, f15]; all_goals rfl
  refine fac_box 17 rfl rfl rfl cK (fun _ _ h => h.size) (fun _ _ _ _ _ he _ hb => hb.ext he) ?_
  apply Exists.intro
  apply Exists.intro
  refine ⟨fun sv w' hw' hfa => ?_, ?_⟩
  ·refine ⟨rfl, ?_⟩
   simp only [putsL]
   change boxTo _ _ _ (Sem.run _ (execOp (Act.eval _) _) _)
   try simp only [Act.put, sIA, sCS, sCZ]
   simp [go_sem, boxTo, Ext.refl]
   (all_goals try simp (disch := omega) only [IntWalk.i64_in]); all_goals first | rfl | exact ⟨rfl, rfl⟩ | exact ⟨⟨rfl, rfl⟩, rfl⟩
  refine fac_nil fun xc wrc herc hfrc hcrc holdc hapc => ?_
  obtain ⟨(f0 : xc 0 = _), (f1 : xc 1 = _), (f2 : xc 2 = _), (f3 : xc 3 = _), (f4 : xc 4 = _), (f5 : xc 5 = _), (f6 : xc 6 = _), (f7 : xc 7 = _), (f8 : xc 8 = _), (f9 : xc 9 = _), (f10 : xc 10 = _), (f11 : xc 11 = _), (f12 : xc 12 = _), (f13 : xc 13 = _), (f14 : xc 14 = _), (f15 : xc 15 = _), (f16 : xc 16 = _), f17, -⟩ := hfrc; (try dsimp only at f0 f1 f2 f3 f4 f5 f6 f7 f8 f9 f10 f11 f12 f13 f14 f15 f16)
  obtain ⟨g17, f17, l17, b17⟩ := f17; replace f17 : xc 17 = _ := f17; obtain ⟨p17, q17⟩ := b17.walk
  change wpList _ _ _ _ (pT (pT (pT (pT (pT (pT (pT (pT (pT (pT (pT (pT (pT (pT (pT (pT (pT (pT _ 48 (xc 0)) 49 (xc 1)) 50 (xc 2)) 51 (xc 3)) 52 (xc 4)) 53 (xc 5)) 54 (xc 6)) 55 (xc 7)) 56 (xc 8)) 57 (xc 9)) 58 (xc 10)) 59 (xc 11)) 60 (xc 12)) 61 (xc 13)) 62 (xc 14)) 63 (xc 15)) 64 (xc 16)) 8 (xc 17)) _
  simp only [putsL, Nat.reduceAdd, List.drop_succ_cons, List.drop_zero, List.drop_nil, pT, Act.put, sIA, sCS, sCZ]
  try simp only [f0, f1, f2, f3, f4, f5, f6, f7, f8, f9, f10, f11, f12, f13, f14, f15, f16, f17]
  clear f0 f1 f2 f3 f4 f5 f6 f7 f8 f9 f10 f11 f12 f13 f14 f15 f16; clear holdc hapc
  have hkc := (Ext.refl wrb).drew.trans herc
  have hRc := hRb.ext hkc
  have hzc := hzb.ext hkc
  have hEc := hEb.trans hkc
  have x60 := fun y (e : W[6]? = some y) => cell_of_row hRc e
  have l17b : wrb.heap.size ≤ g17 := l17
  have lzb := hzb.lt
  have lRb := hRb.lt
  have hn1 : ¬ w.heap.size = g17 := by omega
  have hn2 : ¬ g17 = w.heap.size := by omega
  have hn3 : ¬ w.heap.size + 1 = g17 := by omega
  have hn4 : ¬ g17 = w.heap.size + 1 := by omega
  obtain ⟨pz, qz⟩ := hzc.walk
  have lz := hzc.lt
  have l18 := b17.lt
  replace x60 := Lib.hid x60; clear hRb hzb v0 v1 v2 hkc herc herb hera hkb p0 q0 b0
  by_cases hK2 : K = 1
  ·subst hK2
   by_cases h7 : W.length = 7
   ·obtain ⟨y6, e6⟩ := getD_some (rfl : W.length = W.length) (show 6 < W.length by omega)
    have x6 := x60.out y6 e6
    have hI6 : (6 : Int) < W.length := by omega
    have h7d : decide ((W.length : Int) = 7) = true := by simp; omega
    have h7b : ((W.length : Int) == 7) = true := by simp; omega
    have hF : lineF s.data.toList = some ⟨y0, numV y1, numV y2,1, y4, numV y5, y6⟩ := by
     rw [hlG.out, if_neg (fun e => e.elim hN.out (by omega)), if_pos rfl, if_pos h7]
     rw [List.getD_eq_getElem?_getD, e6]; rfl
    replace hF := Lib.hid hF; clear e6 h7
    go_upto_region 14 with fail
    have hb9 : Blk ((set7 wrc g17 ⟨y0, numV y1, numV y2,1, y4, numV y5, ⟨#[]⟩⟩).setCell ⟨g17,6, none⟩ (.string y6)) g17 79 #[.string y0, .int .i64 (numV y1), .int .i64 (numV y2), .int .i64 1, .string y4, .int .i64 (numV y5), .string y6] := Blk.cast ((set7_blk b17).set_ 6 _) (by simp)
    have hz9 := (set7_far (x := ⟨y0, numV y1, numV y2,1, y4, numV y5, ⟨#[]⟩⟩) hzc hn1).far (p := ⟨g17,6, none⟩) (by simp; omega) (.string y6)
    have he8 := (set7_ext (x := ⟨y0, numV y1, numV y2,1, y4, numV y5, ⟨#[]⟩⟩) (g := g17) hEc (by omega)).setCell (p := ⟨g17,6, none⟩) (by simp; omega) (.string y6)
    change Code.wp _ _ _ _ ((set7 wrc g17 ⟨y0, numV y1, numV y2,1, y4, numV y5, ⟨#[]⟩⟩).setCell ⟨g17,6, none⟩ (.string y6))
    generalize (set7 wrc g17 ⟨y0, numV y1, numV y2,1, y4, numV y5, ⟨#[]⟩⟩).setCell ⟨g17,6, none⟩ (.string y6) = W9 at *
    clear pz qz p17 q17 lz l18
    obtain ⟨pz, qz⟩ := hz9.walk
    obtain ⟨p9, q9⟩ := hb9.walk
    have lz := hz9.lt
    have l18 := hb9.lt
    go_wp2
    have he9 := set7_ext (x := ⟨y0, numV y1, numV y2,1, y4, numV y5, y6⟩) (g := w.heap.size) he8 (Nat.le_refl _)
    refine slip_end ⟨y0, numV y1, numV y2,1, y4, numV y5, y6⟩ (W := W9) (g := w.heap.size) (ok := true) ?_ ?_ ?_ ?_ ?_
    ·exact hz9
    ·rfl
    ·rfl
    ·rfl
    ·exact ⟨readP (by rw [hF.out]; rfl), he9⟩
   ·have h7d : decide ((W.length : Int) = 7) = false := by simp; omega
    have h7b : ((W.length : Int) == 7) = false := by simp; omega
    have hF : lineF s.data.toList = none := by
     rw [hlG.out, if_neg (fun e => e.elim hN.out (by omega)), if_pos rfl, if_neg h7]
    replace hF := Lib.hid hF; clear h7
    go_wp2
    have hz9 := set7_far (x := ⟨y0, numV y1, numV y2,1, y4, numV y5, ⟨#[]⟩⟩) hzc hn1
    have he9 := set7_ext (x := default) (g := w.heap.size) (set7_ext (x := ⟨y0, numV y1, numV y2,1, y4, numV y5, ⟨#[]⟩⟩) (g := g17) hEc (by omega)) (Nat.le_refl _)
    refine slip_end default (W := set7 wrc g17 ⟨y0, numV y1, numV y2,1, y4, numV y5, ⟨#[]⟩⟩) (g := w.heap.size) (ok := false) ?_ ?_ ?_ ?_ ?_
    ·exact hz9
    ·rfl
    ·rfl
    ·rfl
    ·exact ⟨readP (by rw [hF.out]; rfl), he9⟩
  ·have hF : lineF s.data.toList = (if W.length = 6 then some ⟨y0, numV y1, numV y2, K, y4, numV y5, ⟨#[]⟩⟩ else none) := by
    rw [hlG.out, if_neg (fun e => e.elim hN.out (by omega)), if_neg hK2]
   have hKd : decide (K = 1) = false := by simp; omega
   have hKb : (K == 1) = false := by simp; omega
   replace hF := Lib.hid hF
   by_cases h6 : W.length = 6
   ·have h6d : decide ((W.length : Int) = 6) = true := by simp; omega
    have h6b : ((W.length : Int) == 6) = true := by simp; omega
    replace h6 := Lib.hid h6
    go_wp2
    have hz9 := set7_far (x := ⟨y0, numV y1, numV y2, K, y4, numV y5, ⟨#[]⟩⟩) hzc hn1
    have he9 := set7_ext (x := ⟨y0, numV y1, numV y2, K, y4, numV y5, ⟨#[]⟩⟩) (g := w.heap.size) (set7_ext (x := ⟨y0, numV y1, numV y2, K, y4, numV y5, ⟨#[]⟩⟩) (g := g17) hEc (by omega)) (Nat.le_refl _)
    refine slip_end ⟨y0, numV y1, numV y2, K, y4, numV y5, ⟨#[]⟩⟩ (W := set7 wrc g17 ⟨y0, numV y1, numV y2, K, y4, numV y5, ⟨#[]⟩⟩) (g := w.heap.size) (ok := true) ?_ ?_ ?_ ?_ ?_
    ·exact hz9
    ·rfl
    ·rfl
    ·rfl
    ·exact ⟨readP (by rw [hF.out, if_pos h6.out]; rfl), he9⟩
   ·have h6d : decide ((W.length : Int) = 6) = false := by simp; omega
    have h6b : ((W.length : Int) == 6) = false := by simp; omega
    replace h6 := Lib.hid h6
    go_wp2
    have hz9 := set7_far (x := ⟨y0, numV y1, numV y2, K, y4, numV y5, ⟨#[]⟩⟩) hzc hn1
    have he9 := set7_ext (x := ⟨y0, numV y1, numV y2, K, y4, numV y5, ⟨#[]⟩⟩) (g := w.heap.size) (set7_ext (x := ⟨y0, numV y1, numV y2, K, y4, numV y5, ⟨#[]⟩⟩) (g := g17) hEc (by omega)) (Nat.le_refl _)
    refine slip_end ⟨y0, numV y1, numV y2, K, y4, numV y5, ⟨#[]⟩⟩ (W := set7 wrc g17 ⟨y0, numV y1, numV y2, K, y4, numV y5, ⟨#[]⟩⟩) (g := w.heap.size) (ok := false) ?_ ?_ ?_ ?_ ?_
    ·exact hz9
    ·rfl
    ·rfl
    ·rfl
    ·exact ⟨readP (by rw [hF.out, if_neg h6.out]; rfl), he9⟩
end Go.Proofs.YtehboinleolihaaGreatDoor
