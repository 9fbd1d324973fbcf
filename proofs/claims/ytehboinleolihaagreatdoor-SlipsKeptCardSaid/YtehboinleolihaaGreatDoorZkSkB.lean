/- One line of slips is taken, by the document's text: the closure of SlipsRead. Conditions: sizes. -/
import Derived.Test.YtehboinleolihaaGreatDoorZkJ22
import Derived.Test.YtehboinleolihaaGreatDoorZkVkB
import Derived.Test.YtehboinleolihaaGreatDoorZkJ13
set_option linter.unusedSimpArgs false
set_option linter.unusedVariables false
namespace Go.Proofs.YtehboinleolihaaGreatDoor
open Go Go.RowKit
/-- What was read so far lies behind a variable. -/
def TkS (t : List UInt8) (w0 u : World) (gC k : Nat) : Prop :=
 ∃ (X : List SlipV) (v : Value), X = ((linesF t).take k).filterMap lineF ∧ X.length = k ∧ (∀ x ∈ X, x.Small) ∧ Blk u gC 31 #[v] ∧ u.ownsRow (gC + 1) 79 7 v k (X.flatMap slipC) ∧ Ext w0 u ∧ w0.heap.size ≤ gC
theorem TkS.ext {t : List UInt8} {w0 u u' : World} {gC k : Nat} (h : TkS t w0 u gC k) (he : Ext u u') : TkS t w0 u' gC k := by
 obtain ⟨X, v, h1, h2, h3, h4, h5, h6, h7⟩ := h
 exact ⟨X, v, h1, h2, h3, h4.ext he, own_ext he h5, h6.trans he, h7⟩
/-- What the closure answers. -/
def TakS (t : List UInt8) (w0 : World) (gC k : Nat) (o : Option SlipV) (e : Ending) (w' : World) : Prop :=
 (o = none ∧ e = .returned (.bool false) ∧ Ext w0 w') ∨ ((∃ y, o = some y) ∧ e = .returned (.bool true) ∧ TkS t w0 w' gC (k + 1))
/-- A kind's number, without the first word. -/
def kindT (x : ByteArray) : Int := kindI x 0 kindW.tail
theorem kindI_up (x : ByteArray) : ∀ (L : List ByteArray) (i : Nat), kindI x (i + 1) L = if kindI x i L = -1 then -1 else kindI x i L + 1
 | [], i => by simp [kindI]
 | y :: r, i => by
   unfold kindI
   by_cases h : y = x
   ·rw [if_pos h, if_pos h]
    rw [if_neg (by omega)]
    omega
   ·rw [if_neg h, if_neg h]
    exact kindI_up x r (i + 1)
theorem kindI_low (x : ByteArray) : ∀ (L : List ByteArray) (i : Nat), kindI x i L = -1 ∨ (i : Int) ≤ kindI x i L
 | [], i => .inl rfl
 | y :: r, i => by
   unfold kindI
   by_cases h : y = x
   ·rw [if_pos h]; exact .inr (Int.le_refl _)
   ·rw [if_neg h]
    rcases kindI_low x r (i + 1) with h | h
    ·exact .inl h
    ·exact .inr (by omega)
theorem kindT_is {x : ByteArray} (hx : x ≠ ⟨#[]⟩) : (kindI x 0 kindW < 1 ∧ kindT x = -1) ∨ (1 ≤ kindI x 0 kindW ∧ kindT x + 1 = kindI x 0 kindW) := by
 have h1 : kindI x 0 kindW = kindI x 1 kindW.tail := by
  show kindI x 0 (⟨#[]⟩ :: kindW.tail) = _
  conv => lhs; unfold kindI
  rw [if_neg fun e => hx e.symm]
 have h2 := kindI_up x kindW.tail 0
 rw [h1, h2]
 unfold kindT
 rcases kindI_low x kindW.tail 0 with h | h
 ·rw [h]; left; decide
 ·right
  rw [if_neg (by omega)]
  omega
theorem index_call1 (g : Nat) (x : ByteArray) (w : World) (h : Blk w g 9 kindCells) :
 Calls Tryz.prog 163 #[.slice (some ⟨g, 1, none⟩) 5 5, .string x] w fun e w' => e = .returned (.int .i64 (kindT x)) ∧ Ext w w' := by
 have hc : ∀ j, j < kindW.tail.length → w.cell? ⟨g, 1 + j, none⟩ = some (.string (kindW.tail.getD j ByteArray.empty)) := fun j hj => by
  have hj5 : j < 5 := hj
  rw [h.cell, kindCells_at (show 1 + j < 6 by omega)]
  obtain rfl | rfl | rfl | rfl | rfl : j = 0 ∨ j = 1 ∨ j = 2 ∨ j = 3 ∨ j = 4 := by omega
  all_goals rfl
 refine (Tryz.slices_Index_string g 1 5 5 kindW.tail x w (by decide) (by decide) hc).mono fun e w' h => ⟨?_, h.2 ▸ Ext.refl _⟩
 rw [h.1]
 show Ending.returned (.int .i64 (Lib.idxFromS (kindW.tail.take 5) x 0)) = _
 rw [show kindW.tail.take 5 = kindW.tail from rfl, kindI_idx]
 rfl
theorem own_set7 {w : World} {base k n : Nat} {e : TypeId} {v : Value} {xs : List Value} (ho : w.ownsRow base e k v n xs) {g : Nat} {x : SlipV} (hg : w.heap.size ≤ g ∨ ∀ h, v.ownBlock = some h → h ≠ g) : (set7 w g x).ownsRow base e k v n xs := by
 have h : ∀ h, v.ownBlock = some h → h ≠ g := fun h hh => hg.elim (fun e => by have := (ho.lt h hh).2; omega) (fun f => f h hh)
 unfold set7
 exact own_setFar (own_setFar (own_setFar (own_setFar (own_setFar (own_setFar (own_setFar ho (p := ⟨g, 0, none⟩) h _) (p := ⟨g, 1, none⟩) h _) (p := ⟨g, 2, none⟩) h _) (p := ⟨g, 3, none⟩) h _) (p := ⟨g, 4, none⟩) h _) (p := ⟨g, 5, none⟩) h _) (p := ⟨g, 6, none⟩) h _
set_option maxRecDepth 100000 in
theorem truthS_any (is : Bool) (w : World) : Calls Tryz.prog 165 #[.bool is] w fun e w' => e = .returned (.int .i64 (if is then 1 else 0)) ∧ w = w' := by
 cases is
 all_goals
  go_enter Tryz.func165, Tryz.ntmps165
  go_wp2
  go_ret
  exact ⟨rfl, rfl⟩
/-! ### the closure -/
set_option maxRecDepth 100000 in
set_option maxHeartbeats 12800000 in
theorem takeS_any {B : Nat} {t : List UInt8} {w0 u : World} {gC k : Nat} {s : ByteArray} (hP : TkS t w0 u gC k) (hx : (linesF t)[k]? = some s.data.toList) (hxs : s.size ≤ 200000) (hk : k ≤ 1000000) (hm : MaxL B w0) (ht : Tab B w0) :
 Calls Tryz.prog 161 #[.string s, .pointer (some ⟨gC, 0, none⟩)] u (TakS t w0 gC k (lineF s.data.toList)) := by
 obtain ⟨X, v, hX, hXl, hXs, hC, hown, he, hg⟩ := hP
 have hxl : s.data.toList.length = s.size := Array.length_toList
 have hsp := split_any 32 s B u (by omega) (hm.ext he)
 rw [show splitW 32 s.data.toList = wordsL s.data.toList from rfl] at hsp
 have hL6 : (wordsL s.data.toList).length ≤ 200001 := by have := splitW_most 32 s.data.toList; change (wordsL s.data.toList).length ≤ _ at this; omega
 have hwz : ∀ x ∈ wordsL s.data.toList, x.size ≤ 1000000 := fun x hx => by have := wordsL_size hx; omega
 have hR : Blk (u.alloc (.cells ((wordsL s.data.toList).map Value.string).toArray 9)) u.heap.size 9 ((wordsL s.data.toList).map Value.string).toArray := Blk.new' rfl
 have he1 : Ext u (u.alloc (.cells ((wordsL s.data.toList).map Value.string).toArray 9)) := (Ext.refl _).alloc _
 have hcn := contains_row (wordsL s.data.toList) u.heap.size _ hR (by omega)
 have hstep : ∀ y v' w', lineF s.data.toList = some y → w'.ownsRow (gC + 1) 79 7 v' (k + 1) (X.flatMap slipC ++ slipC y) → Blk w' gC 31 #[v'] → Ext w0 w' → TkS t w0 w' gC (k + 1) := fun y v' w' hy ho hB' he' => by
  have hfm : ((linesF t).take (k + 1)).filterMap lineF = ((linesF t).take k).filterMap lineF ++ [y] := by
   obtain ⟨hk9, e9⟩ := List.getElem?_eq_some_iff.1 hx
   rw [List.take_succ_eq_append_getElem hk9, e9, List.filterMap_append, List.filterMap_cons, hy]
   rfl
  exact ⟨X ++ [y], v', by rw [hfm, ← hX], by simp [hXl], (fun z hz => by
   rcases List.mem_append.1 hz with h | h
   ·exact hXs z h
   ·obtain rfl := List.mem_singleton.1 h; exact line_small hy (by omega)), hB', by rw [flat_snoc]; exact ho, he', hg⟩
 have hlF : lineF s.data.toList = lineF s.data.toList := rfl
 conv at hlF => rhs; unfold lineF
 have hC1 := hC.ext he1
 have hown1 := own_ext he1 hown
 have hEw := he.trans he1
 have hTw := ht.ext hEw
 replace hstep := Lib.hid hstep; replace hown1 := Lib.hid hown1; clear hX hXs hXl hC hown hx
 by_cases hE : ∃ x ∈ wordsL s.data.toList, x = ⟨#[]⟩
 ·have hF : lineF s.data.toList = none := by rw [hlF, if_pos (.inl hE)]
  rw [containsS_nil.2 hE] at hcn
  generalize wordsL s.data.toList = W at *
  replace hsp := Lib.hid hsp; replace hcn := Lib.hid hcn; replace hF := Lib.hid hF; clear hE hlF hwz hR
  go_enter Tryz.func161, Tryz.ntmps161
  go_wp2_with (first
   | (go_at_call 162; (with_reducible refine Calls.mono hsp.out ?_); rintro e w1 ⟨rfl, rfl⟩)
   | (go_at_call 136; (with_reducible refine Calls.mono hcn.out ?_); rintro e w2 ⟨rfl, rfl⟩))
  go_ret
  exact .inl ⟨hF.out, rfl, hEw⟩
 have hnc : Lib.containsS (wordsL s.data.toList) ⟨#[]⟩ = false := Bool.eq_false_iff.2 fun e => hE (containsS_nil.1 e)
 rw [hnc] at hcn
 have hne : ∀ x ∈ wordsL s.data.toList, x ≠ ⟨#[]⟩ := fun x hx e => hE ⟨x, hx, e⟩
 replace hE := Lib.hid hE
 generalize hW : wordsL s.data.toList = W at *
 replace hlF := Lib.hid hlF; replace hsp := Lib.hid hsp; replace hcn := Lib.hid hcn; clear hnc
 by_cases hlen : W.length < 6
 ·have hF : lineF s.data.toList = none := by rw [hlF.out, if_pos (.inr hlen)]
  replace hF := Lib.hid hF
  have hlt : (W.length : Int) < 6 := by omega
  clear hwz hne hR
  go_enter Tryz.func161, Tryz.ntmps161
  go_wp2_with (first
   | (go_at_call 162; (with_reducible refine Calls.mono hsp.out ?_); rintro e w1 ⟨rfl, rfl⟩)
   | (go_at_call 136; (with_reducible refine Calls.mono hcn.out ?_); rintro e w2 ⟨rfl, rfl⟩))
  go_ret
  exact .inl ⟨hF.out, rfl, hEw⟩
 have hlt : ¬ (W.length : Int) < 6 := by omega
 obtain ⟨y0, e0⟩ := getD_some (rfl : W.length = W.length) (show 0 < W.length by omega)
 obtain ⟨y1, e1⟩ := getD_some (rfl : W.length = W.length) (show 1 < W.length by omega)
 obtain ⟨y2, e2⟩ := getD_some (rfl : W.length = W.length) (show 2 < W.length by omega)
 obtain ⟨y3, e3⟩ := getD_some (rfl : W.length = W.length) (show 3 < W.length by omega)
 obtain ⟨y4, e4⟩ := getD_some (rfl : W.length = W.length) (show 4 < W.length by omega)
 obtain ⟨y5, e5⟩ := getD_some (rfl : W.length = W.length) (show 5 < W.length by omega)
 have d0 : ∀ {i : Nat} {y : ByteArray}, W[i]? = some y → W.getD i ⟨#[]⟩ = y := fun h => by rw [List.getD_eq_getElem?_getD, h]; rfl
 have hlG : lineF s.data.toList = if (numOk 15 y1 && numOk 15 y2 && numOk 15 y5) = false ∨ kindI y3 0 kindW < 1 then none else
  if kindI y3 0 kindW = 1 then (if W.length = 7 then some ⟨y0, numV y1, numV y2,1, y4, numV y5, W.getD 6 ⟨#[]⟩⟩ else none)
  else if W.length = 6 then some ⟨y0, numV y1, numV y2, kindI y3 0 kindW, y4, numV y5, ⟨#[]⟩⟩ else none := by
  rw [hlF.out, if_neg (fun e => e.elim hE.out hlen)]
  simp only [d0 e0, d0 e1, d0 e2, d0 e3, d0 e4, d0 e5]
 have s1 := hwz y1 (List.mem_of_getElem? e1)
 have s2 := hwz y2 (List.mem_of_getElem? e2)
 have s5 := hwz y5 (List.mem_of_getElem? e5)
 have hKT := kindT_is (hne y3 (List.mem_of_getElem? e3))
 have hK5 := kindI_most y3
 have hidx := fun g u h => index_call1 g y3 u h
 generalize kindI y3 0 kindW = KI at *
 generalize kindT y3 = K0 at *
 obtain ⟨K, hK⟩ : ∃ K, K = K0 + 1 := ⟨_, rfl⟩
 have hwK : IntKind.i64.wrap (K0 + 1) = K := by rw [IntWalk.i64_in _ (by omega)]; exact hK.symm
 have hlK : lineF s.data.toList = if (numOk 15 y1 && numOk 15 y2 && numOk 15 y5) = false ∨ K = 0 then none else
  if K = 1 then (if W.length = 7 then some ⟨y0, numV y1, numV y2,1, y4, numV y5, W.getD 6 ⟨#[]⟩⟩ else none)
  else if W.length = 6 then some ⟨y0, numV y1, numV y2, K, y4, numV y5, ⟨#[]⟩⟩ else none := by
  rw [hlG]
  rcases hKT with ⟨h1, h2⟩ | ⟨h1, h2⟩
  ·rw [if_pos (.inr h1), if_pos (.inr (by omega))]
  ·obtain rfl : K = KI := by omega
   by_cases h3 : (numOk 15 y1 && numOk 15 y2 && numOk 15 y5) = false
   ·rw [if_pos (.inl h3), if_pos (.inl h3)]
   ·have q1 : ¬ ((numOk 15 y1 && numOk 15 y2 && numOk 15 y5) = false ∨ K < 1) := fun e => e.elim h3 (by omega)
    have q2 : ¬ ((numOk 15 y1 && numOk 15 y2 && numOk 15 y5) = false ∨ K = 0) := fun e => e.elim h3 (by omega)
    rw [if_neg q1, if_neg q2]
 have hKb : 0 ≤ K ∧ K ≤ 5 := by omega
 clear hlG hKT hK hK5; replace hlK := Lib.hid hlK; replace e0 := Lib.hid e0; replace e1 := Lib.hid e1; replace e2 := Lib.hid e2; replace e3 := Lib.hid e3; replace e4 := Lib.hid e4; replace e5 := Lib.hid e5; replace hidx := Lib.hid hidx; clear d0 hlF hwz hne
 have hI0 : (0 : Int) < W.length := by omega
 have hI1 : (1 : Int) < W.length := by omega
 have hI2 : (2 : Int) < W.length := by omega
 have hI3 : (3 : Int) < W.length := by omega
 have hI4 : (4 : Int) < W.length := by omega
 have hI5 : (5 : Int) < W.length := by omega
 go_enter Tryz.func161, Tryz.ntmps161
 go_upto_region 4 with (first
  | (go_at_call 162; (with_reducible refine Calls.mono hsp.out ?_); rintro e w1 ⟨rfl, rfl⟩)
  | (go_at_call 136; (with_reducible refine Calls.mono hcn.out ?_); rintro e w2 ⟨rfl, rfl⟩))
 generalize hw1 : u.alloc (.cells (W.map Value.string).toArray 9) = w1 at *
 replace hw1 := Lib.hid hw1; clear he1
 refine wp_region_facts [] [([], false, true),([0],false,false),([],false,false),([2],false,false),([2,3],false,false),([0,1,2,3,4],false,false),([0,1,2,3,4,5],false,false),([0,1,2,3,4,5,6],false,false)] (Ext) Ext (fun _ => True) (by kernel_rfl) (by kernel_rfl) Ext.refl (fun _ _ _ => Ext.trans) (fun _ _ h => h) (fun _ _ h => h.size) (fun _ _ h _ => h) trivial ?_
 dsimp only [List.length_cons, List.length_nil, List.drop_succ_cons, List.drop_zero, List.drop_nil]
 refine fac_callS 0 rfl rfl rfl cK (fun _ _ h => h.size) (fun _ _ _ _ _ he _ hb => hb.ext he) ?_
 apply Exists.intro
 apply Exists.intro
 apply Exists.intro
 apply Exists.intro
 refine ⟨fun sv w' hw' hfa => ?_, ?_⟩
 ·have hk9 := (Ext.refl w1).drew.trans hw'; have hR9 := hR.ext hk9; have x3 := cell_of_row hR9 e3.out
  refine ⟨rfl, ?_⟩
  simp only [putsL]
  change outc _ _ (Sem.run _ (execOp (Act.eval _) _) _)
  try simp only [Act.put, sIA, sCS, sCZ]
  simp [go_sem, outc]
  exact slipWo_fresh _
 refine fac_via 1 rfl rfl 0 (fun g => .slice (some ⟨g, 0, none⟩) 6 6) (fun _ _ h => by simpa using h) (by decide) rfl cK ?_ ?_
 ·intro sv w' hfa
  obtain ⟨f0, -⟩ := hfa
  obtain ⟨g0, f0, l0, b0⟩ := f0; replace f0 : sv 0 = _ := f0; obtain ⟨p0, q0⟩ := b0.walk
  exact ⟨_, f0⟩
 apply Exists.intro
 refine ⟨fun sv w' g hw' hfa hgi => ?_, ?_⟩
 ·obtain ⟨f0, -⟩ := hfa
  obtain ⟨g0, f0, l0, b0⟩ := f0; replace f0 : sv 0 = _ := f0; obtain ⟨p0, q0⟩ := b0.walk
  have hgg := f0.symm.trans hgi
  simp only [Value.slice.injEq, Value.pointer.injEq, Option.some.injEq, Addr.mk.injEq, and_true] at hgg
  subst hgg
  have hk9 := (Ext.refl w1).drew.trans hw'; have hR9 := hR.ext hk9; have x3 := cell_of_row hR9 e3.out
  refine ⟨rfl, ?_⟩; simp only [putsL]; change qT (pT _ 18 (sv 0)); simp only [qT, pT, Act.put, sIA, sCS, sCZ]; simp [go_sem, quietTo, Ext.refl, ↓IntWalk.iteOmega, f0, p0, q0]; (all_goals try simp (disch := omega) only [IntWalk.i64_in]); all_goals rfl
 refine fq 2 rfl rfl rfl cK rfl rfl ?_; apply Exists.intro; constructor
 ·intro sv w' hw' hfa
  refine ⟨rfl, ?_⟩; simp only [putsL]; change qT _; simp only [qT, Act.put, sIA, sCS, sCZ]; simp [go_sem, quietTo, Ext.refl]; all_goals rfl
 refine fq 3 rfl rfl rfl cK rfl rfl ?_; apply Exists.intro; constructor
 ·rintro sv w' hw' ⟨(f2 : sv 2 = _), -⟩; (try dsimp only at f2)
  have hk9 := (Ext.refl w1).drew.trans hw'; have hR9 := hR.ext hk9; have x3 := cell_of_row hR9 e3.out
  refine ⟨rfl, ?_⟩; simp only [putsL]; change qT (pT _ 20 (sv 2)); simp only [qT, pT, Act.put, sIA, sCS, sCZ]; simp [go_sem, quietTo, Ext.refl, ↓IntWalk.iteOmega, f2, hI3]; (all_goals try simp (disch := omega) only [IntWalk.i64_in]); all_goals rfl
 refine fq 4 rfl rfl rfl cK rfl rfl ?_; apply Exists.intro; constructor
 ·rintro sv w' hw' ⟨_, (f3 : sv 3 = _), -⟩; (try dsimp only at f3)
  have hk9 := (Ext.refl w1).drew.trans hw'; have hR9 := hR.ext hk9; have x3 := cell_of_row hR9 e3.out
  refine ⟨rfl, ?_⟩; simp only [putsL]; change qT (pT (pT _ 21 (sv 3)) 20 (sv 2)); simp only [qT, pT, Act.put, sIA, sCS, sCZ]; simp [go_sem, quietTo, Ext.refl, ↓IntWalk.iteOmega, f3, x3]; (all_goals try simp (disch := omega) only [IntWalk.i64_in]); all_goals rfl
 refine fq 5 rfl rfl rfl cK rfl rfl ?_; apply Exists.intro; constructor
 ·rintro sv w' hw' ⟨f0, f1, (f2 : sv 2 = _), (f3 : sv 3 = _), (f4 : sv 4 = _), -⟩; (try dsimp only at f2 f3 f4)
  obtain ⟨g0, f0, l0, b0⟩ := f0; replace f0 : sv 0 = _ := f0; obtain ⟨p0, q0⟩ := b0.walk; replace f1 : sv 1 = _ := f1 _ f0
  try dsimp only at f1
  have hk9 := (Ext.refl w1).drew.trans hw'; have hR9 := hR.ext hk9; have x3 := cell_of_row hR9 e3.out
  refine ⟨rfl, ?_⟩; simp only [putsL]; change qT (pT (pT (pT (pT (pT _ 22 (sv 4)) 21 (sv 3)) 20 (sv 2)) 19 (sv 1)) 18 (sv 0)); simp only [qT, pT, Act.put, sIA, sCS, sCZ]; simp [go_sem, quietTo, Ext.refl, ↓IntWalk.iteOmega, f1, f4, p0, q0]; (all_goals try simp (disch := omega) only [IntWalk.i64_in]); all_goals first | rfl | (exact hidx.out _ _ b0)
 refine fq 6 rfl rfl rfl cK rfl rfl ?_; apply Exists.intro; constructor
 ·rintro sv w' hw' ⟨f0, _, _, _, _, (f5 : sv 5 = _), -⟩; (try dsimp only at f5)
  obtain ⟨g0, f0, l0, b0⟩ := f0; replace f0 : sv 0 = _ := f0; obtain ⟨p0, q0⟩ := b0.walk
  have hk9 := (Ext.refl w1).drew.trans hw'; have hR9 := hR.ext hk9; have x3 := cell_of_row hR9 e3.out
  refine ⟨rfl, ?_⟩; simp only [putsL]; change qT (pT (pT (pT (pT (pT (pT _ 23 (sv 5)) 22 (sv 4)) 21 (sv 3)) 20 (sv 2)) 19 (sv 1)) 18 (sv 0)); simp only [qT, pT, Act.put, sIA, sCS, sCZ]; simp [go_sem, quietTo, Ext.refl, ↓IntWalk.iteOmega, f5, p0, q0, hwK]; (all_goals try simp (disch := omega) only [IntWalk.i64_in]); all_goals rfl
 refine fq 7 rfl rfl rfl cK rfl rfl ?_; apply Exists.intro; constructor
 ·rintro sv w' hw' ⟨_, _, _, _, _, _, (f6 : sv 6 = _), -⟩; (try dsimp only at f6)
  refine ⟨rfl, ?_⟩; simp only [putsL]; change qT (pT (pT (pT (pT (pT (pT (pT _ 24 (sv 6)) 23 (sv 5)) 22 (sv 4)) 21 (sv 3)) 20 (sv 2)) 19 (sv 1)) 18 (sv 0)); simp only [qT, pT, Act.put, sIA, sCS, sCZ]; simp [go_sem, quietTo, Ext.refl, f6]; all_goals rfl
 refine fac_nil fun xa wra hera hfra hcra holda hapa => ?_
 obtain ⟨f0, f1, (f2 : xa 2 = _), (f3 : xa 3 = _), (f4 : xa 4 = _), (f5 : xa 5 = _), (f6 : xa 6 = _), (f7 : xa 7 = _), -⟩ := hfra; (try dsimp only at f2 f3 f4 f5 f6 f7)
 obtain ⟨g0, f0, l0, b0⟩ := f0; replace f0 : xa 0 = _ := f0; obtain ⟨p0, q0⟩ := b0.walk; replace f1 : xa 1 = _ := f1 _ f0
 try dsimp only at f1
 change wpList _ _ _ _ (pT (pT (pT (pT (pT (pT (pT (pT _ 18 (xa 0)) 19 (xa 1)) 20 (xa 2)) 21 (xa 3)) 22 (xa 4)) 23 (xa 5)) 24 (xa 6)) 5 (xa 7)) _
 simp only [putsL, Nat.reduceAdd, List.drop_succ_cons, List.drop_zero, List.drop_nil, pT, Act.put, sIA, sCS, sCZ]
 try simp only [f1, f2, f3, f4, f5, f6, f7]
 clear f2 f3 f4 f5 f6 f7; clear holda hapa
 have hka := (Ext.refl w1).drew.trans hera
 have hRa := hR.ext hka
 have hCa := hC1.ext hka
 have hOa := Lib.hid (own_ext hka hown1.out)
 have hEa := hEw.trans hka
 have hTb := hTw.ext hka
 clear hR hC1 hown1 hka hera hTw hEw
 have hN4 : ∀ x ∈ [y1, y2, y5], x.size ≤ 1000000 := by
  intro x hx
  simp only [List.mem_cons, List.not_mem_nil, or_false] at hx
  rcases hx with rfl | rfl | rfl
  ·exact s1
  ·exact s2
  ·exact s5
 go_upto_region 5 with fail
 by_cases hN : (numOk 15 y1 && numOk 15 y2 && numOk 15 y5) = false
 ·have hN3 : ∃ x ∈ [y1, y2, y5], numOk 15 x = false := by
   refine Classical.byContradiction fun hx => ?_
   have h1 : ∀ x ∈ [y1, y2, y5], numOk 15 x = true := fun x hm => by
    cases hb : numOk 15 x with
    | true => rfl
    | false => exact absurd ⟨x, hm, hb⟩ hx
   rw [h1 y1 (by simp), h1 y2 (by simp), h1 y5 (by simp)] at hN
   cases hN
  have hF : lineF s.data.toList = none := by rw [hlK.out, if_pos (.inl hN)]
  replace hF := Lib.hid hF; replace hN := Lib.hid hN
  refine wp_region_facts [13] [([],false,false),([0],false,false),([0,1],false,false),([],false,false),([3],false,false),([3,4],false,false),([],false,false),([6],false,false),([6,7],false,false),([0,1,2,3,4,5,6,7,8], false, true),([0,1,2,3,4,5,6,7,8,9],false,false),([0,1,2,3,4,5,6,7,8,9,10],false,false),([0,1,2,3,4,5,6,7,8,9,10,11],false,false),([0,1,2,3,4,5,6,7,8,9,10,11],false,false)] (Ext) Ext (fun _ => True) (by kernel_rfl) (by kernel_rfl) Ext.refl (fun _ _ _ => Ext.trans) (fun _ _ h => h) (fun _ _ h => h.size) (fun _ _ h _ => h) trivial ?_
  dsimp only [List.length_cons, List.length_nil, List.drop_succ_cons, List.drop_zero, List.drop_nil]
  refine fq 0 rfl rfl rfl cK rfl rfl ?_; apply Exists.intro; constructor
  ·intro sv w' hw' hfa
   refine ⟨rfl, ?_⟩; simp only [putsL]; change qT _; simp only [qT, Act.put, sIA, sCS, sCZ]; simp [go_sem, quietTo, Ext.refl]; all_goals rfl
  refine fq 1 rfl rfl rfl cK rfl rfl ?_; apply Exists.intro; constructor
  ·rintro sv w' hw' ⟨(f0 : sv 0 = _), -⟩; (try dsimp only at f0)
   have hk9 := (Ext.refl wra).drew.trans hw'; have hR9 := hRa.ext hk9; have hT9 := hTb.ext hk9; have x1 := cell_of_row hR9 e1.out; have x2 := cell_of_row hR9 e2.out; have x5 := cell_of_row hR9 e5.out
   refine ⟨rfl, ?_⟩; simp only [putsL]; change qT (pT _ 26 (sv 0)); simp only [qT, pT, Act.put, sIA, sCS, sCZ]; simp [go_sem, quietTo, Ext.refl, ↓IntWalk.iteOmega, f0, hI1]; (all_goals try simp (disch := omega) only [IntWalk.i64_in]); all_goals rfl
  refine fq 2 rfl rfl rfl cK rfl rfl ?_; apply Exists.intro; constructor
  ·rintro sv w' hw' ⟨_, (f1 : sv 1 = _), -⟩; (try dsimp only at f1)
   have hk9 := (Ext.refl wra).drew.trans hw'; have hR9 := hRa.ext hk9; have hT9 := hTb.ext hk9; have x1 := cell_of_row hR9 e1.out; have x2 := cell_of_row hR9 e2.out; have x5 := cell_of_row hR9 e5.out
   refine ⟨rfl, ?_⟩; simp only [putsL]; change qT (pT (pT _ 27 (sv 1)) 26 (sv 0)); simp only [qT, pT, Act.put, sIA, sCS, sCZ]; simp [go_sem, quietTo, Ext.refl, ↓IntWalk.iteOmega, f1, x1]; (all_goals try simp (disch := omega) only [IntWalk.i64_in]); all_goals rfl
  refine fq 3 rfl rfl rfl cK rfl rfl ?_; apply Exists.intro; constructor
  ·intro sv w' hw' hfa
   refine ⟨rfl, ?_⟩; simp only [putsL]; change qT _; simp only [qT, Act.put, sIA, sCS, sCZ]; simp [go_sem, quietTo, Ext.refl]; all_goals rfl
  refine fq 4 rfl rfl rfl cK rfl rfl ?_; apply Exists.intro; constructor
  ·rintro sv w' hw' ⟨(f3 : sv 3 = _), -⟩; (try dsimp only at f3)
   have hk9 := (Ext.refl wra).drew.trans hw'; have hR9 := hRa.ext hk9; have hT9 := hTb.ext hk9; have x1 := cell_of_row hR9 e1.out; have x2 := cell_of_row hR9 e2.out; have x5 := cell_of_row hR9 e5.out
   refine ⟨rfl, ?_⟩; simp only [putsL]; change qT (pT _ 29 (sv 3)); simp only [qT, pT, Act.put, sIA, sCS, sCZ]; simp [go_sem, quietTo, Ext.refl, ↓IntWalk.iteOmega, f3, hI2]; (all_goals try simp (disch := omega) only [IntWalk.i64_in]); all_goals rfl
  refine fq 5 rfl rfl rfl cK rfl rfl ?_; apply Exists.intro; constructor
  ·rintro sv w' hw' ⟨_, (f4 : sv 4 = _), -⟩; (try dsimp only at f4)
   have hk9 := (Ext.refl wra).drew.trans hw'; have hR9 := hRa.ext hk9; have hT9 := hTb.ext hk9; have x1 := cell_of_row hR9 e1.out; have x2 := cell_of_row hR9 e2.out; have x5 := cell_of_row hR9 e5.out
   refine ⟨rfl, ?_⟩; simp only [putsL]; change qT (pT (pT _ 30 (sv 4)) 29 (sv 3)); simp only [qT, pT, Act.put, sIA, sCS, sCZ]; simp [go_sem, quietTo, Ext.refl, ↓IntWalk.iteOmega, f4, x2]; (all_goals try simp (disch := omega) only [IntWalk.i64_in]); all_goals rfl
  refine fq 6 rfl rfl rfl cK rfl rfl ?_; apply Exists.intro; constructor
  ·intro sv w' hw' hfa
   refine ⟨rfl, ?_⟩; simp only [putsL]; change qT _; simp only [qT, Act.put, sIA, sCS, sCZ]; simp [go_sem, quietTo, Ext.refl]; all_goals rfl
  refine fq 7 rfl rfl rfl cK rfl rfl ?_; apply Exists.intro; constructor
  ·rintro sv w' hw' ⟨(f6 : sv 6 = _), -⟩; (try dsimp only at f6)
   have hk9 := (Ext.refl wra).drew.trans hw'; have hR9 := hRa.ext hk9; have hT9 := hTb.ext hk9; have x1 := cell_of_row hR9 e1.out; have x2 := cell_of_row hR9 e2.out; have x5 := cell_of_row hR9 e5.out
   refine ⟨rfl, ?_⟩; simp only [putsL]; change qT (pT _ 32 (sv 6)); simp only [qT, pT, Act.put, sIA, sCS, sCZ]; simp [go_sem, quietTo, Ext.refl, ↓IntWalk.iteOmega, f6, hI5]; (all_goals try simp (disch := omega) only [IntWalk.i64_in]); all_goals rfl
  refine fq 8 rfl rfl rfl cK rfl rfl ?_; apply Exists.intro; constructor
  ·rintro sv w' hw' ⟨_, (f7 : sv 7 = _), -⟩; (try dsimp only at f7)
   have hk9 := (Ext.refl wra).drew.trans hw'; have hR9 := hRa.ext hk9; have hT9 := hTb.ext hk9; have x1 := cell_of_row hR9 e1.out; have x2 := cell_of_row hR9 e2.out; have x5 := cell_of_row hR9 e5.out
   refine ⟨rfl, ?_⟩; simp only [putsL]; change qT (pT (pT _ 33 (sv 7)) 32 (sv 6)); simp only [qT, pT, Act.put, sIA, sCS, sCZ]; simp [go_sem, quietTo, Ext.refl, ↓IntWalk.iteOmega, f7, x5]; (all_goals try simp (disch := omega) only [IntWalk.i64_in]); all_goals rfl
  refine fac_row 9 rfl rfl rfl cK (fun _ _ h => h.size) (fun _ _ _ _ _ he _ hb => hb.ext he) ?_
  apply Exists.intro
  apply Exists.intro
  apply Exists.intro
  apply Exists.intro
  refine ⟨fun sv w' hw' hfa => ?_, ?_⟩
  ·obtain ⟨_, _, (f2 : sv 2 = _), _, _, (f5 : sv 5 = _), _, _, (f8 : sv 8 = _), -⟩ := hfa; (try dsimp only at f2 f5 f8)
   refine ⟨rfl, ?_⟩; simp only [putsL]; change rowTo _ _ _ _ _ (Sem.run _ (execOp (Act.eval (pT (pT (pT (pT (pT (pT (pT (pT (pT _ 34 (sv 8)) 33 (sv 7)) 32 (sv 6)) 31 (sv 5)) 30 (sv 4)) 29 (sv 3)) 28 (sv 2)) 27 (sv 1)) 26 (sv 0))) _) _); (try simp only [pT, Act.put, sIA, sCS, sCZ]); simp [go_sem, rowTo, Ext.refl, f2, f5, f8]; (all_goals try simp (disch := omega) only [IntWalk.i64_in]); all_goals first | rfl | exact ⟨rfl, rfl⟩ | exact ⟨⟨rfl, rfl⟩, rfl⟩
  refine fq 10 rfl rfl rfl cK rfl rfl ?_; apply Exists.intro; constructor
  ·rintro sv w' hw' ⟨(f0 : sv 0 = _), (f1 : sv 1 = _), (f2 : sv 2 = _), (f3 : sv 3 = _), (f4 : sv 4 = _), (f5 : sv 5 = _), (f6 : sv 6 = _), (f7 : sv 7 = _), (f8 : sv 8 = _), f9, -⟩; (try dsimp only at f0 f1 f2 f3 f4 f5 f6 f7 f8)
   obtain ⟨g9, f9, l9, b9⟩ := f9; replace f9 : sv 9 = _ := f9; obtain ⟨p9, q9⟩ := b9.walk
   have hk9 := (Ext.refl wra).drew.trans hw'; have hR9 := hRa.ext hk9; have hT9 := hTb.ext hk9; have x1 := cell_of_row hR9 e1.out; have x2 := cell_of_row hR9 e2.out; have x5 := cell_of_row hR9 e5.out
   refine ⟨rfl, ?_⟩; simp only [putsL]; change qT (pT (pT (pT (pT (pT (pT (pT (pT (pT (pT _ 35 (sv 9)) 34 (sv 8)) 33 (sv 7)) 32 (sv 6)) 31 (sv 5)) 30 (sv 4)) 29 (sv 3)) 28 (sv 2)) 27 (sv 1)) 26 (sv 0)); simp only [qT, pT, Act.put, sIA, sCS, sCZ]; simp [go_sem, quietTo, Ext.refl, ↓IntWalk.iteOmega, f9, p9, q9]
   all_goals try simp (disch := omega) only [IntWalk.i64_in]
   all_goals first
    | rfl
    | (exact ints_badO B g9 0 3 3 [y1, y2, y5] _ (fun j x hx => by rw [Nat.zero_add]; exact cell_of_row (W := [y1, y2, y5]) b9 hx) b9.lt rfl (by omega) hN4 hN3 hT9)
  refine fq 11 rfl rfl rfl cK rfl rfl ?_; apply Exists.intro; constructor
  ·rintro sv w' hw' ⟨_, _, _, _, _, _, _, _, _, _, (f10 : sv 10 = _), -⟩; (try dsimp only at f10)
   refine ⟨rfl, ?_⟩; simp only [putsL]; change qT (pT (pT (pT (pT (pT (pT (pT (pT (pT (pT (pT _ 36 (sv 10)) 35 (sv 9)) 34 (sv 8)) 33 (sv 7)) 32 (sv 6)) 31 (sv 5)) 30 (sv 4)) 29 (sv 3)) 28 (sv 2)) 27 (sv 1)) 26 (sv 0)); simp only [qT, pT, Act.put, sIA, sCS, sCZ]; simp [go_sem, quietTo, Ext.refl, f10]; all_goals rfl
  refine fq 12 rfl rfl rfl cK rfl rfl ?_; apply Exists.intro; constructor
  ·rintro sv w' hw' ⟨_, _, _, _, _, _, _, _, _, _, _, (f11 : sv 11 = _), -⟩; (try dsimp only at f11)
   refine ⟨rfl, ?_⟩; simp only [putsL]; change qT (pT (pT (pT (pT (pT (pT (pT (pT (pT (pT (pT (pT _ 25 (sv 11)) 36 (sv 10)) 35 (sv 9)) 34 (sv 8)) 33 (sv 7)) 32 (sv 6)) 31 (sv 5)) 30 (sv 4)) 29 (sv 3)) 28 (sv 2)) 27 (sv 1)) 26 (sv 0)); simp only [qT, pT, Act.put, sIA, sCS, sCZ]; simp [go_sem, quietTo, Ext.refl, f11]; all_goals rfl
  refine fac_late 13 rfl rfl Ext.refl cK rfl rfl (fun _ _ _ _ h => h) ?_; apply Exists.intro; constructor
  ·rintro sv w' hw' ⟨_, _, _, _, _, _, _, _, _, _, _, (f11 : sv 11 = _), -⟩; (try dsimp only at f11)
   refine ⟨rfl, fun w2 => ?_⟩
   simp only [putsL]
   change pureTo _ _ (Sem.run _ (execOp (Act.eval (Act.put (Act.put (Act.put (Act.put (Act.put (Act.put (Act.put (Act.put (Act.put (Act.put (Act.put (Act.put _ (some 25) (sv 11)) (some 36) (sv 10)) (some 35) (sv 9)) (some 34) (sv 8)) (some 33) (sv 7)) (some 32) (sv 6)) (some 31) (sv 5)) (some 30) (sv 4)) (some 29) (sv 3)) (some 28) (sv 2)) (some 27) (sv 1)) (some 26) (sv 0))) _) _)
   try simp only [Act.put, sIA, sCS, sCZ]
   simp [go_sem, pureTo, f11]
   (all_goals try simp (disch := omega) only [IntWalk.i64_in]); all_goals rfl
  refine fac_nil fun xb wrb herb hfrb hcrb holdb hapb => ?_
  obtain ⟨(f0 : xb 0 = _), (f1 : xb 1 = _), (f2 : xb 2 = _), (f3 : xb 3 = _), (f4 : xb 4 = _), (f5 : xb 5 = _), (f6 : xb 6 = _), (f7 : xb 7 = _), (f8 : xb 8 = _), f9, (f10 : xb 10 = _), (f11 : xb 11 = _), (f12 : xb 12 = _), (f13 : xb 13 = _), -⟩ := hfrb; (try dsimp only at f0 f1 f2 f3 f4 f5 f6 f7 f8 f10 f11 f12 f13)
  obtain ⟨g9, f9, l9, b9⟩ := f9; replace f9 : xb 9 = _ := f9; obtain ⟨p9, q9⟩ := b9.walk
  change wpList _ _ _ _ (pT (pT (pT (pT (pT (pT (pT (pT (pT (pT (pT (pT (pT (pT _ 26 (xb 0)) 27 (xb 1)) 28 (xb 2)) 29 (xb 3)) 30 (xb 4)) 31 (xb 5)) 32 (xb 6)) 33 (xb 7)) 34 (xb 8)) 35 (xb 9)) 36 (xb 10)) 25 (xb 11)) 37 (xb 12)) 38 (xb 13)) _
  simp only [putsL, Nat.reduceAdd, List.drop_succ_cons, List.drop_zero, List.drop_nil, pT, Act.put, sIA, sCS, sCZ]
  try simp only [f0, f1, f2, f3, f4, f5, f6, f7, f8, f9, f10, f11, f12, f13]
  clear f0 f1 f2 f3 f4 f5 f6 f7 f8 f10 f11 f12 f13; clear holdb hapb
  have hEb := hEa.trans ((Ext.refl wra).drew.trans herb)
  clear hRa hCa hOa hTb hN3 hN4
  go_wp2_with (go_at_call 165; (with_reducible refine Calls.mono (truthS_any _ _) ?_); rintro e w3 ⟨rfl, rfl⟩)
  go_ret
  exact .inl ⟨hF.out, rfl, hEb⟩
 ·have hN3 : ∀ x ∈ [y1, y2, y5], numOk 15 x = true := by
   simp only [Bool.not_eq_false, Bool.and_eq_true] at hN
   intro x hx
   simp only [List.mem_cons, List.not_mem_nil, or_false] at hx
   rcases hx with rfl | rfl | rfl
   ·exact hN.1.1
   ·exact hN.1.2
   ·exact hN.2
  replace hN := Lib.hid hN
  refine wp_region_facts [13] [([],false,false),([0],false,false),([0,1],false,false),([],false,false),([3],false,false),([3,4],false,false),([],false,false),([6],false,false),([6,7],false,false),([0,1,2,3,4,5,6,7,8], false, true),([0,1,2,3,4,5,6,7,8,9],false,false),([0,1,2,3,4,5,6,7,8,9,10],false,false),([0,1,2,3,4,5,6,7,8,9,10,11],false,false),([0,1,2,3,4,5,6,7,8,9,10,11],false,false)] (Ext) Ext (fun _ => True) (by kernel_rfl) (by kernel_rfl) Ext.refl (fun _ _ _ => Ext.trans) (fun _ _ h => h) (fun _ _ h => h.size) (fun _ _ h _ => h) trivial ?_
  dsimp only [List.length_cons, List.length_nil, List.drop_succ_cons, List.drop_zero, List.drop_nil]
  refine fq 0 rfl rfl rfl cK rfl rfl ?_; apply Exists.intro; constructor
  ·intro sv w' hw' hfa
   refine ⟨rfl, ?_⟩; simp only [putsL]; change qT _; simp only [qT, Act.put, sIA, sCS, sCZ]; simp [go_sem, quietTo, Ext.refl]; all_goals rfl
  refine fq 1 rfl rfl rfl cK rfl rfl ?_; apply Exists.intro; constructor
  ·rintro sv w' hw' ⟨(f0 : sv 0 = _), -⟩; (try dsimp only at f0)
   have hk9 := (Ext.refl wra).drew.trans hw'; have hR9 := hRa.ext hk9; have hT9 := hTb.ext hk9; have x1 := cell_of_row hR9 e1.out; have x2 := cell_of_row hR9 e2.out; have x5 := cell_of_row hR9 e5.out
   refine ⟨rfl, ?_⟩; simp only [putsL]; change qT (pT _ 26 (sv 0)); simp only [qT, pT, Act.put, sIA, sCS, sCZ]; simp [go_sem, quietTo, Ext.refl, ↓IntWalk.iteOmega, f0, hI1]; (all_goals try simp (disch := omega) only [IntWalk.i64_in]); all_goals rfl
  refine fq 2 rfl rfl rfl cK rfl rfl ?_; apply Exists.intro; constructor
  ·rintro sv w' hw' ⟨_, (f1 : sv 1 = _), -⟩; (try dsimp only at f1)
   have hk9 := (Ext.refl wra).drew.trans hw'; have hR9 := hRa.ext hk9; have hT9 := hTb.ext hk9; have x1 := cell_of_row hR9 e1.out; have x2 := cell_of_row hR9 e2.out; have x5 := cell_of_row hR9 e5.out
   refine ⟨rfl, ?_⟩; simp only [putsL]; change qT (pT (pT _ 27 (sv 1)) 26 (sv 0)); simp only [qT, pT, Act.put, sIA, sCS, sCZ]; simp [go_sem, quietTo, Ext.refl, ↓IntWalk.iteOmega, f1, x1]; (all_goals try simp (disch := omega) only [IntWalk.i64_in]); all_goals rfl
  refine fq 3 rfl rfl rfl cK rfl rfl ?_; apply Exists.intro; constructor
  ·intro sv w' hw' hfa
   refine ⟨rfl, ?_⟩; simp only [putsL]; change qT _; simp only [qT, Act.put, sIA, sCS, sCZ]; simp [go_sem, quietTo, Ext.refl]; all_goals rfl
  refine fq 4 rfl rfl rfl cK rfl rfl ?_; apply Exists.intro; constructor
  ·rintro sv w' hw' ⟨(f3 : sv 3 = _), -⟩; (try dsimp only at f3)
   have hk9 := (Ext.refl wra).drew.trans hw'; have hR9 := hRa.ext hk9; have hT9 := hTb.ext hk9; have x1 := cell_of_row hR9 e1.out; have x2 := cell_of_row hR9 e2.out; have x5 := cell_of_row hR9 e5.out
   refine ⟨rfl, ?_⟩; simp only [putsL]; change qT (pT _ 29 (sv 3)); simp only [qT, pT, Act.put, sIA, sCS, sCZ]; simp [go_sem, quietTo, Ext.refl, ↓IntWalk.iteOmega, f3, hI2]; (all_goals try simp (disch := omega) only [IntWalk.i64_in]); all_goals rfl
  refine fq 5 rfl rfl rfl cK rfl rfl ?_; apply Exists.intro; constructor
  ·rintro sv w' hw' ⟨_, (f4 : sv 4 = _), -⟩; (try dsimp only at f4)
   have hk9 := (Ext.refl wra).drew.trans hw'; have hR9 := hRa.ext hk9; have hT9 := hTb.ext hk9; have x1 := cell_of_row hR9 e1.out; have x2 := cell_of_row hR9 e2.out; have x5 := cell_of_row hR9 e5.out
   refine ⟨rfl, ?_⟩; simp only [putsL]; change qT (pT (pT _ 30 (sv 4)) 29 (sv 3)); simp only [qT, pT, Act.put, sIA, sCS, sCZ]; simp [go_sem, quietTo, Ext.refl, ↓IntWalk.iteOmega, f4, x2]; (all_goals try simp (disch := omega) only [IntWalk.i64_in]); all_goals rfl
  refine fq 6 rfl rfl rfl cK rfl rfl ?_; apply Exists.intro; constructor
  ·intro sv w' hw' hfa
   refine ⟨rfl, ?_⟩; simp only [putsL]; change qT _; simp only [qT, Act.put, sIA, sCS, sCZ]; simp [go_sem, quietTo, Ext.refl]; all_goals rfl
  refine fq 7 rfl rfl rfl cK rfl rfl ?_; apply Exists.intro; constructor
  ·rintro sv w' hw' ⟨(f6 : sv 6 = _), -⟩; (try dsimp only at f6)
   have hk9 := (Ext.refl wra).drew.trans hw'; have hR9 := hRa.ext hk9; have hT9 := hTb.ext hk9; have x1 := cell_of_row hR9 e1.out; have x2 := cell_of_row hR9 e2.out; have x5 := cell_of_row hR9 e5.out
   refine ⟨rfl, ?_⟩; simp only [putsL]; change qT (pT _ 32 (sv 6)); simp only [qT, pT, Act.put, sIA, sCS, sCZ]; simp [go_sem, quietTo, Ext.refl, ↓IntWalk.iteOmega, f6, hI5]; (all_goals try simp (disch := omega) only [IntWalk.i64_in]); all_goals rfl
  refine fq 8 rfl rfl rfl cK rfl rfl ?_; apply Exists.intro; constructor
  ·rintro sv w' hw' ⟨_, (f7 : sv 7 = _), -⟩; (try dsimp only at f7)
   have hk9 := (Ext.refl wra).drew.trans hw'; have hR9 := hRa.ext hk9; have hT9 := hTb.ext hk9; have x1 := cell_of_row hR9 e1.out; have x2 := cell_of_row hR9 e2.out; have x5 := cell_of_row hR9 e5.out
   refine ⟨rfl, ?_⟩; simp only [putsL]; change qT (pT (pT _ 33 (sv 7)) 32 (sv 6)); simp only [qT, pT, Act.put, sIA, sCS, sCZ]; simp [go_sem, quietTo, Ext.refl, ↓IntWalk.iteOmega, f7, x5]; (all_goals try simp (disch := omega) only [IntWalk.i64_in]); all_goals rfl
  refine fac_row 9 rfl rfl rfl cK (fun _ _ h => h.size) (fun _ _ _ _ _ he _ hb => hb.ext he) ?_
  apply Exists.intro
  apply Exists.intro
  apply Exists.intro
  apply Exists.intro
  refine ⟨fun sv w' hw' hfa => ?_, ?_⟩
  ·obtain ⟨_, _, (f2 : sv 2 = _), _, _, (f5 : sv 5 = _), _, _, (f8 : sv 8 = _), -⟩ := hfa; (try dsimp only at f2 f5 f8)
   refine ⟨rfl, ?_⟩; simp only [putsL]; change rowTo _ _ _ _ _ (Sem.run _ (execOp (Act.eval (pT (pT (pT (pT (pT (pT (pT (pT (pT _ 34 (sv 8)) 33 (sv 7)) 32 (sv 6)) 31 (sv 5)) 30 (sv 4)) 29 (sv 3)) 28 (sv 2)) 27 (sv 1)) 26 (sv 0))) _) _); (try simp only [pT, Act.put, sIA, sCS, sCZ]); simp [go_sem, rowTo, Ext.refl, f2, f5, f8]; (all_goals try simp (disch := omega) only [IntWalk.i64_in]); all_goals first | rfl | exact ⟨rfl, rfl⟩ | exact ⟨⟨rfl, rfl⟩, rfl⟩
  refine fac_any 10 rfl rfl rfl cK ?_
  refine ⟨(fun y u => ∃ (p : Option Addr) (c : Nat), y 10 = .tuple #[.slice p 3 c, .bool true] ∧ Slc 1 intC u p 3 c [numV y1, numV y2, numV y5]), fun sv w' hw' hfa => ?_, ?_, ?_⟩
  ·obtain ⟨(f0 : sv 0 = _), (f1 : sv 1 = _), (f2 : sv 2 = _), (f3 : sv 3 = _), (f4 : sv 4 = _), (f5 : sv 5 = _), (f6 : sv 6 = _), (f7 : sv 7 = _), (f8 : sv 8 = _), f9, -⟩ := hfa; (try dsimp only at f0 f1 f2 f3 f4 f5 f6 f7 f8)
   obtain ⟨g9, f9, l9, b9⟩ := f9; replace f9 : sv 9 = _ := f9; obtain ⟨p9, q9⟩ := b9.walk
   have hk9 := (Ext.refl wra).drew.trans hw'; have hR9 := hRa.ext hk9; have hT9 := hTb.ext hk9; have x1 := cell_of_row hR9 e1.out; have x2 := cell_of_row hR9 e2.out; have x5 := cell_of_row hR9 e5.out
   refine ⟨rfl, ?_⟩
   simp only [putsL]
   change outc _ _ (Sem.run _ (execOp (Act.eval (pT (pT (pT (pT (pT (pT (pT (pT (pT (pT _ 35 (sv 9)) 34 (sv 8)) 33 (sv 7)) 32 (sv 6)) 31 (sv 5)) 30 (sv 4)) 29 (sv 3)) 28 (sv 2)) 27 (sv 1)) 26 (sv 0))) _) _)
   try simp only [pT, Act.put, sIA, sCS, sCZ]
   simp [go_sem, outc, f9, p9, q9]
   refine (ints_goodO B g9 0 3 3 [y1, y2, y5] _ (fun j x hx => by rw [Nat.zero_add]; exact cell_of_row (W := [y1, y2, y5]) b9 hx) b9.lt rfl (by omega) hN4 hN3 hT9).mono ?_
   rintro e w9 ⟨⟨p9, c9, rfl, hS⟩, hb9⟩
   exact ⟨_, rfl, hb9, p9, c9, by simp [upd], hS⟩
  ·exact fun x w w' ⟨p, c, h1, h2⟩ he => ⟨p, c, h1, h2.ext he⟩
  refine fac_any 11 rfl rfl rfl cK ?_
  refine ⟨(fun y u => ∃ (p : Option Addr) (c : Nat), y 11 = .tuple #[.slice p 3 c, .bool true] ∧ Slc 1 intC u p 3 c [numV y1, numV y2, numV y5]), fun sv w' hw' hfa => ?_, ?_, ?_⟩
  ·obtain ⟨(f0 : sv 0 = _), (f1 : sv 1 = _), (f2 : sv 2 = _), (f3 : sv 3 = _), (f4 : sv 4 = _), (f5 : sv 5 = _), (f6 : sv 6 = _), (f7 : sv 7 = _), (f8 : sv 8 = _), f9, f10, -⟩ := hfa; (try dsimp only at f0 f1 f2 f3 f4 f5 f6 f7 f8)
   obtain ⟨g9, f9, l9, b9⟩ := f9; replace f9 : sv 9 = _ := f9; obtain ⟨p9, q9⟩ := b9.walk
   obtain ⟨p10, c10, f10, hs10⟩ := f10
   replace f10 : sv 10 = _ := f10
   have hk9 := (Ext.refl wra).drew.trans hw'; have hR9 := hRa.ext hk9; have hT9 := hTb.ext hk9; have x1 := cell_of_row hR9 e1.out; have x2 := cell_of_row hR9 e2.out; have x5 := cell_of_row hR9 e5.out
   refine ⟨rfl, ?_⟩
   simp only [putsL]
   change outc _ _ (Sem.run _ (execOp (Act.eval (pT (pT (pT (pT (pT (pT (pT (pT (pT (pT (pT _ 36 (sv 10)) 35 (sv 9)) 34 (sv 8)) 33 (sv 7)) 32 (sv 6)) 31 (sv 5)) 30 (sv 4)) 29 (sv 3)) 28 (sv 2)) 27 (sv 1)) 26 (sv 0))) _) _)
   try simp only [pT, Act.put, sIA, sCS, sCZ]
   simp [go_sem, outc, f10]
   exact ⟨Ext.refl _, p10, c10, by simp [upd], hs10⟩
  ·exact fun x w w' ⟨p, c, h1, h2⟩ he => ⟨p, c, h1, h2.ext he⟩
  refine fac_any 12 rfl rfl rfl cK ?_
  refine ⟨(fun y u => ∃ (p : Option Addr) (c : Nat), y 12 = .slice p 3 c ∧ Slc 1 intC u p 3 c [numV y1, numV y2, numV y5]), fun sv w' hw' hfa => ?_, ?_, ?_⟩
  ·obtain ⟨(f0 : sv 0 = _), (f1 : sv 1 = _), (f2 : sv 2 = _), (f3 : sv 3 = _), (f4 : sv 4 = _), (f5 : sv 5 = _), (f6 : sv 6 = _), (f7 : sv 7 = _), (f8 : sv 8 = _), f9, f10, f11, -⟩ := hfa; (try dsimp only at f0 f1 f2 f3 f4 f5 f6 f7 f8)
   obtain ⟨g9, f9, l9, b9⟩ := f9; replace f9 : sv 9 = _ := f9; obtain ⟨p9, q9⟩ := b9.walk
   obtain ⟨p10, c10, f10, hs10⟩ := f10
   replace f10 : sv 10 = _ := f10
   obtain ⟨p11, c11, f11, hs11⟩ := f11
   replace f11 : sv 11 = _ := f11
   have hk9 := (Ext.refl wra).drew.trans hw'; have hR9 := hRa.ext hk9; have hT9 := hTb.ext hk9; have x1 := cell_of_row hR9 e1.out; have x2 := cell_of_row hR9 e2.out; have x5 := cell_of_row hR9 e5.out
   refine ⟨rfl, ?_⟩
   simp only [putsL]
   change outc _ _ (Sem.run _ (execOp (Act.eval (pT (pT (pT (pT (pT (pT (pT (pT (pT (pT (pT (pT _ 25 (sv 11)) 36 (sv 10)) 35 (sv 9)) 34 (sv 8)) 33 (sv 7)) 32 (sv 6)) 31 (sv 5)) 30 (sv 4)) 29 (sv 3)) 28 (sv 2)) 27 (sv 1)) 26 (sv 0))) _) _)
   try simp only [pT, Act.put, sIA, sCS, sCZ]
   simp [go_sem, outc, f11]
   exact ⟨Ext.refl _, p11, c11, by simp [upd], hs11⟩
  ·exact fun x w w' ⟨p, c, h1, h2⟩ he => ⟨p, c, h1, h2.ext he⟩
  refine fac_late 13 rfl rfl Ext.refl cK rfl rfl (fun _ _ _ _ h => h) ?_; apply Exists.intro; constructor
  ·rintro sv w' hw' ⟨_, _, _, _, _, _, _, _, _, _, _, f11, -⟩
   obtain ⟨p11, c11, f11, hs11⟩ := f11
   replace f11 : sv 11 = _ := f11
   refine ⟨rfl, fun w2 => ?_⟩
   simp only [putsL]
   change pureTo _ _ (Sem.run _ (execOp (Act.eval (Act.put (Act.put (Act.put (Act.put (Act.put (Act.put (Act.put (Act.put (Act.put (Act.put (Act.put (Act.put _ (some 25) (sv 11)) (some 36) (sv 10)) (some 35) (sv 9)) (some 34) (sv 8)) (some 33) (sv 7)) (some 32) (sv 6)) (some 31) (sv 5)) (some 30) (sv 4)) (some 29) (sv 3)) (some 28) (sv 2)) (some 27) (sv 1)) (some 26) (sv 0))) _) _)
   try simp only [Act.put, sIA, sCS, sCZ]
   simp [go_sem, pureTo, f11]
   (all_goals try simp (disch := omega) only [IntWalk.i64_in]); all_goals rfl
  refine fac_nil fun xb wrb herb hfrb hcrb holdb hapb => ?_
  obtain ⟨(f0 : xb 0 = _), (f1 : xb 1 = _), (f2 : xb 2 = _), (f3 : xb 3 = _), (f4 : xb 4 = _), (f5 : xb 5 = _), (f6 : xb 6 = _), (f7 : xb 7 = _), (f8 : xb 8 = _), f9, f10, f11, f12, f13, -⟩ := hfrb; (try dsimp only at f0 f1 f2 f3 f4 f5 f6 f7 f8)
  obtain ⟨g9, f9, l9, b9⟩ := f9; replace f9 : xb 9 = _ := f9; obtain ⟨p9, q9⟩ := b9.walk
  obtain ⟨p10, c10, f10, hs10⟩ := f10
  replace f10 : xb 10 = _ := f10
  obtain ⟨p11, c11, f11, hs11⟩ := f11
  replace f11 : xb 11 = _ := f11
  obtain ⟨p12, c12, f12, hs12⟩ := f12
  replace f12 : xb 12 = _ := f12; replace f13 : xb 13 = _ := f13
  try dsimp only at f13
  change wpList _ _ _ _ (pT (pT (pT (pT (pT (pT (pT (pT (pT (pT (pT (pT (pT (pT _ 26 (xb 0)) 27 (xb 1)) 28 (xb 2)) 29 (xb 3)) 30 (xb 4)) 31 (xb 5)) 32 (xb 6)) 33 (xb 7)) 34 (xb 8)) 35 (xb 9)) 36 (xb 10)) 25 (xb 11)) 37 (xb 12)) 38 (xb 13)) _
  simp only [putsL, Nat.reduceAdd, List.drop_succ_cons, List.drop_zero, List.drop_nil, pT, Act.put, sIA, sCS, sCZ]
  try simp only [f0, f1, f2, f3, f4, f5, f6, f7, f8, f9, f10, f11, f12, f13]
  clear f0 f1 f2 f3 f4 f5 f6 f7 f8 f13; clear holdb hapb
  have hkb := (Ext.refl wra).drew.trans herb
  obtain ⟨ib, io, rfl, hib, hiE⟩ := hs12.1.2.2 (by decide)
  have v0 : wrb.cell? ⟨ib, io, none⟩ = some (.int .i64 (numV y1)) := by simpa using hiE 0 _ rfl 0 _ rfl
  have v1 : wrb.cell? ⟨ib, io + 1, none⟩ = some (.int .i64 (numV y2)) := by simpa using hiE 1 _ rfl 0 _ rfl
  have v2 : wrb.cell? ⟨ib, io + 2, none⟩ = some (.int .i64 (numV y5)) := by simpa using hiE 2 _ rfl 0 _ rfl
  have hRb := hRa.ext hkb
  have hCb := hCa.ext hkb
  have hOb := Lib.hid (own_ext hkb hOa.out)
  have hEb := hEa.trans hkb
  clear hs10 hs11 hs12 hiE f10 f11 hRa hCa hOa hTb hN3 hN4 hkb herb
  by_cases hK0 : K = 0
  ·have hF : lineF s.data.toList = none := by rw [hlK.out, if_pos (.inr hK0)]
   replace hF := Lib.hid hF
   subst hK0
   clear hRb hCb hOb v0 v1 v2
   go_wp2_with (go_at_call 165; (with_reducible refine Calls.mono (truthS_any _ _) ?_); rintro e w3 ⟨rfl, rfl⟩)
   go_ret
   exact .inl ⟨hF.out, rfl, hEb⟩
  have hK0b : (K == 0) = false := beq_false_of_ne hK0
  by_cases hK1 : K = 1
  ·subst hK1
   by_cases h7 : W.length = 7
   rotate_left
   ·have h7b : ((W.length : Int) == 7) = false := by simp; omega
    have h7c : ¬ (W.length : Int) = 7 := by omega
    have hF : lineF s.data.toList = none := by rw [hlK.out, if_neg (fun e => e.elim hN.out (by omega)), if_pos rfl, if_neg h7]
    replace hF := Lib.hid hF; clear hRb hCb hOb v0 v1 v2 h7
    go_wp2_with (go_at_call 165; (with_reducible refine Calls.mono (truthS_any _ _) ?_); rintro e w3 ⟨rfl, rfl⟩)
    go_ret
    exact .inl ⟨hF.out, rfl, hEb⟩
   obtain ⟨y6, e6⟩ := getD_some (rfl : W.length = W.length) (show 6 < W.length by omega)
   have hI6 : (6 : Int) < W.length := by omega
   have h7b : ((W.length : Int) == 7) = true := by simp; omega
   have h7c : (W.length : Int) = 7 := by omega
   have hF : lineF s.data.toList = some ⟨y0, numV y1, numV y2,1, y4, numV y5, y6⟩ := by
    rw [hlK.out, if_neg (fun e => e.elim hN.out (by omega)), if_pos rfl, if_pos h7]
    rw [List.getD_eq_getElem?_getD, e6]; rfl
   replace hF := Lib.hid hF; replace e6 := Lib.hid e6
   go_upto_region 8 with (go_at_call 165; (with_reducible refine Calls.mono (truthS_any _ _) ?_); rintro e w3 ⟨rfl, rfl⟩)
   refine wp_region_facts [] [([],false,false),([0],false,false),([0,1],false,false),([],false,false),([3],false,false),([3,4],false,false),([],false,false),([6],false,false),([6,7],false,false),([],false,false),([],false,false),([10],false,false),([10,11],false,false),([],false,false),([13],false,false),([13,14],false,false),([0,1,2,3,4,5,6,7,8,9,10,11,12,13,14,15],false,false),([], false, true)] (Ext) Ext (fun _ => True) (by kernel_rfl) (by kernel_rfl) Ext.refl (fun _ _ _ => Ext.trans) (fun _ _ h => h) (fun _ _ h => h.size) (fun _ _ h _ => h) trivial ?_
   dsimp only [List.length_cons, List.length_nil, List.drop_succ_cons, List.drop_zero, List.drop_nil]
   refine fq 0 rfl rfl rfl cK rfl rfl ?_; apply Exists.intro; constructor
   ·intro sv w' hw' hfa
    refine ⟨rfl, ?_⟩; simp only [putsL]; change qT _; simp only [qT, Act.put, sIA, sCS, sCZ]; simp [go_sem, quietTo, Ext.refl]; all_goals rfl
   refine fq 1 rfl rfl rfl cK rfl rfl ?_; apply Exists.intro; constructor
   ·rintro sv w' hw' ⟨(f0 : sv 0 = _), -⟩; (try dsimp only at f0)
    have hk9 := (Ext.refl wrb).drew.trans hw'; have hR9 := hRb.ext hk9; have x0 := cell_of_row hR9 e0.out; have x4 := cell_of_row hR9 e4.out; have i0 := (hk9.walk.1 _ _ hib).trans v0; have i1 := (hk9.walk.1 _ _ hib).trans v1; have i2 := (hk9.walk.1 _ _ hib).trans v2
    refine ⟨rfl, ?_⟩; simp only [putsL]; change qT (pT _ 54 (sv 0)); simp only [qT, pT, Act.put, sIA, sCS, sCZ]; simp [go_sem, quietTo, Ext.refl, ↓IntWalk.iteOmega, f0, hI0]; (all_goals try simp (disch := omega) only [IntWalk.i64_in]); all_goals rfl
   refine fq 2 rfl rfl rfl cK rfl rfl ?_; apply Exists.intro; constructor
   ·rintro sv w' hw' ⟨_, (f1 : sv 1 = _), -⟩; (try dsimp only at f1)
    have hk9 := (Ext.refl wrb).drew.trans hw'; have hR9 := hRb.ext hk9; have x0 := cell_of_row hR9 e0.out; have x4 := cell_of_row hR9 e4.out; have i0 := (hk9.walk.1 _ _ hib).trans v0; have i1 := (hk9.walk.1 _ _ hib).trans v1; have i2 := (hk9.walk.1 _ _ hib).trans v2
    refine ⟨rfl, ?_⟩; simp only [putsL]; change qT (pT (pT _ 55 (sv 1)) 54 (sv 0)); simp only [qT, pT, Act.put, sIA, sCS, sCZ]; simp [go_sem, quietTo, Ext.refl, ↓IntWalk.iteOmega, f1, x0]; (all_goals try simp (disch := omega) only [IntWalk.i64_in]); all_goals rfl
   refine fq 3 rfl rfl rfl cK rfl rfl ?_; apply Exists.intro; constructor
   ·intro sv w' hw' hfa
    refine ⟨rfl, ?_⟩; simp only [putsL]; change qT _; simp only [qT, Act.put, sIA, sCS, sCZ]; simp [go_sem, quietTo, Ext.refl]; all_goals rfl
   refine fq 4 rfl rfl rfl cK rfl rfl ?_; apply Exists.intro; constructor
   ·rintro sv w' hw' ⟨(f3 : sv 3 = _), -⟩; (try dsimp only at f3)
    refine ⟨rfl, ?_⟩; simp only [putsL]; change qT (pT _ 57 (sv 3)); simp only [qT, pT, Act.put, sIA, sCS, sCZ]; simp [go_sem, quietTo, Ext.refl, ↓IntWalk.iteOmega, f3]; (all_goals try simp (disch := omega) only [IntWalk.i64_in]); all_goals rfl
   refine fq 5 rfl rfl rfl cK rfl rfl ?_; apply Exists.intro; constructor
   ·rintro sv w' hw' ⟨_, (f4 : sv 4 = _), -⟩; (try dsimp only at f4)
    have hk9 := (Ext.refl wrb).drew.trans hw'; have hR9 := hRb.ext hk9; have x0 := cell_of_row hR9 e0.out; have x4 := cell_of_row hR9 e4.out; have i0 := (hk9.walk.1 _ _ hib).trans v0; have i1 := (hk9.walk.1 _ _ hib).trans v1; have i2 := (hk9.walk.1 _ _ hib).trans v2
    refine ⟨rfl, ?_⟩; simp only [putsL]; change qT (pT (pT _ 58 (sv 4)) 57 (sv 3)); simp only [qT, pT, Act.put, sIA, sCS, sCZ]; simp [go_sem, quietTo, Ext.refl, ↓IntWalk.iteOmega, f4, i0]; (all_goals try simp (disch := omega) only [IntWalk.i64_in]); all_goals rfl
   refine fq 6 rfl rfl rfl cK rfl rfl ?_; apply Exists.intro; constructor
   ·intro sv w' hw' hfa
    refine ⟨rfl, ?_⟩; simp only [putsL]; change qT _; simp only [qT, Act.put, sIA, sCS, sCZ]; simp [go_sem, quietTo, Ext.refl]; all_goals rfl
   refine fq 7 rfl rfl rfl cK rfl rfl ?_; apply Exists.intro; constructor
   ·rintro sv w' hw' ⟨(f6 : sv 6 = _), -⟩; (try dsimp only at f6)
    refine ⟨rfl, ?_⟩; simp only [putsL]; change qT (pT _ 60 (sv 6)); simp only [qT, pT, Act.put, sIA, sCS, sCZ]; simp [go_sem, quietTo, Ext.refl, ↓IntWalk.iteOmega, f6]; (all_goals try simp (disch := omega) only [IntWalk.i64_in]); all_goals rfl
   refine fq 8 rfl rfl rfl cK rfl rfl ?_; apply Exists.intro; constructor
   ·rintro sv w' hw' ⟨_, (f7 : sv 7 = _), -⟩; (try dsimp only at f7)
    have hk9 := (Ext.refl wrb).drew.trans hw'; have hR9 := hRb.ext hk9; have x0 := cell_of_row hR9 e0.out; have x4 := cell_of_row hR9 e4.out; have i0 := (hk9.walk.1 _ _ hib).trans v0; have i1 := (hk9.walk.1 _ _ hib).trans v1; have i2 := (hk9.walk.1 _ _ hib).trans v2
    refine ⟨rfl, ?_⟩; simp only [putsL]; change qT (pT (pT _ 61 (sv 7)) 60 (sv 6)); simp only [qT, pT, Act.put, sIA, sCS, sCZ]; simp [go_sem, quietTo, Ext.refl, ↓IntWalk.iteOmega, f7, i1]; (all_goals try simp (disch := omega) only [IntWalk.i64_in]); all_goals rfl
   refine fq 9 rfl rfl rfl cK rfl rfl ?_; apply Exists.intro; constructor
   ·intro sv w' hw' hfa
    refine ⟨rfl, ?_⟩; simp only [putsL]; change qT _; simp only [qT, Act.put, sIA, sCS, sCZ]; simp [go_sem, quietTo, Ext.refl]; all_goals rfl
   refine fq 10 rfl rfl rfl cK rfl rfl ?_; apply Exists.intro; constructor
   ·intro sv w' hw' hfa
    refine ⟨rfl, ?_⟩; simp only [putsL]; change qT _; simp only [qT, Act.put, sIA, sCS, sCZ]; simp [go_sem, quietTo, Ext.refl]; all_goals rfl
   refine fq 11 rfl rfl rfl cK rfl rfl ?_; apply Exists.intro; constructor
   ·rintro sv w' hw' ⟨(f10 : sv 10 = _), -⟩; (try dsimp only at f10)
    have hk9 := (Ext.refl wrb).drew.trans hw'; have hR9 := hRb.ext hk9; have x0 := cell_of_row hR9 e0.out; have x4 := cell_of_row hR9 e4.out; have i0 := (hk9.walk.1 _ _ hib).trans v0; have i1 := (hk9.walk.1 _ _ hib).trans v1; have i2 := (hk9.walk.1 _ _ hib).trans v2
    refine ⟨rfl, ?_⟩; simp only [putsL]; change qT (pT _ 64 (sv 10)); simp only [qT, pT, Act.put, sIA, sCS, sCZ]; simp [go_sem, quietTo, Ext.refl, ↓IntWalk.iteOmega, f10, hI4]; (all_goals try simp (disch := omega) only [IntWalk.i64_in]); all_goals rfl
   refine fq 12 rfl rfl rfl cK rfl rfl ?_; apply Exists.intro; constructor
   ·rintro sv w' hw' ⟨_, (f11 : sv 11 = _), -⟩; (try dsimp only at f11)
    have hk9 := (Ext.refl wrb).drew.trans hw'; have hR9 := hRb.ext hk9; have x0 := cell_of_row hR9 e0.out; have x4 := cell_of_row hR9 e4.out; have i0 := (hk9.walk.1 _ _ hib).trans v0; have i1 := (hk9.walk.1 _ _ hib).trans v1; have i2 := (hk9.walk.1 _ _ hib).trans v2
    refine ⟨rfl, ?_⟩; simp only [putsL]; change qT (pT (pT _ 65 (sv 11)) 64 (sv 10)); simp only [qT, pT, Act.put, sIA, sCS, sCZ]; simp [go_sem, quietTo, Ext.refl, ↓IntWalk.iteOmega, f11, x4]; (all_goals try simp (disch := omega) only [IntWalk.i64_in]); all_goals rfl
   refine fq 13 rfl rfl rfl cK rfl rfl ?_; apply Exists.intro; constructor
   ·intro sv w' hw' hfa
    refine ⟨rfl, ?_⟩; simp only [putsL]; change qT _; simp only [qT, Act.put, sIA, sCS, sCZ]; simp [go_sem, quietTo, Ext.refl]; all_goals rfl
   refine fq 14 rfl rfl rfl cK rfl rfl ?_; apply Exists.intro; constructor
   ·rintro sv w' hw' ⟨(f13 : sv 13 = _), -⟩; (try dsimp only at f13)
    refine ⟨rfl, ?_⟩; simp only [putsL]; change qT (pT _ 67 (sv 13)); simp only [qT, pT, Act.put, sIA, sCS, sCZ]; simp [go_sem, quietTo, Ext.refl, ↓IntWalk.iteOmega, f13]; (all_goals try simp (disch := omega) only [IntWalk.i64_in]); all_goals rfl
   refine fq 15 rfl rfl rfl cK rfl rfl ?_; apply Exists.intro; constructor
   ·rintro sv w' hw' ⟨_, (f14 : sv 14 = _), -⟩; (try dsimp only at f14)
    have hk9 := (Ext.refl wrb).drew.trans hw'; have hR9 := hRb.ext hk9; have x0 := cell_of_row hR9 e0.out; have x4 := cell_of_row hR9 e4.out; have i0 := (hk9.walk.1 _ _ hib).trans v0; have i1 := (hk9.walk.1 _ _ hib).trans v1; have i2 := (hk9.walk.1 _ _ hib).trans v2
    refine ⟨rfl, ?_⟩; simp only [putsL]; change qT (pT (pT _ 68 (sv 14)) 67 (sv 13)); simp only [qT, pT, Act.put, sIA, sCS, sCZ]; simp [go_sem, quietTo, Ext.refl, ↓IntWalk.iteOmega, f14, i2]; (all_goals try simp (disch := omega) only [IntWalk.i64_in]); all_goals rfl
   refine fq 16 rfl rfl rfl cK rfl rfl ?_; apply Exists.intro; constructor
   ·rintro sv w' hw' ⟨_, _, (f2 : sv 2 = _), _, _, (f5 : sv 5 = _), _, _, (f8 : sv 8 = _), (f9 : sv 9 = _), _, _, (f12 : sv 12 = _), _, _, (f15 : sv 15 = _), -⟩; (try dsimp only at f2 f5 f8 f9 f12 f15)
    refine ⟨rfl, ?_⟩; simp only [putsL]; change qT (pT (pT (pT (pT (pT (pT (pT (pT (pT (pT (pT (pT (pT (pT (pT (pT _ 69 (sv 15)) 68 (sv 14)) 67 (sv 13)) 66 (sv 12)) 65 (sv 11)) 64 (sv 10)) 63 (sv 9)) 62 (sv 8)) 61 (sv 7)) 60 (sv 6)) 59 (sv 5)) 58 (sv 4)) 57 (sv 3)) 56 (sv 2)) 55 (sv 1)) 54 (sv 0)); simp only [qT, pT, Act.put, sIA, sCS, sCZ]; simp [go_sem, quietTo, Ext.refl, f2, f5, f8, f9, f12, f15]; all_goals rfl
   refine fac_box 17 rfl rfl rfl cK (fun _ _ h => h.size) (fun _ _ _ _ _ he _ hb => hb.ext he) ?_
   apply Exists.intro
   apply Exists.intro
   refine ⟨fun sv w' hw' hfa => ?_, ?_⟩
   ·refine ⟨rfl, ?_⟩
    simp only [putsL]
    change boxTo _ _ _ (Sem.run _ (execOp (Act.eval _) _) _)
    try simp only [Act.put, sIA, sCS, sCZ]
    simp [go_sem, boxTo, Ext.refl]
    (all_goals try simp (disch := omega) only [IntWalk.i64_in]); all_goals first | rfl | exact ⟨rfl, rfl⟩ | exact ⟨⟨rfl, rfl⟩, rfl⟩
   refine fac_nil fun xc wrc herc hfrc hcrc holdc hapc => ?_
   obtain ⟨(f0 : xc 0 = _), (f1 : xc 1 = _), (f2 : xc 2 = _), (f3 : xc 3 = _), (f4 : xc 4 = _), (f5 : xc 5 = _), (f6 : xc 6 = _), (f7 : xc 7 = _), (f8 : xc 8 = _), (f9 : xc 9 = _), (f10 : xc 10 = _), (f11 : xc 11 = _), (f12 : xc 12 = _), (f13 : xc 13 = _), (f14 : xc 14 = _), (f15 : xc 15 = _), (f16 : xc 16 = _), f17, -⟩ := hfrc; (try dsimp only at f0 f1 f2 f3 f4 f5 f6 f7 f8 f9 f10 f11 f12 f13 f14 f15 f16)
   obtain ⟨g17, f17, l17, b17⟩ := f17; replace f17 : xc 17 = _ := f17; obtain ⟨p17, q17⟩ := b17.walk
   change wpList _ _ _ _ (pT (pT (pT (pT (pT (pT (pT (pT (pT (pT (pT (pT (pT (pT (pT (pT (pT (pT _ 54 (xc 0)) 55 (xc 1)) 56 (xc 2)) 57 (xc 3)) 58 (xc 4)) 59 (xc 5)) 60 (xc 6)) 61 (xc 7)) 62 (xc 8)) 63 (xc 9)) 64 (xc 10)) 65 (xc 11)) 66 (xc 12)) 67 (xc 13)) 68 (xc 14)) 69 (xc 15)) 70 (xc 16)) 8 (xc 17)) _
   simp only [putsL, Nat.reduceAdd, List.drop_succ_cons, List.drop_zero, List.drop_nil, pT, Act.put, sIA, sCS, sCZ]
   try simp only [f0, f1, f2, f3, f4, f5, f6, f7, f8, f9, f10, f11, f12, f13, f14, f15, f16, f17]
   clear f0 f1 f2 f3 f4 f5 f6 f7 f8 f9 f10 f11 f12 f13 f14 f15 f16; clear holdc hapc
   have hkc := (Ext.refl wrb).drew.trans herc
   have hRc := hRb.ext hkc
   have hCc := hCb.ext hkc
   have hOc := Lib.hid (own_ext hkc hOb.out)
   have hEc := hEb.trans hkc
   have x6 := cell_of_row hRc e6.out
   have lRc := hRc.lt
   have l17b : wrb.heap.size ≤ g17 := l17
   have lRb := hRb.lt
   have lCb := hCb.lt
   have hsb := hEb.size
   have hn3 : gC ≠ g17 := by omega
   have hn5 : ∀ h, v.ownBlock = some h → h ≠ g17 := fun h e => by have := (hOb.out.lt h e).2; omega
   have hn6 : ¬ u.heap.size = g17 := by omega
   have hn7 : ¬ g17 = u.heap.size := by omega
   have l18 := b17.lt
   clear hRb hCb hOb v0 v1 v2 hkc herc
   go_upto_region 11 with fail
   have hb9 : Blk ((set7 wrc g17 ⟨y0, numV y1, numV y2,1, y4, numV y5, ⟨#[]⟩⟩).setCell ⟨g17,6, none⟩ (.string y6)) g17 79 #[.string y0, .int .i64 (numV y1), .int .i64 (numV y2), .int .i64 1, .string y4, .int .i64 (numV y5), .string y6] := Blk.cast ((set7_blk b17).set_ 6 _) (by simp)
   have hc9 := (set7_far (x := ⟨y0, numV y1, numV y2,1, y4, numV y5, ⟨#[]⟩⟩) hCc hn3).far (p := ⟨g17,6, none⟩) (by simp; omega) (.string y6)
   have he9 := (set7_ext (x := ⟨y0, numV y1, numV y2,1, y4, numV y5, ⟨#[]⟩⟩) (g := g17) hEc (by omega)).setCell (p := ⟨g17,6, none⟩) (by simp; omega) (.string y6)
   have ho9 := own_setFar (own_set7 (x := ⟨y0, numV y1, numV y2,1, y4, numV y5, ⟨#[]⟩⟩) hOc.out (g := g17) (.inr hn5)) (p := ⟨g17,6, none⟩) hn5 (.string y6)
   change Code.wp _ _ _ _ ((set7 wrc g17 ⟨y0, numV y1, numV y2,1, y4, numV y5, ⟨#[]⟩⟩).setCell ⟨g17,6, none⟩ (.string y6))
   generalize (set7 wrc g17 ⟨y0, numV y1, numV y2,1, y4, numV y5, ⟨#[]⟩⟩).setCell ⟨g17,6, none⟩ (.string y6) = W9 at *
   clear p17 q17 hCc hOc
   obtain ⟨p9, q9⟩ := hb9.walk
   obtain ⟨pC, qC⟩ := hc9.walk
   have l18 := hb9.lt
   have lC9 := hc9.lt
   have hs9 := he9.size
   replace ho9 := Lib.hid ho9
   go_wp2_with (at_builtin; go_loud (refine wp_app1 _ (.tmp 77) (.tmp 79) 31 79 7 80 _ rfl rfl Tryz.underlying31 sliInfo rfl (by decide) (by decide) (gC + 1) _ k _ rfl (ho9.out.alloc _) W9.heap.size (slipC ⟨y0, numV y1, numV y2,1, y4, numV y5, y6⟩) rfl rfl (by exact Blk.new' rfl) (slipC_one _) (by omega) (by simp <;> omega) ?_; intro v' w6 hown6 hgrow6 _; have he6 := (he9.alloc _).app (ho9.out.alloc (.cells (slipC ⟨y0, numV y1, numV y2,1, y4, numV y5, y6⟩).toArray 79)) (by omega) hgrow6; have hC6 := (hc9.alloc _).app (ho9.out.alloc (.cells (slipC ⟨y0, numV y1, numV y2,1, y4, numV y5, y6⟩).toArray 79)) (by simp <;> omega) hgrow6; obtain ⟨pC6, qC6⟩ := hC6.walk; have lC6 := hC6.lt; have hlts := hown6.lt; obtain ⟨g6, c6, rfl, hg6, hl6⟩ := hown6.form (by omega)))
   go_ret
   exact .inr ⟨⟨⟨y0, numV y1, numV y2,1, y4, numV y5, y6⟩, hF.out⟩, rfl, hstep.out ⟨y0, numV y1, numV y2,1, y4, numV y5, y6⟩ _ _ hF.out (own_setFar hown6 (p := ⟨gC, 0, none⟩) (fun g e => by have := (hlts g e).1; simp only; omega) _) ((hC6.set_ 0 _).cast (by simp)) (he6.setCell (p := ⟨gC, 0, none⟩) hg _)⟩
  ·have hK1b : (K == 1) = false := beq_false_of_ne hK1
   by_cases h6 : W.length = 6
   rotate_left
   ·have h6b : ((W.length : Int) == 6) = false := by simp; omega
    have h6c : ¬ (W.length : Int) = 6 := by omega
    have hF : lineF s.data.toList = none := by rw [hlK.out, if_neg (fun e => e.elim hN.out (by omega)), if_neg hK1, if_neg h6]
    replace hF := Lib.hid hF; clear hRb hCb hOb v0 v1 v2 h6
    go_wp2_with (go_at_call 165; (with_reducible refine Calls.mono (truthS_any _ _) ?_); rintro e w3 ⟨rfl, rfl⟩)
    go_ret
    exact .inl ⟨hF.out, rfl, hEb⟩
   have h6b : ((W.length : Int) == 6) = true := by simp; omega
   have h6c : (W.length : Int) = 6 := by omega
   have hF : lineF s.data.toList = some ⟨y0, numV y1, numV y2, K, y4, numV y5, ⟨#[]⟩⟩ := by
    rw [hlK.out, if_neg (fun e => e.elim hN.out (by omega)), if_neg hK1, if_pos h6]
   replace hF := Lib.hid hF
   go_upto_region 8 with (go_at_call 165; (with_reducible refine Calls.mono (truthS_any _ _) ?_); rintro e w3 ⟨rfl, rfl⟩)
   refine wp_region_facts [] [([],false,false),([0],false,false),([0,1],false,false),([],false,false),([3],false,false),([3,4],false,false),([],false,false),([6],false,false),([6,7],false,false),([],false,false),([],false,false),([10],false,false),([10,11],false,false),([],false,false),([13],false,false),([13,14],false,false),([0,1,2,3,4,5,6,7,8,9,10,11,12,13,14,15],false,false),([], false, true)] (Ext) Ext (fun _ => True) (by kernel_rfl) (by kernel_rfl) Ext.refl (fun _ _ _ => Ext.trans) (fun _ _ h => h) (fun _ _ h => h.size) (fun _ _ h _ => h) trivial ?_
   dsimp only [List.length_cons, List.length_nil, List.drop_succ_cons, List.drop_zero, List.drop_nil]
   refine fq 0 rfl rfl rfl cK rfl rfl ?_; apply Exists.intro; constructor
   ·intro sv w' hw' hfa
    refine ⟨rfl, ?_⟩; simp only [putsL]; change qT _; simp only [qT, Act.put, sIA, sCS, sCZ]; simp [go_sem, quietTo, Ext.refl]; all_goals rfl
   refine fq 1 rfl rfl rfl cK rfl rfl ?_; apply Exists.intro; constructor
   ·rintro sv w' hw' ⟨(f0 : sv 0 = _), -⟩; (try dsimp only at f0)
    have hk9 := (Ext.refl wrb).drew.trans hw'; have hR9 := hRb.ext hk9; have x0 := cell_of_row hR9 e0.out; have x4 := cell_of_row hR9 e4.out; have i0 := (hk9.walk.1 _ _ hib).trans v0; have i1 := (hk9.walk.1 _ _ hib).trans v1; have i2 := (hk9.walk.1 _ _ hib).trans v2
    refine ⟨rfl, ?_⟩; simp only [putsL]; change qT (pT _ 54 (sv 0)); simp only [qT, pT, Act.put, sIA, sCS, sCZ]; simp [go_sem, quietTo, Ext.refl, ↓IntWalk.iteOmega, f0, hI0]; (all_goals try simp (disch := omega) only [IntWalk.i64_in]); all_goals rfl
   refine fq 2 rfl rfl rfl cK rfl rfl ?_; apply Exists.intro; constructor
   ·rintro sv w' hw' ⟨_, (f1 : sv 1 = _), -⟩; (try dsimp only at f1)
    have hk9 := (Ext.refl wrb).drew.trans hw'; have hR9 := hRb.ext hk9; have x0 := cell_of_row hR9 e0.out; have x4 := cell_of_row hR9 e4.out; have i0 := (hk9.walk.1 _ _ hib).trans v0; have i1 := (hk9.walk.1 _ _ hib).trans v1; have i2 := (hk9.walk.1 _ _ hib).trans v2
    refine ⟨rfl, ?_⟩; simp only [putsL]; change qT (pT (pT _ 55 (sv 1)) 54 (sv 0)); simp only [qT, pT, Act.put, sIA, sCS, sCZ]; simp [go_sem, quietTo, Ext.refl, ↓IntWalk.iteOmega, f1, x0]; (all_goals try simp (disch := omega) only [IntWalk.i64_in]); all_goals rfl
   refine fq 3 rfl rfl rfl cK rfl rfl ?_; apply Exists.intro; constructor
   ·intro sv w' hw' hfa
    refine ⟨rfl, ?_⟩; simp only [putsL]; change qT _; simp only [qT, Act.put, sIA, sCS, sCZ]; simp [go_sem, quietTo, Ext.refl]; all_goals rfl
   refine fq 4 rfl rfl rfl cK rfl rfl ?_; apply Exists.intro; constructor
   ·rintro sv w' hw' ⟨(f3 : sv 3 = _), -⟩; (try dsimp only at f3)
    refine ⟨rfl, ?_⟩; simp only [putsL]; change qT (pT _ 57 (sv 3)); simp only [qT, pT, Act.put, sIA, sCS, sCZ]; simp [go_sem, quietTo, Ext.refl, ↓IntWalk.iteOmega, f3]; (all_goals try simp (disch := omega) only [IntWalk.i64_in]); all_goals rfl
   refine fq 5 rfl rfl rfl cK rfl rfl ?_; apply Exists.intro; constructor
   ·rintro sv w' hw' ⟨_, (f4 : sv 4 = _), -⟩; (try dsimp only at f4)
    have hk9 := (Ext.refl wrb).drew.trans hw'; have hR9 := hRb.ext hk9; have x0 := cell_of_row hR9 e0.out; have x4 := cell_of_row hR9 e4.out; have i0 := (hk9.walk.1 _ _ hib).trans v0; have i1 := (hk9.walk.1 _ _ hib).trans v1; have i2 := (hk9.walk.1 _ _ hib).trans v2
    refine ⟨rfl, ?_⟩; simp only [putsL]; change qT (pT (pT _ 58 (sv 4)) 57 (sv 3)); simp only [qT, pT, Act.put, sIA, sCS, sCZ]; simp [go_sem, quietTo, Ext.refl, ↓IntWalk.iteOmega, f4, i0]; (all_goals try simp (disch := omega) only [IntWalk.i64_in]); all_goals rfl
   refine fq 6 rfl rfl rfl cK rfl rfl ?_; apply Exists.intro; constructor
   ·intro sv w' hw' hfa
    refine ⟨rfl, ?_⟩; simp only [putsL]; change qT _; simp only [qT, Act.put, sIA, sCS, sCZ]; simp [go_sem, quietTo, Ext.refl]; all_goals rfl
   refine fq 7 rfl rfl rfl cK rfl rfl ?_; apply Exists.intro; constructor
   ·rintro sv w' hw' ⟨(f6 : sv 6 = _), -⟩; (try dsimp only at f6)
    refine ⟨rfl, ?_⟩; simp only [putsL]; change qT (pT _ 60 (sv 6)); simp only [qT, pT, Act.put, sIA, sCS, sCZ]; simp [go_sem, quietTo, Ext.refl, ↓IntWalk.iteOmega, f6]; (all_goals try simp (disch := omega) only [IntWalk.i64_in]); all_goals rfl
   refine fq 8 rfl rfl rfl cK rfl rfl ?_; apply Exists.intro; constructor
   ·rintro sv w' hw' ⟨_, (f7 : sv 7 = _), -⟩; (try dsimp only at f7)
    have hk9 := (Ext.refl wrb).drew.trans hw'; have hR9 := hRb.ext hk9; have x0 := cell_of_row hR9 e0.out; have x4 := cell_of_row hR9 e4.out; have i0 := (hk9.walk.1 _ _ hib).trans v0; have i1 := (hk9.walk.1 _ _ hib).trans v1; have i2 := (hk9.walk.1 _ _ hib).trans v2
    refine ⟨rfl, ?_⟩; simp only [putsL]; change qT (pT (pT _ 61 (sv 7)) 60 (sv 6)); simp only [qT, pT, Act.put, sIA, sCS, sCZ]; simp [go_sem, quietTo, Ext.refl, ↓IntWalk.iteOmega, f7, i1]; (all_goals try simp (disch := omega) only [IntWalk.i64_in]); all_goals rfl
   refine fq 9 rfl rfl rfl cK rfl rfl ?_; apply Exists.intro; constructor
   ·intro sv w' hw' hfa
    refine ⟨rfl, ?_⟩; simp only [putsL]; change qT _; simp only [qT, Act.put, sIA, sCS, sCZ]; simp [go_sem, quietTo, Ext.refl]; all_goals rfl
   refine fq 10 rfl rfl rfl cK rfl rfl ?_; apply Exists.intro; constructor
   ·intro sv w' hw' hfa
    refine ⟨rfl, ?_⟩; simp only [putsL]; change qT _; simp only [qT, Act.put, sIA, sCS, sCZ]; simp [go_sem, quietTo, Ext.refl]; all_goals rfl
   refine fq 11 rfl rfl rfl cK rfl rfl ?_; apply Exists.intro; constructor
   ·rintro sv w' hw' ⟨(f10 : sv 10 = _), -⟩; (try dsimp only at f10)
    have hk9 := (Ext.refl wrb).drew.trans hw'; have hR9 := hRb.ext hk9; have x0 := cell_of_row hR9 e0.out; have x4 := cell_of_row hR9 e4.out; have i0 := (hk9.walk.1 _ _ hib).trans v0; have i1 := (hk9.walk.1 _ _ hib).trans v1; have i2 := (hk9.walk.1 _ _ hib).trans v2
    refine ⟨rfl, ?_⟩; simp only [putsL]; change qT (pT _ 64 (sv 10)); simp only [qT, pT, Act.put, sIA, sCS, sCZ]; simp [go_sem, quietTo, Ext.refl, ↓IntWalk.iteOmega, f10, hI4]; (all_goals try simp (disch := omega) only [IntWalk.i64_in]); all_goals rfl
   refine fq 12 rfl rfl rfl cK rfl rfl ?_; apply Exists.intro; constructor
   ·rintro sv w' hw' ⟨_, (f11 : sv 11 = _), -⟩; (try dsimp only at f11)
    have hk9 := (Ext.refl wrb).drew.trans hw'; have hR9 := hRb.ext hk9; have x0 := cell_of_row hR9 e0.out; have x4 := cell_of_row hR9 e4.out; have i0 := (hk9.walk.1 _ _ hib).trans v0; have i1 := (hk9.walk.1 _ _ hib).trans v1; have i2 := (hk9.walk.1 _ _ hib).trans v2
    refine ⟨rfl, ?_⟩; simp only [putsL]; change qT (pT (pT _ 65 (sv 11)) 64 (sv 10)); simp only [qT, pT, Act.put, sIA, sCS, sCZ]; simp [go_sem, quietTo, Ext.refl, ↓IntWalk.iteOmega, f11, x4]; (all_goals try simp (disch := omega) only [IntWalk.i64_in]); all_goals rfl
   refine fq 13 rfl rfl rfl cK rfl rfl ?_; apply Exists.intro; constructor
   ·intro sv w' hw' hfa
    refine ⟨rfl, ?_⟩; simp only [putsL]; change qT _; simp only [qT, Act.put, sIA, sCS, sCZ]; simp [go_sem, quietTo, Ext.refl]; all_goals rfl
   refine fq 14 rfl rfl rfl cK rfl rfl ?_; apply Exists.intro; constructor
   ·rintro sv w' hw' ⟨(f13 : sv 13 = _), -⟩; (try dsimp only at f13)
    refine ⟨rfl, ?_⟩; simp only [putsL]; change qT (pT _ 67 (sv 13)); simp only [qT, pT, Act.put, sIA, sCS, sCZ]; simp [go_sem, quietTo, Ext.refl, ↓IntWalk.iteOmega, f13]; (all_goals try simp (disch := omega) only [IntWalk.i64_in]); all_goals rfl
   refine fq 15 rfl rfl rfl cK rfl rfl ?_; apply Exists.intro; constructor
   ·rintro sv w' hw' ⟨_, (f14 : sv 14 = _), -⟩; (try dsimp only at f14)
    have hk9 := (Ext.refl wrb).drew.trans hw'; have hR9 := hRb.ext hk9; have x0 := cell_of_row hR9 e0.out; have x4 := cell_of_row hR9 e4.out; have i0 := (hk9.walk.1 _ _ hib).trans v0; have i1 := (hk9.walk.1 _ _ hib).trans v1; have i2 := (hk9.walk.1 _ _ hib).trans v2
    refine ⟨rfl, ?_⟩; simp only [putsL]; change qT (pT (pT _ 68 (sv 14)) 67 (sv 13)); simp only [qT, pT, Act.put, sIA, sCS, sCZ]; simp [go_sem, quietTo, Ext.refl, ↓IntWalk.iteOmega, f14, i2]; (all_goals try simp (disch := omega) only [IntWalk.i64_in]); all_goals rfl
   refine fq 16 rfl rfl rfl cK rfl rfl ?_; apply Exists.intro; constructor
   ·rintro sv w' hw' ⟨_, _, (f2 : sv 2 = _), _, _, (f5 : sv 5 = _), _, _, (f8 : sv 8 = _), (f9 : sv 9 = _), _, _, (f12 : sv 12 = _), _, _, (f15 : sv 15 = _), -⟩; (try dsimp only at f2 f5 f8 f9 f12 f15)
    refine ⟨rfl, ?_⟩; simp only [putsL]; change qT (pT (pT (pT (pT (pT (pT (pT (pT (pT (pT (pT (pT (pT (pT (pT (pT _ 69 (sv 15)) 68 (sv 14)) 67 (sv 13)) 66 (sv 12)) 65 (sv 11)) 64 (sv 10)) 63 (sv 9)) 62 (sv 8)) 61 (sv 7)) 60 (sv 6)) 59 (sv 5)) 58 (sv 4)) 57 (sv 3)) 56 (sv 2)) 55 (sv 1)) 54 (sv 0)); simp only [qT, pT, Act.put, sIA, sCS, sCZ]; simp [go_sem, quietTo, Ext.refl, f2, f5, f8, f9, f12, f15]; all_goals rfl
   refine fac_box 17 rfl rfl rfl cK (fun _ _ h => h.size) (fun _ _ _ _ _ he _ hb => hb.ext he) ?_
   apply Exists.intro
   apply Exists.intro
   refine ⟨fun sv w' hw' hfa => ?_, ?_⟩
   ·refine ⟨rfl, ?_⟩
    simp only [putsL]
    change boxTo _ _ _ (Sem.run _ (execOp (Act.eval _) _) _)
    try simp only [Act.put, sIA, sCS, sCZ]
    simp [go_sem, boxTo, Ext.refl]
    (all_goals try simp (disch := omega) only [IntWalk.i64_in]); all_goals first | rfl | exact ⟨rfl, rfl⟩ | exact ⟨⟨rfl, rfl⟩, rfl⟩
   refine fac_nil fun xc wrc herc hfrc hcrc holdc hapc => ?_
   obtain ⟨(f0 : xc 0 = _), (f1 : xc 1 = _), (f2 : xc 2 = _), (f3 : xc 3 = _), (f4 : xc 4 = _), (f5 : xc 5 = _), (f6 : xc 6 = _), (f7 : xc 7 = _), (f8 : xc 8 = _), (f9 : xc 9 = _), (f10 : xc 10 = _), (f11 : xc 11 = _), (f12 : xc 12 = _), (f13 : xc 13 = _), (f14 : xc 14 = _), (f15 : xc 15 = _), (f16 : xc 16 = _), f17, -⟩ := hfrc; (try dsimp only at f0 f1 f2 f3 f4 f5 f6 f7 f8 f9 f10 f11 f12 f13 f14 f15 f16)
   obtain ⟨g17, f17, l17, b17⟩ := f17; replace f17 : xc 17 = _ := f17; obtain ⟨p17, q17⟩ := b17.walk
   change wpList _ _ _ _ (pT (pT (pT (pT (pT (pT (pT (pT (pT (pT (pT (pT (pT (pT (pT (pT (pT (pT _ 54 (xc 0)) 55 (xc 1)) 56 (xc 2)) 57 (xc 3)) 58 (xc 4)) 59 (xc 5)) 60 (xc 6)) 61 (xc 7)) 62 (xc 8)) 63 (xc 9)) 64 (xc 10)) 65 (xc 11)) 66 (xc 12)) 67 (xc 13)) 68 (xc 14)) 69 (xc 15)) 70 (xc 16)) 8 (xc 17)) _
   simp only [putsL, Nat.reduceAdd, List.drop_succ_cons, List.drop_zero, List.drop_nil, pT, Act.put, sIA, sCS, sCZ]
   try simp only [f0, f1, f2, f3, f4, f5, f6, f7, f8, f9, f10, f11, f12, f13, f14, f15, f16, f17]
   clear f0 f1 f2 f3 f4 f5 f6 f7 f8 f9 f10 f11 f12 f13 f14 f15 f16; clear holdc hapc
   have hkc := (Ext.refl wrb).drew.trans herc
   have hCc := hCb.ext hkc
   have hOc := Lib.hid (own_ext hkc hOb.out)
   have hEc := hEb.trans hkc
   have l17b : wrb.heap.size ≤ g17 := l17
   have lCb := hCb.lt
   have hsb := hEb.size
   have hn3 : gC ≠ g17 := by omega
   have hn5 : ∀ h, v.ownBlock = some h → h ≠ g17 := fun h e => by have := (hOb.out.lt h e).2; omega
   have l18 := b17.lt
   clear hRb hCb hOb v0 v1 v2 hkc herc
   go_upto_region 11 with fail
   have hb9 : Blk (set7 wrc g17 ⟨y0, numV y1, numV y2, K, y4, numV y5, ⟨#[]⟩⟩) g17 79 #[.string y0, .int .i64 (numV y1), .int .i64 (numV y2), .int .i64 K, .string y4, .int .i64 (numV y5), .string ⟨#[]⟩] := set7_blk b17
   have hc9 := set7_far (x := ⟨y0, numV y1, numV y2, K, y4, numV y5, ⟨#[]⟩⟩) hCc hn3
   have he9 := set7_ext (x := ⟨y0, numV y1, numV y2, K, y4, numV y5, ⟨#[]⟩⟩) (g := g17) hEc (by omega)
   have ho9 := own_set7 (x := ⟨y0, numV y1, numV y2, K, y4, numV y5, ⟨#[]⟩⟩) hOc.out (g := g17) (.inr hn5)
   change Code.wp _ _ _ _ (set7 wrc g17 ⟨y0, numV y1, numV y2, K, y4, numV y5, ⟨#[]⟩⟩)
   generalize set7 wrc g17 ⟨y0, numV y1, numV y2, K, y4, numV y5, ⟨#[]⟩⟩ = W9 at *
   clear p17 q17 hCc hOc
   obtain ⟨p9, q9⟩ := hb9.walk
   obtain ⟨pC, qC⟩ := hc9.walk
   have l18 := hb9.lt
   have lC9 := hc9.lt
   have hs9 := he9.size
   replace ho9 := Lib.hid ho9
   go_wp2_with (at_builtin; go_loud (refine wp_app1 _ (.tmp 77) (.tmp 79) 31 79 7 80 _ rfl rfl Tryz.underlying31 sliInfo rfl (by decide) (by decide) (gC + 1) _ k _ rfl (ho9.out.alloc _) W9.heap.size (slipC ⟨y0, numV y1, numV y2, K, y4, numV y5, ⟨#[]⟩⟩) rfl rfl (by exact Blk.new' rfl) (slipC_one _) (by omega) (by simp <;> omega) ?_; intro v' w6 hown6 hgrow6 _; have he6 := (he9.alloc _).app (ho9.out.alloc (.cells (slipC ⟨y0, numV y1, numV y2, K, y4, numV y5, ⟨#[]⟩⟩).toArray 79)) (by omega) hgrow6; have hC6 := (hc9.alloc _).app (ho9.out.alloc (.cells (slipC ⟨y0, numV y1, numV y2, K, y4, numV y5, ⟨#[]⟩⟩).toArray 79)) (by simp <;> omega) hgrow6; obtain ⟨pC6, qC6⟩ := hC6.walk; have lC6 := hC6.lt; have hlts := hown6.lt; obtain ⟨g6, c6, rfl, hg6, hl6⟩ := hown6.form (by omega)))
   go_ret
   exact .inr ⟨⟨⟨y0, numV y1, numV y2, K, y4, numV y5, ⟨#[]⟩⟩, hF.out⟩, rfl, hstep.out ⟨y0, numV y1, numV y2, K, y4, numV y5, ⟨#[]⟩⟩ _ _ hF.out (own_setFar hown6 (p := ⟨gC, 0, none⟩) (fun g e => by have := (hlts g e).1; simp only; omega) _) ((hC6.set_ 0 _).cast (by simp)) (he6.setCell (p := ⟨gC, 0, none⟩) hg _)⟩
end Go.Proofs.YtehboinleolihaaGreatDoor
