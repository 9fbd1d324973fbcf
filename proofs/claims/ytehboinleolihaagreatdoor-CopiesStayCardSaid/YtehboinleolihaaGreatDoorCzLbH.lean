/- Slips up to a moment are sorted by their moments: the walk. Conditions: sizes; at most 19 slips. -/
import Derived.Test.YtehboinleolihaaGreatDoorCzLbG
import Derived.Test.YtehboinleolihaaGreatDoorCzJ17
import Derived.Test.YtehboinleolihaaGreatDoorCzJ13
import Derived.Shelf.SlSortCmp.Insertion
import Derived.Lib.OwnBridge
set_option linter.unusedSimpArgs false
set_option linter.unusedVariables false
namespace Go.Proofs.YtehboinleolihaaGreatDoor
open Go Go.RowKit Go.Sort
def natC (i : Nat) : List Value := [.int .i64 (i : Int)]
theorem natC_len (x : Nat) : (natC x).length = 1 := rfl
theorem natC_one (x : Nat) : ∀ u ∈ natC x, u.oneCell' = true := by simp [natC, Value.oneCell']
theorem drewN_suc (w : World) (q : Nat) : w.drew.drewN q = w.drewN (q + 1) := by
 simp [World.drewN, drew_eq_ahead, ahead, Nat.add_assoc, Nat.add_comm]
 exact ⟨by omega, rfl, rfl⟩
/-- What the comparison of two slips' moments reads. -/
structure AtM (w : World) (gd db off dn dc : Nat) (d : List SlipV) : Prop where
 s : Blk w gd 31 #[.slice (some ⟨db, off, none⟩) dn dc]
 e : Elems 7 slipC w db off d
 len : d.length = dn
 one : ∀ x ∈ d, 0 ≤ x.at_ ∧ x.at_ ≤ 345686399999
theorem atD_of {d : List SlipV} {i : Nat} {x : SlipV} (h : d[i]? = some x) : atD d i = x.at_ := by unfold atD; rw [List.getD_eq_getElem?_getD, h]; rfl
set_option maxRecDepth 100000 in
set_option maxHeartbeats 3200000 in
theorem atCmp_any {w : World} {gd db off dn dc m : Nat} {d : List SlipV} (h : AtM w gd db off dn dc d) (hm : dn = m + 1) (i j : Fin (m + 1)) :
 Calls Tryz.prog 168 #[.int .i64 (i.val : Int), .int .i64 (j.val : Int), .pointer (some ⟨gd, 0, none⟩)] w fun e w' => e = .returned (.int .i64 (cmpAt d i j)) ∧ ∃ q, w' = w.drewN q := by
 obtain ⟨hs, hE, hlen, hone⟩ := h
 have hi := i.isLt
 have hj := j.isLt
 unfold cmpAt
 generalize i.val = i at *
 generalize j.val = j at *
 obtain ⟨x, hx⟩ := getD_some hlen (show i < dn by omega)
 obtain ⟨y, hy⟩ := getD_some hlen (show j < dn by omega)
 rw [atD_of hx, atD_of hy]
 have cx := (hE.slip hx).2.2.1
 have cy := (hE.slip hy).2.2.1
 have x0 := hone x (List.mem_of_getElem? hx)
 have y0 := hone y (List.mem_of_getElem? hy)
 generalize x.at_ = a at *
 generalize y.at_ = b at *
 have z3 : IntKind.i64.wrap (a - b) = a - b := IntWalk.i64_in _ (by omega)
 have hiI : (i : Int) < dn := by omega
 have hjI : (j : Int) < dn := by omega
 clear x0 y0 hone hx hy hE hi hj; replace z3 := Lib.hid z3
 go_enter Tryz.func168, Tryz.ntmps168
 go_upto_region 1 with fail
 refine wp_region_planS [(0, true), (1, true), (2, true), (3, true), (4, true), (5, true), (6, true), (7, true), (8, true), (9, true), (10, true), (11, true)] 12 (fun w' => Blk w' gd 31 #[.slice (some ⟨db, off, none⟩) dn dc] ∧ (w'.cell? ⟨db, off + i * 7 + 2, none⟩ = some (.int .i64 a)) ∧ (w'.cell? ⟨db, off + j * 7 + 2, none⟩ = some (.int .i64 b))) Drw (by kernel_rfl) (by kernel_rfl) Drw.refl (fun _ _ _ => Drw.trans) (fun _ _ h he => ⟨h.1.drw he, (by obtain ⟨q, rfl⟩ := he; exact h.2.1), (by obtain ⟨q, rfl⟩ := he; exact h.2.2)⟩) ⟨(by (repeat (with_reducible first | assumption | exact Blk.new' (by simp) | refine Blk.drew ?_ | refine Blk.alloc ?_ _ | exact Drw.refl _ | refine Ext.drew ?_ | refine Ext.alloc ?_ _))), cx, cy⟩ ?_
 repeat
  first
   | (refine plan_quiet rfl rfl (fun _ _ _ _ h => h) ?_
      apply Exists.intro
      refine ⟨fun w' hw' => ?_, ?_⟩
      ·obtain ⟨hHq0, hHq1, hHq2⟩ := hw'
       obtain ⟨w0, -⟩ := hHq0.walk
       skip
       simp [go_sem, quietTo, Drw.refl, ↓IntWalk.iteOmega, w0, hHq1, hHq2, hiI, hjI, z3.out]
       first
        | rfl
      simp only [Act.put, sIA, sCS, sCZ])
   | (refine plan_skip rfl rfl (fun _ _ _ _ h => h) ?_
      simp only [Act.put, sIA, sCS, sCZ])
 refine plan_nil fun wrq herq hwrq => ?_
 obtain ⟨hHq0, hHq1, hHq2⟩ := hwrq
 obtain ⟨hCq0, hFq0⟩ := hHq0.walk
 simp only [List.drop_succ_cons, List.drop_zero, List.drop_nil]
 go_wp2
 go_ret
 obtain ⟨q, rfl⟩ := herq
 exact ⟨rfl, q + 1, drewN_suc w q⟩
theorem sortW_block {α : Type} [Inhabited α] (enc : α → Value) (w : World) (g m : Nat) (dk : Array α) (os : Array Obj) {b : Nat} (hb : b < w.heap.size) (hne : b ≠ g) : (sortWorld enc w g 0 m dk os).heap[b]? = w.heap[b]? := by
 show (w.heap.modify g (onCells (putCells enc 0 dk)) ++ os)[b]? = _
 have hs : (w.heap.modify g (onCells (putCells enc 0 dk))).size = w.heap.size := by simp
 rw [Array.getElem?_append_left (by rw [hs]; exact hb), Array.getElem?_modify, if_neg (fun e => hne e.symm)]
theorem sortW_grown {α : Type} [Inhabited α] (enc : α → Value) (w : World) (g m : Nat) (dk : Array α) (os : Array Obj) : w.grownBy (sortWorld enc w g 0 m dk os) (some g) :=
 ⟨rfl, rfl, rfl, by
  show w.heap.size ≤ (w.heap.modify g (onCells (putCells enc 0 dk)) ++ os).size
  rw [Array.size_append]; simp, fun k hk hn => sortW_block enc w g m dk os hk fun e => hn (by rw [e])⟩
def encN {k : Nat} (i : Fin k) : Value := .int .i64 (i.val : Int)
theorem AtM.sort {w : World} {gd db off dn dc : Nat} {d : List SlipV} (h : AtM w gd db off dn dc d) {g : Nat} (h1 : gd ≠ g) (h2 : db ≠ g) (hdb : db < w.heap.size) {k m : Nat} {dk : Array (Fin (k + 1))} {os : Array Obj} : AtM (sortWorld encN w g 0 m dk os) gd db off dn dc d :=
 ⟨(sortW_block _ w g m dk os h.s.lt h1).trans h.s, fun i x hx j u hu => (World.cell?_of_block (w := w) (sortW_block _ w g m dk os hdb h2)).trans (h.e i x hx j u hu), h.len, h.one⟩
theorem nat_enc {k : Nat} : ∀ (P : List (Fin k)), (P.map Fin.val).flatMap natC = P.map encN
 | [] => rfl
 | i :: P => by rw [List.map_cons, List.flatMap_cons, nat_enc P]; rfl
set_option maxRecDepth 100000 in
theorem stableN_any (p : Option Addr) (n cap : Nat) (fv : Value) (w : World) (hn : n ≤ 19) (W : Nat → World) (hs : Calls Tryz.prog 279 #[.slice p n cap, .int .i64 (0 : Nat), .int .i64 n, fv] w fun e w' => e = .returned (.tuple #[]) ∧ ∃ q, w' = W q) :
 Calls Tryz.prog 167 #[.slice p n cap, fv] w fun e w' => e = .returned (.tuple #[]) ∧ ∃ q, w' = W q := by
 have hmI : (n : Int) < 20 := by omega
 have hC : Calls Tryz.prog 224 #[.slice p n cap, .int .i64 n, fv] w fun e w' => e = .returned (.tuple #[]) ∧ ∃ q, w' = W q := by
  replace hs := Lib.hid hs
  go_enter Tryz.func224, Tryz.ntmps224
  go_wp2
  refine wp_loop_rounds 1 ?_
  rw [rounds_succ]
  go_wp2_with (go_at_call 279; refine hs.out.mono ?_; rintro e w' ⟨rfl, q, rfl⟩)
  refine wp_loop_rounds 1 ?_
  rw [rounds_succ]
  go_wp2
  go_end0
  exact ⟨rfl, q, rfl⟩
 replace hC := Lib.hid hC; clear hs
 go_enter Tryz.func167, Tryz.ntmps167
 go_wp2_with (go_at_call 224; refine hC.out.mono ?_; rintro e w' ⟨rfl, q, rfl⟩)
 go_end0
 exact ⟨rfl, q, rfl⟩
set_option maxRecDepth 100000 in
/-- No places, sorted. -/
theorem ins0_any (p : Option Addr) (cap : Nat) (fv : Value) (w : World) :
 Calls Tryz.prog 279 #[.slice p 0 cap, .int .i64 (0 : Nat), .int .i64 (0 : Nat), fv] w fun e w' => e = .returned (.tuple #[]) ∧ ∃ q : Nat, w' = w := by
 go_enter Tryz.func279, Tryz.ntmps279
 go_wp2
 refine wp_loop_rounds 1 ?_
 rw [rounds_succ]
 go_wp2
 go_end0
 exact ⟨rfl, 0, rfl⟩
/-- Places in memory, sorted. -/
def OrdR (d : List SlipV) (t : Int) (base : Nat) (p : Option Addr) (n cap : Nat) (w : World) (e : Ending) (w' : World) : Prop :=
 e = .returned (.tuple #[]) ∧ Slc 1 natC w' p n cap (ordF d t) ∧ w.heap.size ≤ w'.heap.size ∧ ∀ a : World, Ext a w → a.heap.size ≤ base → Ext a w'
set_option maxRecDepth 100000 in
theorem ordSort_any {w : World} {base : Nat} {v : Value} {d : List SlipV} (t : Int) (hown : w.ownsRow base 3 1 v (selF d t).length ((selF d t).flatMap natC)) {gd db off dn dc : Nat} (h : AtM w gd db off dn dc d ∨ d = []) (hdn : d.length ≤ 19) (h1 : gd < base) (h2 : db < base ∨ d = []) :
 ∃ (p : Option Addr) (cap : Nat), v = .slice p (selF d t).length cap ∧ Calls Tryz.prog 167 #[v, .func (.func 168) #[] #[.pointer (some ⟨gd, 0, none⟩)]] w (OrdR d t base p (selF d t).length cap w) := by
 have hsl : (selF d t).length ≤ d.length := selK_len d t d.length
 rcases Nat.eq_zero_or_pos (selF d t).length with h0 | h0
 ·obtain ⟨p, cap, rfl, hS⟩ := slc_of_own natC_len hown (by decide) (by omega)
  refine ⟨p, cap, rfl, ?_⟩
  have hnil := List.eq_nil_of_length_eq_zero h0
  rw [hnil] at hS ⊢
  exact (stableN_any p 0 cap _ w (by omega) (fun _ => w) (ins0_any p cap _ w)).mono fun e w' ⟨he, q, hw⟩ => ⟨he, by rw [hw, ord_nil hnil]; exact hS, by rw [hw]; exact Nat.le_refl _, fun a ha _ => by rw [hw]; exact ha⟩
 ·have hdl : 0 < d.length := by omega
  have hne : d ≠ [] := fun e => by subst e; simp at hdl
  replace h := h.resolve_right hne
  replace h2 := h2.resolve_right hne
  obtain ⟨m, hm⟩ : ∃ m, d.length = m + 1 := ⟨d.length - 1, by omega⟩
  obtain ⟨P, hP⟩ := fin_list (P := selF d t) (m := m) fun i hi => by have := (mem_sel.1 hi).1; omega
  have hPl : P.length = (selF d t).length := by rw [← hP, List.length_map]
  obtain ⟨g, cap, rfl, hg, hgl⟩ := hown.form h0
  refine ⟨_, cap, rfl, ?_⟩
  have ho2 := hown
  rw [← hP, nat_enc] at ho2
  obtain ⟨g', cap', e9, hbg, hgl', hncap, hcm, hln, hH⟩ := Lib.holds_of_ownsRow ho2 (fun e => by cases e)
  cases e9
  have hdbl : db < w.heap.size := by omega
  have hs := Any.insertionSortCmpFunc_one Tryz.lisInt (encN (k := m + 1)) (fun _ => rfl) (cmpAt (m := m) d) 168 #[.pointer (some ⟨gd, 0, none⟩)] g 0 cap 0 P.length P.toArray w (fun args u => by rfl) (fun q os dk _ x y => atCmp_any (h.sort (by omega) (by omega) hdbl) (h.len.symm.trans hm) x y) hH (Nat.zero_le _) (by simp) (by simp; omega)
  have hsz : P.toArray.size = P.length := by simp
  rw [hsz] at hs
  have hso := ord_ins (m := m) t hP
  have hds : (insertionSort (ltOf (cmpAt (m := m) d)) P.toArray 0 P.length).size = P.length := by
   have := (ord_perm d t).length_eq
   rw [← hso, List.length_map, ← hPl] at this
   simpa using this
  generalize insertionSort (ltOf (cmpAt (m := m) d)) P.toArray 0 P.length = D at *
  rw [hPl] at hs hds hsz
  have hS := stableN_any _ (selF d t).length cap _ w (by omega) (fun q => (putRow encN w g 0 D).drewN q) hs
  refine hS.mono fun e w' ⟨he, q, hw⟩ => ?_
  have hH2 : Holds encN w' g 0 D := by
   rw [hw]
   exact holds_putRow encN w g 0 _ _ hH (by rw [hds, hsz])
  have hgr : w.grownBy w' (some g) := by
   rw [hw]
   have := sortW_grown encN w g q D #[]
   rw [sortWorld_none] at this
   exact this
  refine ⟨he, ?_, hgr.size, fun a ha hb => ha.grown hgr fun k hk => by cases hk; exact Nat.le_trans hb hg⟩
  have hlen : (ordF d t).length = (selF d t).length := (ord_perm d t).length_eq
  refine ⟨⟨hlen, by omega, fun _ => ⟨g, 0, rfl, Nat.lt_of_lt_of_le hgl hgr.size, fun i x hx j u hu => ?_⟩⟩, (by rw [hP] at hncap; exact hncap), (fun e => by cases e), (fun a ha => by cases ha; exact ⟨g, 0, rfl, Nat.lt_of_lt_of_le hgl hgr.size⟩)⟩
  obtain rfl : j = 0 := by
   have := (List.getElem?_eq_some_iff.1 hu).1
   simp only [natC, List.length_singleton] at this
   omega
  cases hu
  have hi : i < D.size := by rw [hds, ← hlen]; exact (List.getElem?_eq_some_iff.1 hx).1
  have h1 := (hH2 i hi).1
  rw [← hso, List.getElem?_map] at hx
  have e1 : D.toList[i]? = some D[i] := by simp [hi]
  rw [e1] at hx
  have e2 : D[i]! = D[i] := getElem!_pos D i hi
  rw [e2] at h1
  have e3 : x = D[i].val := by simpa using hx.symm
  rw [e3, show 0 + i * 1 + 0 = 0 + i by omega]
  exact h1
end Go.Proofs.YtehboinleolihaaGreatDoor
