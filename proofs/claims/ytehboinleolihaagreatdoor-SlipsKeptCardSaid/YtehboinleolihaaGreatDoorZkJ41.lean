/- Slips up to a moment are sorted by their moments: the walk. Conditions: sizes; at most 19 slips. A library at a moment: the walk. Conditions: sizes; at most 19 slips. -/
import Derived.Test.YtehboinleolihaaGreatDoorZkLbG
import Derived.Test.YtehboinleolihaaGreatDoorZkJ19
import Derived.Test.YtehboinleolihaaGreatDoorZkJ15
import Derived.Shelf.SlSortCmp.Insertion
import Derived.Lib.OwnBridge
import Derived.Test.YtehboinleolihaaGreatDoorZkLbK
import Derived.Test.YtehboinleolihaaGreatDoorZkJ4
set_option linter.unusedSimpArgs false
set_option linter.unusedVariables false
namespace Go.Proofs.YtehboinleolihaaGreatDoor
open Go Go.RowKit Go.Sort
def natC (i : Nat) : List Value := [.int .i64 (i : Int)]
theorem natC_len (x : Nat) : (natC x).length = 1 := rfl
theorem natC_one (x : Nat) : ∀ u ∈ natC x, u.oneCell' = true := by simp [natC, Value.oneCell']
theorem drewN_suc (w : World) (q : Nat) : w.drew.drewN q = w.drewN (q + 1) := by
 simp [World.drewN, drew_eq_ahead, ahead, Nat.add_assoc, Nat.add_comm]
 exact ⟨by omega, rfl, rfl⟩
/-- What the comparison of two slips' moments reads. -/
structure AtM (w : World) (gd db off dn dc : Nat) (d : List SlipV) : Prop where
 s : Blk w gd 31 #[.slice (some ⟨db, off, none⟩) dn dc]
 e : Elems 7 slipC w db off d
 len : d.length = dn
 one : ∀ x ∈ d, 0 ≤ x.at_ ∧ x.at_ ≤ 345686399999
theorem atD_of {d : List SlipV} {i : Nat} {x : SlipV} (h : d[i]? = some x) : atD d i = x.at_ := by unfold atD; rw [List.getD_eq_getElem?_getD, h]; rfl
set_option maxRecDepth 100000 in
set_option maxHeartbeats 3200000 in
theorem atCmp_any {w : World} {gd db off dn dc m : Nat} {d : List SlipV} (h : AtM w gd db off dn dc d) (hm : dn = m + 1) (i j : Fin (m + 1)) :
 Calls Tryz.prog 168 #[.int .i64 (i.val : Int), .int .i64 (j.val : Int), .pointer (some ⟨gd, 0, none⟩)] w fun e w' => e = .returned (.int .i64 (cmpAt d i j)) ∧ ∃ q, w' = w.drewN q := by
 obtain ⟨hs, hE, hlen, hone⟩ := h
 have hi := i.isLt
 have hj := j.isLt
 unfold cmpAt
 generalize i.val = i at *
 generalize j.val = j at *
 obtain ⟨x, hx⟩ := getD_some hlen (show i < dn by omega)
 obtain ⟨y, hy⟩ := getD_some hlen (show j < dn by omega)
 rw [atD_of hx, atD_of hy]
 have cx := (hE.slip hx).2.2.1
 have cy := (hE.slip hy).2.2.1
 have x0 := hone x (List.mem_of_getElem? hx)
 have y0 := hone y (List.mem_of_getElem? hy)
 generalize x.at_ = a at *
 generalize y.at_ = b at *
 have z3 : IntKind.i64.wrap (a - b) = a - b := IntWalk.i64_in _ (by omega)
 have hiI : (i : Int) < dn := by omega
 have hjI : (j : Int) < dn := by omega
 clear x0 y0 hone hx hy hE hi hj; replace z3 := Lib.hid z3
 go_enter Tryz.func168, Tryz.ntmps168
 go_upto_region 1 with fail
 refine wp_region_planS [(0, true), (1, true), (2, true), (3, true), (4, true), (5, true), (6, true), (7, true), (8, true), (9, true), (10, true), (11, true)] 12 (fun w' => Blk w' gd 31 #[.slice (some ⟨db, off, none⟩) dn dc] ∧ (w'.cell? ⟨db, off + i * 7 + 2, none⟩ = some (.int .i64 a)) ∧ (w'.cell? ⟨db, off + j * 7 + 2, none⟩ = some (.int .i64 b))) Drw (by kernel_rfl) (by kernel_rfl) Drw.refl (fun _ _ _ => Drw.trans) (fun _ _ h he => ⟨h.1.drw he, (by obtain ⟨q, rfl⟩ := he; exact h.2.1), (by obtain ⟨q, rfl⟩ := he; exact h.2.2)⟩) ⟨(by (repeat (with_reducible first | assumption | exact Blk.new' (by simp) | refine Blk.drew ?_ | refine Blk.alloc ?_ _ | exact Drw.refl _ | refine Ext.drew ?_ | refine Ext.alloc ?_ _))), cx, cy⟩ ?_
 repeat
  first
   | (refine plan_quiet rfl rfl (fun _ _ _ _ h => h) ?_
      apply Exists.intro
      refine ⟨fun w' hw' => ?_, ?_⟩
      ·obtain ⟨hHq0, hHq1, hHq2⟩ := hw'
       obtain ⟨w0, -⟩ := hHq0.walk
       skip
       simp [go_sem, quietTo, Drw.refl, ↓IntWalk.iteOmega, w0, hHq1, hHq2, hiI, hjI, z3.out]
       first
        | rfl
      simp only [Act.put, sIA, sCS, sCZ])
   | (refine plan_skip rfl rfl (fun _ _ _ _ h => h) ?_
      simp only [Act.put, sIA, sCS, sCZ])
 refine plan_nil fun wrq herq hwrq => ?_
 obtain ⟨hHq0, hHq1, hHq2⟩ := hwrq
 obtain ⟨hCq0, hFq0⟩ := hHq0.walk
 simp only [List.drop_succ_cons, List.drop_zero, List.drop_nil]
 go_wp2
 go_ret
 obtain ⟨q, rfl⟩ := herq
 exact ⟨rfl, q + 1, drewN_suc w q⟩
theorem sortW_block {α : Type} [Inhabited α] (enc : α → Value) (w : World) (g m : Nat) (dk : Array α) (os : Array Obj) {b : Nat} (hb : b < w.heap.size) (hne : b ≠ g) : (sortWorld enc w g 0 m dk os).heap[b]? = w.heap[b]? := by
 show (w.heap.modify g (onCells (putCells enc 0 dk)) ++ os)[b]? = _
 have hs : (w.heap.modify g (onCells (putCells enc 0 dk))).size = w.heap.size := by simp
 rw [Array.getElem?_append_left (by rw [hs]; exact hb), Array.getElem?_modify, if_neg (fun e => hne e.symm)]
theorem sortW_grown {α : Type} [Inhabited α] (enc : α → Value) (w : World) (g m : Nat) (dk : Array α) (os : Array Obj) : w.grownBy (sortWorld enc w g 0 m dk os) (some g) :=
 ⟨rfl, rfl, rfl, by
  show w.heap.size ≤ (w.heap.modify g (onCells (putCells enc 0 dk)) ++ os).size
  rw [Array.size_append]; simp, fun k hk hn => sortW_block enc w g m dk os hk fun e => hn (by rw [e])⟩
def encN {k : Nat} (i : Fin k) : Value := .int .i64 (i.val : Int)
theorem AtM.sort {w : World} {gd db off dn dc : Nat} {d : List SlipV} (h : AtM w gd db off dn dc d) {g : Nat} (h1 : gd ≠ g) (h2 : db ≠ g) (hdb : db < w.heap.size) {k m : Nat} {dk : Array (Fin (k + 1))} {os : Array Obj} : AtM (sortWorld encN w g 0 m dk os) gd db off dn dc d :=
 ⟨(sortW_block _ w g m dk os h.s.lt h1).trans h.s, fun i x hx j u hu => (World.cell?_of_block (w := w) (sortW_block _ w g m dk os hdb h2)).trans (h.e i x hx j u hu), h.len, h.one⟩
theorem nat_enc {k : Nat} : ∀ (P : List (Fin k)), (P.map Fin.val).flatMap natC = P.map encN
 | [] => rfl
 | i :: P => by rw [List.map_cons, List.flatMap_cons, nat_enc P]; rfl
set_option maxRecDepth 100000 in
theorem stableN_any (p : Option Addr) (n cap : Nat) (fv : Value) (w : World) (hn : n ≤ 19) (W : Nat → World) (hs : Calls Tryz.prog 279 #[.slice p n cap, .int .i64 (0 : Nat), .int .i64 n, fv] w fun e w' => e = .returned (.tuple #[]) ∧ ∃ q, w' = W q) :
 Calls Tryz.prog 167 #[.slice p n cap, fv] w fun e w' => e = .returned (.tuple #[]) ∧ ∃ q, w' = W q := by
 have hmI : (n : Int) < 20 := by omega
 have hC : Calls Tryz.prog 224 #[.slice p n cap, .int .i64 n, fv] w fun e w' => e = .returned (.tuple #[]) ∧ ∃ q, w' = W q := by
  replace hs := Lib.hid hs
  go_enter Tryz.func224, Tryz.ntmps224
  go_wp2
  refine wp_loop_rounds 1 ?_
  rw [rounds_succ]
  go_wp2_with (go_at_call 279; refine hs.out.mono ?_; rintro e w' ⟨rfl, q, rfl⟩)
  refine wp_loop_rounds 1 ?_
  rw [rounds_succ]
  go_wp2
  go_end0
  exact ⟨rfl, q, rfl⟩
 replace hC := Lib.hid hC; clear hs
 go_enter Tryz.func167, Tryz.ntmps167
 go_wp2_with (go_at_call 224; refine hC.out.mono ?_; rintro e w' ⟨rfl, q, rfl⟩)
 go_end0
 exact ⟨rfl, q, rfl⟩
set_option maxRecDepth 100000 in
/-- No places, sorted. -/
theorem ins0_any (p : Option Addr) (cap : Nat) (fv : Value) (w : World) :
 Calls Tryz.prog 279 #[.slice p 0 cap, .int .i64 (0 : Nat), .int .i64 (0 : Nat), fv] w fun e w' => e = .returned (.tuple #[]) ∧ ∃ q : Nat, w' = w := by
 go_enter Tryz.func279, Tryz.ntmps279
 go_wp2
 refine wp_loop_rounds 1 ?_
 rw [rounds_succ]
 go_wp2
 go_end0
 exact ⟨rfl, 0, rfl⟩
/-- Places in memory, sorted. -/
def OrdR (d : List SlipV) (t : Int) (base : Nat) (p : Option Addr) (n cap : Nat) (w : World) (e : Ending) (w' : World) : Prop :=
 e = .returned (.tuple #[]) ∧ Slc 1 natC w' p n cap (ordF d t) ∧ w.heap.size ≤ w'.heap.size ∧ ∀ a : World, Ext a w → a.heap.size ≤ base → Ext a w'
set_option maxRecDepth 100000 in
theorem ordSort_any {w : World} {base : Nat} {v : Value} {d : List SlipV} (t : Int) (hown : w.ownsRow base 3 1 v (selF d t).length ((selF d t).flatMap natC)) {gd db off dn dc : Nat} (h : AtM w gd db off dn dc d ∨ d = []) (hdn : d.length ≤ 19) (h1 : gd < base) (h2 : db < base ∨ d = []) :
 ∃ (p : Option Addr) (cap : Nat), v = .slice p (selF d t).length cap ∧ Calls Tryz.prog 167 #[v, .func (.func 168) #[] #[.pointer (some ⟨gd, 0, none⟩)]] w (OrdR d t base p (selF d t).length cap w) := by
 have hsl : (selF d t).length ≤ d.length := selK_len d t d.length
 rcases Nat.eq_zero_or_pos (selF d t).length with h0 | h0
 ·obtain ⟨p, cap, rfl, hS⟩ := slc_of_own natC_len hown (by decide) (by omega)
  refine ⟨p, cap, rfl, ?_⟩
  have hnil := List.eq_nil_of_length_eq_zero h0
  rw [hnil] at hS ⊢
  exact (stableN_any p 0 cap _ w (by omega) (fun _ => w) (ins0_any p cap _ w)).mono fun e w' ⟨he, q, hw⟩ => ⟨he, by rw [hw, ord_nil hnil]; exact hS, by rw [hw]; exact Nat.le_refl _, fun a ha _ => by rw [hw]; exact ha⟩
 ·have hdl : 0 < d.length := by omega
  have hne : d ≠ [] := fun e => by subst e; simp at hdl
  replace h := h.resolve_right hne
  replace h2 := h2.resolve_right hne
  obtain ⟨m, hm⟩ : ∃ m, d.length = m + 1 := ⟨d.length - 1, by omega⟩
  obtain ⟨P, hP⟩ := fin_list (P := selF d t) (m := m) fun i hi => by have := (mem_sel.1 hi).1; omega
  have hPl : P.length = (selF d t).length := by rw [← hP, List.length_map]
  obtain ⟨g, cap, rfl, hg, hgl⟩ := hown.form h0
  refine ⟨_, cap, rfl, ?_⟩
  have ho2 := hown
  rw [← hP, nat_enc] at ho2
  obtain ⟨g', cap', e9, hbg, hgl', hncap, hcm, hln, hH⟩ := Lib.holds_of_ownsRow ho2 (fun e => by cases e)
  cases e9
  have hdbl : db < w.heap.size := by omega
  have hs := Any.insertionSortCmpFunc_one Tryz.lisInt (encN (k := m + 1)) (fun _ => rfl) (cmpAt (m := m) d) 168 #[.pointer (some ⟨gd, 0, none⟩)] g 0 cap 0 P.length P.toArray w (fun args u => by rfl) (fun q os dk _ x y => atCmp_any (h.sort (by omega) (by omega) hdbl) (h.len.symm.trans hm) x y) hH (Nat.zero_le _) (by simp) (by simp; omega)
  have hsz : P.toArray.size = P.length := by simp
  rw [hsz] at hs
  have hso := ord_ins (m := m) t hP
  have hds : (insertionSort (ltOf (cmpAt (m := m) d)) P.toArray 0 P.length).size = P.length := by
   have := (ord_perm d t).length_eq
   rw [← hso, List.length_map, ← hPl] at this
   simpa using this
  generalize insertionSort (ltOf (cmpAt (m := m) d)) P.toArray 0 P.length = D at *
  rw [hPl] at hs hds hsz
  have hS := stableN_any _ (selF d t).length cap _ w (by omega) (fun q => (putRow encN w g 0 D).drewN q) hs
  refine hS.mono fun e w' ⟨he, q, hw⟩ => ?_
  have hH2 : Holds encN w' g 0 D := by
   rw [hw]
   exact holds_putRow encN w g 0 _ _ hH (by rw [hds, hsz])
  have hgr : w.grownBy w' (some g) := by
   rw [hw]
   have := sortW_grown encN w g q D #[]
   rw [sortWorld_none] at this
   exact this
  refine ⟨he, ?_, hgr.size, fun a ha hb => ha.grown hgr fun k hk => by cases hk; exact Nat.le_trans hb hg⟩
  have hlen : (ordF d t).length = (selF d t).length := (ord_perm d t).length_eq
  refine ⟨⟨hlen, by omega, fun _ => ⟨g, 0, rfl, Nat.lt_of_lt_of_le hgl hgr.size, fun i x hx j u hu => ?_⟩⟩, (by rw [hP] at hncap; exact hncap), (fun e => by cases e), (fun a ha => by cases ha; exact ⟨g, 0, rfl, Nat.lt_of_lt_of_le hgl hgr.size⟩)⟩
  obtain rfl : j = 0 := by
   have := (List.getElem?_eq_some_iff.1 hu).1
   simp only [natC, List.length_singleton] at this
   omega
  cases hu
  have hi : i < D.size := by rw [hds, ← hlen]; exact (List.getElem?_eq_some_iff.1 hx).1
  have h1 := (hH2 i hi).1
  rw [← hso, List.getElem?_map] at hx
  have e1 : D.toList[i]? = some D[i] := by simp [hi]
  rw [e1] at hx
  have e2 : D[i]! = D[i] := getElem!_pos D i hi
  rw [e2] at h1
  have e3 : x = D[i].val := by simpa using hx.symm
  rw [e3, show 0 + i * 1 + 0 = 0 + i by omega]
  exact h1
end Go.Proofs.YtehboinleolihaaGreatDoor
namespace Go.Proofs.YtehboinleolihaaGreatDoor
open Go Go.RowKit Go.Maps
theorem natInfo : (Tryz.prog.info? 3).map (fun i => (i.zero, i.size, i.bytes)) = some (some (.int .i64 0), 1,8) := by kernel_rfl
/-- A library at a moment, and the slips that were refused. -/
def LibAtR (tp : Option Addr) (tn tc : Nat) (T : List TitleV) (r : LendR) (d : List SlipV) (t : Int) (w : World) (e : Ending) (w' : World) : Prop :=
 ∃ (base bb ms ml mh q mr n : Nat), e = .returned (.tuple #[.pointer (some ⟨bb, 0, none⟩), .map (some mr)]) ∧ LibM base w' bb ms ml mh q tp tn tc r (libAt T r d t).1 ∧ OwnX intE w' mr n (libAt T r d t).2 ∧ Ext w w'
theorem okX_of {x : SlipV} (h : slipE x = 0) (hs : x.Small) : OkX x := by
 have h1 := slip_ok h
 obtain ⟨s1, s2, s3⟩ := hs
 refine ⟨⟨s2, ?_, ?_⟩, s3, s2⟩
 ·have := h1.copy; show _ ≤ x.copy; omega
 ·have := h1.copy; show x.copy ≤ _; omega
theorem lib_new {base : Nat} {w : World} {bb ms ml mh : Nat} {tp : Option Addr} {tn tc : Nat} {r : LendR} (hB : Blk w bb 145 (libC tp tn tc r ms ml mh (.slice none 0 0))) (h1 : OwnK idS w ms 0 (fun _ => none)) (h2 : OwnK idI w ml 0 (fun _ => none)) (h3 : OwnK strM w mh 0 (fun _ => none)) (e1 : ms ≠ ml) (e2 : ms ≠ mh) (e3 : ml ≠ mh) :
 LibM base w bb ms ml mh 0 tp tn tc r LibS.new :=
 ⟨⟨_, hB, World.ownsRow_nil _ _ _ _⟩, ⟨h1, h2, ⟨_, h3, (fun s => by simp [LibS.new]), (fun s l h => by simp [LibS.new] at h), fun s s' b h => by simp at h⟩, e1, e2, e3⟩⟩
theorem KeepL.own {base bb ms ml mh : Nat} {a w : World} (h : KeepL base bb ms ml mh a w) {z : Nat} (hz : z < a.heap.size) (hb : z < base) (h1 : z ≠ bb) (h2 : z ≠ ms) (h3 : z ≠ ml) (h4 : z ≠ mh) : w.heap[z]? = a.heap[z]? := h.block z hz hb h1 h2 h3 h4
theorem KeepL.old {base bb ms ml mh : Nat} {a w u : World} (h : KeepL base bb ms ml mh a w) (he : Ext u a) (hb : u.heap.size ≤ base) (h1 : u.heap.size ≤ bb) (h2 : u.heap.size ≤ ms) (h3 : u.heap.size ≤ ml) (h4 : u.heap.size ≤ mh) : Ext u w :=
 ⟨h.os.trans he.os, h.tape.trans he.tape, h.output.trans he.output, Nat.le_trans he.size h.size, fun k hk => (h.block k (Nat.lt_of_lt_of_le hk he.size) (by omega) (by omega) (by omega) (by omega) (by omega)).trans (he.block k hk)⟩
theorem lib_start (tp : Option Addr) (tn tc : Nat) (r : LendR) (dp : Option Addr) (dn dc : Nat) (w : World) : Ext w ((((((w.alloc (.cells #[.int .i64 r.days, .int .i64 r.late, .int .i64 r.most, .int .i64 r.each] 28)).alloc (.cells #[.slice dp dn dc] 31)).alloc (.map #[] 0)).alloc (.map #[] 0)).alloc (.map #[] 0)).alloc (.cells #[.slice tp tn tc, .int .i64 r.days, .int .i64 r.late, .int .i64 r.most, .int .i64 r.each, .map (some (w.heap.size + 1 + 1)), .map (some (w.heap.size + 1 + 1 + 1)), .slice none 0 0, .map (some (w.heap.size + 1 + 1 + 1 + 1))] 145)) ∧ Blk ((((((w.alloc (.cells #[.int .i64 r.days, .int .i64 r.late, .int .i64 r.most, .int .i64 r.each] 28)).alloc (.cells #[.slice dp dn dc] 31)).alloc (.map #[] 0)).alloc (.map #[] 0)).alloc (.map #[] 0)).alloc (.cells #[.slice tp tn tc, .int .i64 r.days, .int .i64 r.late, .int .i64 r.most, .int .i64 r.each, .map (some (w.heap.size + 1 + 1)), .map (some (w.heap.size + 1 + 1 + 1)), .slice none 0 0, .map (some (w.heap.size + 1 + 1 + 1 + 1))] 145)) (w.heap.size + 1) 31 #[.slice dp dn dc] ∧ ((((((w.alloc (.cells #[.int .i64 r.days, .int .i64 r.late, .int .i64 r.most, .int .i64 r.each] 28)).alloc (.cells #[.slice dp dn dc] 31)).alloc (.map #[] 0)).alloc (.map #[] 0)).alloc (.map #[] 0)).alloc (.cells #[.slice tp tn tc, .int .i64 r.days, .int .i64 r.late, .int .i64 r.most, .int .i64 r.each, .map (some (w.heap.size + 1 + 1)), .map (some (w.heap.size + 1 + 1 + 1)), .slice none 0 0, .map (some (w.heap.size + 1 + 1 + 1 + 1))] 145)).heap.size = w.heap.size + 6 ∧
 ∀ base, LibM base ((((((w.alloc (.cells #[.int .i64 r.days, .int .i64 r.late, .int .i64 r.most, .int .i64 r.each] 28)).alloc (.cells #[.slice dp dn dc] 31)).alloc (.map #[] 0)).alloc (.map #[] 0)).alloc (.map #[] 0)).alloc (.cells #[.slice tp tn tc, .int .i64 r.days, .int .i64 r.late, .int .i64 r.most, .int .i64 r.each, .map (some (w.heap.size + 1 + 1)), .map (some (w.heap.size + 1 + 1 + 1)), .slice none 0 0, .map (some (w.heap.size + 1 + 1 + 1 + 1))] 145)) (w.heap.size + 1 + 1 + 1 + 1 + 1) (w.heap.size + 1 + 1) (w.heap.size + 1 + 1 + 1) (w.heap.size + 1 + 1 + 1 + 1) 0 tp tn tc r LibS.new := by
 refine ⟨((((((Ext.refl w).alloc _).alloc _).alloc _).alloc _).alloc _).alloc _, ?_, by simp, fun base => lib_new ?_ ?_ ?_ ?_ (by omega) (by omega) (by omega)⟩
 ·exact ((((Blk.new' (by simp)).alloc _).alloc _).alloc _).alloc _
 ·exact Blk.new' (by simp)
 ·have o := OwnK.made (M := idS) ((w.alloc (.cells #[.int .i64 r.days, .int .i64 r.late, .int .i64 r.most, .int .i64 r.each] 28)).alloc (.cells #[.slice dp dn dc] 31))
  have o2 := ((o.ext ((Ext.refl _).alloc (.map #[] 0))).ext ((Ext.refl _).alloc (.map #[] 0))).ext ((Ext.refl _).alloc (.cells #[.slice tp tn tc, .int .i64 r.days, .int .i64 r.late, .int .i64 r.most, .int .i64 r.each, .map (some (w.heap.size + 1 + 1)), .map (some (w.heap.size + 1 + 1 + 1)), .slice none 0 0, .map (some (w.heap.size + 1 + 1 + 1 + 1))] 145))
  have e : ((w.alloc (.cells #[.int .i64 r.days, .int .i64 r.late, .int .i64 r.most, .int .i64 r.each] 28)).alloc (.cells #[.slice dp dn dc] 31)).heap.size = w.heap.size + 1 + 1 := by simp
  rw [e] at o2
  exact o2
 ·have o := OwnK.made (M := idI) (((w.alloc (.cells #[.int .i64 r.days, .int .i64 r.late, .int .i64 r.most, .int .i64 r.each] 28)).alloc (.cells #[.slice dp dn dc] 31)).alloc (.map #[] 0))
  have o2 := (o.ext ((Ext.refl _).alloc (.map #[] 0))).ext ((Ext.refl _).alloc (.cells #[.slice tp tn tc, .int .i64 r.days, .int .i64 r.late, .int .i64 r.most, .int .i64 r.each, .map (some (w.heap.size + 1 + 1)), .map (some (w.heap.size + 1 + 1 + 1)), .slice none 0 0, .map (some (w.heap.size + 1 + 1 + 1 + 1))] 145))
  have e : (((w.alloc (.cells #[.int .i64 r.days, .int .i64 r.late, .int .i64 r.most, .int .i64 r.each] 28)).alloc (.cells #[.slice dp dn dc] 31)).alloc (.map #[] 0)).heap.size = w.heap.size + 1 + 1 + 1 := by simp
  rw [e] at o2
  exact o2
 ·have o := OwnK.made (M := strM) ((((w.alloc (.cells #[.int .i64 r.days, .int .i64 r.late, .int .i64 r.most, .int .i64 r.each] 28)).alloc (.cells #[.slice dp dn dc] 31)).alloc (.map #[] 0)).alloc (.map #[] 0))
  have o2 := o.ext ((Ext.refl _).alloc (.cells #[.slice tp tn tc, .int .i64 r.days, .int .i64 r.late, .int .i64 r.most, .int .i64 r.each, .map (some (w.heap.size + 1 + 1)), .map (some (w.heap.size + 1 + 1 + 1)), .slice none 0 0, .map (some (w.heap.size + 1 + 1 + 1 + 1))] 145))
  have e : ((((w.alloc (.cells #[.int .i64 r.days, .int .i64 r.late, .int .i64 r.most, .int .i64 r.each] 28)).alloc (.cells #[.slice dp dn dc] 31)).alloc (.map #[] 0)).alloc (.map #[] 0)).heap.size = w.heap.size + 1 + 1 + 1 + 1 := by simp
  rw [e] at o2
  exact o2
theorem LibM.apart {base : Nat} {w w' : World} {bb ms ml mh q : Nat} {tp : Option Addr} {tn tc : Nat} {r : LendR} {L : LibS} (h : LibM base w bb ms ml mh q tp tn tc r L) {z : Nat} (hg : w.grownBy w' (some z)) (hz : z < base) (h0 : z ≠ bb) (h1 : z ≠ ms) (h2 : z ≠ ml) (h3 : z ≠ mh) : LibM base w' bb ms ml mh q tp tn tc r L := by
 obtain ⟨⟨lv, hb, ho⟩, hm⟩ := h
 refine ⟨⟨lv, (hg.block bb hb.lt fun e => h0 (by cases e; rfl)).trans hb, own_at ho fun g hv => hg.block g (ho.lt g hv).2 fun e => ?_⟩, hm.st.grown hg (by simp; omega), hm.last.grown hg (by simp; omega), hm.has.grown hg (by simp; omega) fun b l hb => by have := hb.low; simp; omega, hm.sl, hm.sh, hm.lh⟩
 cases e
 have := (ho.lt _ hv).1
 omega
theorem KeepL.fresh {base bb ms ml mh : Nat} {a w w' : World} (h : KeepL base bb ms ml mh a w) {z : Nat} (hg : w.grownBy w' (some z)) (hz : a.heap.size ≤ z) : KeepL base bb ms ml mh a w' :=
 ⟨hg.os.trans h.os, hg.tape.trans h.tape, hg.output.trans h.output, Nat.le_trans h.size hg.size, fun k hk h1 h2 h3 h4 h5 => (hg.block k (Nat.lt_of_lt_of_le hk h.size) fun e => by cases e; omega).trans (h.block k hk h1 h2 h3 h4 h5)⟩
set_option maxRecDepth 100000 in
set_option maxHeartbeats 12800000 in
theorem libraryAt_any (tp : Option Addr) (tn tc : Nat) (T : List TitleV) (r : LendR) (dp : Option Addr) (dn dc : Nat) (d : List SlipV) (t : Int) (w : World) (hT : Slc 3 titleC w tp tn tc T) (hTo : TitlesOk T) (hD : Slc 7 slipC w dp dn dc d) (hd : RightS d) (hs : ∀ x ∈ d, x.Small) (hn : dn ≤ 19) :
 Calls Tryz.prog 83 #[.slice tp tn tc, lendVal r, .slice dp dn dc, .int .i64 t] w (LibAtR tp tn tc T r d t w) := by
 have hdl := hD.1.1
 have hmm := @run_makeMap Tryz.prog
 obtain ⟨hE0, hG0, hsz, hL0⟩ := lib_start tp tn tc r dp dn dc w
 have hsel : (selF d t).length ≤ 19 := by have := selK_len d t d.length; rw [selK_all] at this; omega
 replace hE0 := Lib.hid hE0; replace hG0 := Lib.hid hG0; replace hsz := Lib.hid hsz; replace hL0 := Lib.hid hL0; replace hT := Lib.hid hT; replace hD := Lib.hid hD; replace hd := Lib.hid hd; replace hs := Lib.hid hs
 unfold lendVal
 go_enter Tryz.func83, Tryz.ntmps83
 go_upto_region 2 with fail
 generalize ((((((w.alloc (.cells #[.int .i64 r.days, .int .i64 r.late, .int .i64 r.most, .int .i64 r.each] 28)).alloc (.cells #[.slice dp dn dc] 31)).alloc (.map #[] 0)).alloc (.map #[] 0)).alloc (.map #[] 0)).alloc (.cells #[.slice tp tn tc, .int .i64 r.days, .int .i64 r.late, .int .i64 r.most, .int .i64 r.each, .map (some (w.heap.size + 1 + 1)), .map (some (w.heap.size + 1 + 1 + 1)), .slice none 0 0, .map (some (w.heap.size + 1 + 1 + 1 + 1))] 145)) = W1 at *
 generalize hbb : w.heap.size + 1 + 1 + 1 + 1 + 1 = bb at *
 generalize hmh : w.heap.size + 1 + 1 + 1 + 1 = mh at *
 generalize hml : w.heap.size + 1 + 1 + 1 = ml at *
 generalize hms : w.heap.size + 1 + 1 = ms at *
 generalize hgd : w.heap.size + 1 = gd at *
 have hlay : w.heap.size < gd ∧ gd < ms ∧ ms < ml ∧ ml < mh ∧ mh < bb ∧ bb < W1.heap.size := by have := hsz.out; omega
 replace hlay := Lib.hid hlay; clear hbb hmh hml hms hgd hsz
 have g0 := hG0.out.cell 0
 have lg := hG0.out.lt
 go_wp2
 go_loopw [11,27] (fun v11 v27 wr => ∃ (k : Nat) (v : Value), v27 = .int .i64 k ∧ v = v11 ∧ k ≤ dn ∧ wr.ownsRow W1.heap.size 3 1 v (selK d t k).length ((selK d t k).flatMap natC) ∧ Ext W1 wr) (fun _ v27 _ => dn - (intOf v27).toNat)
 case atStart => exact ⟨0, _, rfl, rfl, Nat.zero_le _, World.ownsRow_nil _ _ _ _, Ext.refl _⟩
 case round =>
  obtain ⟨k, v, rfl, rfl, hk, hown, he⟩ := hrel
  have hks := selK_len d t k
  by_cases hlt : k < dn
  ·obtain ⟨x, hx⟩ := getD_some hdl hlt
   obtain ⟨b, off, rfl, hb, hE⟩ := hD.out.1.2.2 (by omega)
   obtain ⟨d0, d1, d2, d3, d4, d5, d6⟩ := (hE.ext (hE0.out.trans he) hb).slip hx
   have hax := atD_of hx
   have hkI : (k : Int) < (dn : Int) := by omega
   have hszr := he.size
   replace hx := Lib.hid hx; replace hE := Lib.hid hE
   by_cases hat : atD d k ≤ t
   ·have hsu : selK d t (k + 1) = selK d t k ++ [k] := by rw [selK_succ, if_pos hat]
    rw [hax] at hat
    go_wp2_with (at_builtin; go_loud (refine wp_app1 _ (.tmp 36) (.tmp 38) 22 3 1 8 _ rfl rfl Tryz.underlying22 natInfo rfl (by decide) (by decide) W1.heap.size _ (selK d t k).length _ rfl ((hown.alloc _).alloc _) _ (natC k) rfl rfl (Blk.new' (by simp)) (natC_one _) (by omega) (by simp; omega) ?_; intro v' w6 hown6 hgrow6 _))
    go_roundw
    case rel => exact ⟨k + 1, v', by go_num, rfl, by omega, by rw [hsu, List.length_append, flat_snoc]; exact hown6, ((he.alloc _).alloc _).app ((hown.alloc _).alloc _) (Nat.le_refl _) hgrow6⟩
    case measure => simp [intOf]; omega
   ·have hsu : selK d t (k + 1) = selK d t k := by rw [selK_succ, if_neg hat]
    rw [hax] at hat
    go_wp2
    go_roundw
    case rel => exact ⟨k + 1, _, by go_num, rfl, by omega, by rw [hsu]; exact hown.alloc _, he.alloc _⟩
    case measure => simp [intOf]; omega
  ·obtain rfl : dn = k := by omega
   have hown2 : wr.ownsRow W1.heap.size 3 1 v (selF d t).length ((selF d t).flatMap natC) := by
    have e : selK d t dn = selF d t := by rw [← hdl]; rfl
    rw [e] at hown
    exact hown
   have hAt : ∃ db off, (AtM wr gd db off dn dc d ∨ d = []) ∧ (db < W1.heap.size ∨ d = []) := by
    rcases Nat.eq_zero_or_pos dn with h0 | h0
    ·have hnil : d = [] := List.eq_nil_of_length_eq_zero (by omega)
     exact ⟨0,0, .inr hnil, .inr hnil⟩
    ·obtain ⟨b, off, rfl, hb, hE⟩ := hD.out.1.2.2 (by omega)
     have hb1 := Nat.lt_of_lt_of_le hb hE0.out.size
     refine ⟨b, off, .inl ⟨hG0.out.ext he, hE.ext (hE0.out.trans he) hb, hdl, fun x hx => ?_⟩, .inl hb1⟩
     exact (slip_ok (hd.out.one x hx)).at_
   obtain ⟨db, off, hAt, hdb⟩ := hAt
   have hlay2 := hlay.out
   obtain ⟨p, cap, rfl, hsort⟩ := ordSort_any t hown2 hAt (by omega) (by omega) hdb
   replace hsort := Lib.hid hsort; replace hown2 := Lib.hid hown2; clear hown hAt hdb hks hlt hk
   go_wp2_with (go_at_call 167; (with_reducible refine Calls.mono hsort.out ?_); rintro e w2 ⟨rfl, hO, hwsz, hX2⟩)
   have hE2 : Ext W1 w2 := hX2 W1 he (Nat.le_refl _)
   have hE3 : Ext W1 (w2.alloc (.map #[] 0)) := hE2.alloc _
   have hL3 := (hL0.out (w2.heap.size + 1)).ext hE3
   have hR3 := OwnX.made (M := intE) w2
   have hO2 := hO
   replace hO2 := Lib.hid hO2
   have hG3 := hG0.out.ext hE3
   have hO3 : Slc 1 natC (w2.alloc (.map #[] 0)) p (selF d t).length cap (ordF d t) := hO.ext ((Ext.refl w2).alloc _)
   have hK3 : KeepL (w2.heap.size + 1) bb ms ml mh w2 (w2.alloc (.map #[] 0)) := (KeepL.refl w2).ext ((Ext.refl w2).alloc _)
   have hE02 : Ext w w2 := hE0.out.trans hE2
   have hmr : mh < w2.heap.size ∧ bb < w2.heap.size := by have := hE2.size; omega
   have hOl : (ordF d t).length = (selF d t).length := (ord_perm d t).length_eq
   have hgO : ∀ b o, p = some ⟨b, o, none⟩ → 0 < (selF d t).length → W1.heap.size ≤ b ∧ b < wr.heap.size := fun b o e h0 => by
    obtain ⟨g, c9, e9, hg, hgl⟩ := hown2.out.form h0
    cases e9
    cases e
    exact ⟨hg, hgl⟩
   clear hsort hX2 hO hown2 hsel
   have hOn : (ordF d t).length ≤ 19 := by rw [hOl]; have := selK_len d t d.length; rw [selK_all] at this; omega
   have hOn2 : (selF d t).length ≤ 19 := by omega
   obtain ⟨base, hbase⟩ : ∃ base, base = w2.heap.size + 1 := ⟨_, rfl⟩
   rw [← hbase] at hL3 hK3
   replace hL3 := Lib.hid hL3; replace hR3 := Lib.hid hR3; replace hG3 := Lib.hid hG3; replace hO3 := Lib.hid hO3; replace hK3 := Lib.hid hK3; replace hbase := Lib.hid hbase; replace hgO := Lib.hid hgO
   have hw3s : (w2.alloc (.map #[] 0)).heap.size = base := by rw [hbase.out]; simp
   replace hw3s := Lib.hid hw3s
   generalize (w2.alloc (.map #[] 0)) = W3 at *
   generalize hmrz : w2.heap.size = mr at *
   replace hmrz := Lib.hid hmrz
   go_loopw [47] (fun v47 wr' => ∃ (k nn : Nat), v47 = .int .i64 k ∧ k ≤ (selF d t).length ∧ LibM base wr' bb ms ml mh (3 * k) tp tn tc r (runR T r d (LibS.new, fun _ => none) ((ordF d t).take k)).1 ∧ OwnX intE wr' mr nn (runR T r d (LibS.new, fun _ => none) ((ordF d t).take k)).2 ∧ nn ≤ k ∧ KeepL base bb ms ml mh w2 wr') (fun v47 _ => (selF d t).length - (intOf v47).toNat)
   case atStart => exact ⟨0,0, rfl, Nat.zero_le _, hL3.out, hR3.out, Nat.le_refl _, hK3.out⟩
   case round =>
    obtain ⟨k, nn, rfl, hk, hL, hR, hnn, hK⟩ := hrel
    by_cases hlt : k < (selF d t).length
    ·have hlay3 := hlay.out
     have hmz := hmrz.out
     have hbz := hbase.out
     have hEw : Ext w wr := hK.old hE02 (by omega) (by omega) (by omega) (by omega) (by omega)
     have hbs : base ≤ wr.heap.size := by have := hR.lt; omega
     obtain ⟨i, hi⟩ := getD_some hOl hlt
     obtain ⟨hid, -⟩ := mem_ord.1 (List.mem_of_getElem? hi)
     obtain ⟨x, hx⟩ := getD_some hdl (show i < dn by omega)
     have hxm := List.mem_of_getElem? hx
     have hgb := fun b o e => hgO.out b o e (by omega)
     obtain ⟨b, o, rfl, -, hEO⟩ := hO2.out.1.2.2 (by omega)
     obtain ⟨hb1, hb2⟩ := hgb b o rfl
     have cO : wr.cell? ⟨b, o + k, none⟩ = some (.int .i64 (i : Int)) := by
      have h9 := hEO k i hi 0 _ rfl
      rw [show o + k * 1 + 0 = o + k by omega] at h9
      exact (World.cell?_of_block (w := w2) (hK.block b (by omega) (by omega) (by omega) (by omega) (by omega) (by omega))).trans h9
     have hGr : Blk wr gd 31 #[.slice dp dn dc] := (hK.block gd (by omega) (by omega) (by omega) (by omega) (by omega) (by omega)).trans (hG0.out.ext hE2)
     have g0 := hGr.cell 0
     have lg := hGr.lt
     obtain ⟨db', off', rfl, hdb', hED⟩ := hD.out.1.2.2 (by omega)
     obtain ⟨d0, d1, d2, d3, d4, d5, d6⟩ := (hED.ext hEw hdb').slip hx
     have hso := slip_ok (hd.out.one x hxm)
     have hsl := slip_any hL (hT.out.ext hEw) hTo (run_ok (fun z hz => ⟨(slip_ok (hd.out.one z hz)).kind, (hs.out z hz).2.2⟩) (fun j hj => (mem_ord.1 hj).1) k (by omega) (by omega)) (by omega) x (okX_of (hd.out.one x hxm) (hs.out x hxm)) hso.kind (by omega) hbs
     have hnext := run_take (T := T) (r := r) (d := d) (s := (LibS.new, fun _ => none)) hi
     unfold stepR at hnext
     rw [show d.getD i default = x by rw [List.getD_eq_getElem?_getD, hx]; rfl] at hnext
     generalize runR T r d (LibS.new, fun _ => none) ((ordF d t).take k) = s at *
     generalize slipD T r s.1 x = y at *
     obtain ⟨y1, y2⟩ := y
     unfold slipVal at hsl
     dsimp only at hsl hnext
     have hkI : (k : Int) < ((selF d t).length : Int) := by omega
     have hiI : (i : Int) < (dn : Int) := by omega
     have hmrl := hR.lt
     replace hsl := Lib.hid hsl; replace hnext := Lib.hid hnext; replace hx := Lib.hid hx; replace hi := Lib.hid hi; replace hL := Lib.hid hL; replace hK := Lib.hid hK; replace hR := Lib.hid hR; replace hED := Lib.hid hED; replace hEO := Lib.hid hEO; replace hso := Lib.hid hso; replace hbz := Lib.hid hbz; replace hmz := Lib.hid hmz
     by_cases hy : y2 = 0
     ·subst hy
      go_wp2_with (go_at_call 169; (with_reducible refine Calls.mono hsl.out ?_); rintro e w6 ⟨rfl, hL6, hK6⟩)
      have hbz2 := hbz.out
      have hmz2 := hmz.out
      have hR6 := hR.out.at_ (hK6.block mr hmrl (by omega) (by omega) (by omega) (by omega) (by omega))
      go_roundw
      case rel => exact ⟨k + 1, nn, by go_num, by omega, by rw [hnext.out]; exact hL6.more (by omega), by rw [hnext.out]; exact hR6, by omega, hK.out.trans hK6⟩
      case measure => simp [intOf]; omega
     ·replace hy := Lib.hid hy
      have hyb : ¬ y2 = 0 := hy.out
      go_wp2_with (first
       | (go_at_call 169; (with_reducible refine Calls.mono hsl.out ?_); rintro e w6 ⟨rfl, hL6, hK6⟩; have hbz2 := hbz.out; have hmz2 := hmz.out; have hR6 := hR.out.at_ (hK6.block mr hmrl (by omega) (by omega) (by omega) (by omega) (by omega)); obtain ⟨w7, hr7, ho7, hg7⟩ := hR6.put (k := (i : Int)) (by show _ ∧ _; omega) (by omega) y2; replace hr7 := Lib.hid hr7; clear hbz2 hmz2)
       | (refine wpList_putM rfl _ _ _ 122 rfl (.map (some mr)) (.int .i64 (i : Int)) (.int .i64 y2) rfl rfl rfl w7 hr7.out ?_))
      have hbz2 := hbz.out
      have hmz2 := hmz.out
      go_roundw
      case rel => exact ⟨k + 1, _, by go_num, by omega, by rw [hnext.out]; exact (hL6.apart hg7 (by omega) (by omega) (by omega) (by omega) (by omega)).more (by omega), by rw [hnext.out, if_neg hyb]; exact ho7, by split <;> omega, (hK.out.trans hK6).fresh hg7 (by omega)⟩
      case measure => simp [intOf]; omega
    ·obtain rfl : (selF d t).length = k := by omega
     have hlay3 := hlay.out
     have hmz := hmrz.out
     have hbz := hbase.out
     have hEw : Ext w wr := hK.old hE02 (by omega) (by omega) (by omega) (by omega) (by omega)
     rw [List.take_of_length_le (by omega)] at hL hR
     have hres : LibAtR tp tn tc T r d t w (.returned (.tuple #[.pointer (some ⟨bb, 0, none⟩), .map (some mr)])) wr := ⟨base, bb, ms, ml, mh, _, mr, nn, rfl, hL, hR, hEw⟩
     replace hres := Lib.hid hres; clear hL hR hK hEw hmz hbz
     go_wp2
     go_ret2
     exact hres.out
end Go.Proofs.YtehboinleolihaaGreatDoor
