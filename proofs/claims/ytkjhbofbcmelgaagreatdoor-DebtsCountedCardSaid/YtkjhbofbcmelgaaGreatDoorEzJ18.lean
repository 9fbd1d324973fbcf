/- The document's order of slips is the package's: plain. Conditions: as each theorem says. The document's order of slips: the comparison and the sort. Conditions: sizes; at most 19 slips. The slips that are refused, sorted: the keys of a map from numbers. Conditions: sizes. A loop over an own map in any order, with the entries' values. Conditions: as each theorem says. -/
import Derived.Test.YtkjhbofbcmelgaaGreatDoorEzJ16
import Derived.Test.YtkjhbofbcmelgaaGreatDoorEzJ17
import Derived.Test.YtkjhbofbcmelgaaGreatDoorEzJ15
import Derived.Shelf.SlSortCmp.Whole1
import Derived.Maps.OwnSet
import Derived.Shelf.SlIterI.Nil
set_option linter.unusedSimpArgs false
set_option linter.unusedVariables false
namespace Go.Proofs.YtkjhbofbcmelgaaGreatDoor
open Go Go.RowKit Go.Sort
/-- What the document compares of two slips. -/
def cmpA (d : List SlipV) {m : Nat} (i j : Fin (m + 1)) : Int := orF [cmpZ (getS d i.val).at_ (getS d j.val).at_, sliO (getS d i.val) (getS d j.val)]
theorem cmpA_lt (d : List SlipV) {m : Nat} (i j : Fin (m + 1)) : ltOf (cmpA d) i j = true ↔ ltA (getS d i.val) (getS d j.val) := by
 unfold ltOf cmpA
 rw [decide_eq_true_iff]
 generalize getS d i.val = a
 generalize getS d j.val = b
 unfold ltA
 rw [← sliLt_iff]
 have h3 := sliO_three a b
 generalize sliO a b = s at *
 have hz : cmpZ a.at_ b.at_ = if a.at_ < b.at_ then -1 else if a.at_ = b.at_ then 0 else 1 := rfl
 have e1 : orF [cmpZ a.at_ b.at_, s] = if cmpZ a.at_ b.at_ = 0 then (if s = 0 then 0 else s) else cmpZ a.at_ b.at_ := rfl
 have e2 : (if s = 0 then 0 else s) = s := by split <;> omega
 rw [e1, e2]
 generalize cmpZ a.at_ b.at_ = z at *
 rcases Int.lt_trichotomy a.at_ b.at_ with h | h | h
 ·rw [if_pos h] at hz
  subst hz
  constructor
  ·exact fun _ => .inl h
  ·exact fun _ => by rw [if_neg (by decide)]; decide
 ·rw [if_neg (by omega), if_pos h] at hz
  subst hz
  rw [if_pos rfl]
  constructor
  ·exact fun k => .inr ⟨h, k⟩
  ·exact fun k => k.elim (fun k => by omega) fun k => k.2
 ·rw [if_neg (by omega), if_neg (by omega)] at hz
  subst hz
  constructor
  ·exact fun k => absurd k (by rw [if_neg (by decide)]; decide)
  ·exact fun k => k.elim (fun k => by omega) fun k => by omega
theorem ltA_trans {a b c : SlipV} (h : ltA a b) (k : ltA b c) : ltA a c := by
 rcases h with h | ⟨h, h'⟩ <;> rcases k with k | ⟨k, k'⟩
 ·exact .inl (by omega)
 ·exact .inl (by omega)
 ·exact .inl (by omega)
 ·exact .inr ⟨by omega, sliLt_trans h' k'⟩
theorem ltA_nt {a b c : SlipV} (h1 : ¬ ltA a b) (h2 : ¬ ltA b c) : ¬ ltA a c := by
 intro h
 unfold ltA at *
 have e1 : ¬ a.at_ < b.at_ := fun e => h1 (.inl e)
 have e2 : ¬ b.at_ < c.at_ := fun e => h2 (.inl e)
 rcases h with h | ⟨h, h'⟩
 ·omega
 ·have e3 : a.at_ = b.at_ := by omega
  have e4 : b.at_ = c.at_ := by omega
  have f1 : ltOf sliO a b = false := by rw [← Bool.not_eq_true, ltS_iff]; exact fun e => h1 (.inr ⟨e3, e⟩)
  have f2 : ltOf sliO b c = false := by rw [← Bool.not_eq_true, ltS_iff]; exact fun e => h2 (.inr ⟨e4, e⟩)
  have f3 := sli_swo.ntrans a b c f1 f2
  rw [← Bool.not_eq_true, ltS_iff] at f3
  exact f3 h'
theorem cmpA_swo (d : List SlipV) (m : Nat) : SWO (ltOf (cmpA (m := m) d)) where
 irrefl x := by rw [← Bool.not_eq_true, cmpA_lt]; exact fun h => ltA_asym h h
 trans x y z h1 h2 := by rw [cmpA_lt] at *; exact ltA_trans h1 h2
 ntrans x y z h1 h2 := by rw [← Bool.not_eq_true, cmpA_lt] at *; exact ltA_nt h1 h2
/-- A list sorted so is the order in which slips are followed. -/
theorem ord_cmpA {d : List SlipV} (hd : d.Pairwise sliLt) {m : Nat} (t : Int) {P : List (Fin (m + 1))} (hP : P.map Fin.val = selF d t) {D : Array (Fin (m + 1))} (hp : PermIn 0 P.length P.toArray D) (hs : SortedIn (ltOf (cmpA d)) 0 P.length D) : D.toList.map Fin.val = ordF d t := by
 have hsz : D.size = P.length := by have := hp.1; simpa using this
 have hperm : D.toList.Perm P := by
  have h9 := hp.2.2
  have e2 : D.extract 0 P.length = D := by simp [← hsz]
  rw [e2] at h9
  simpa using h9
 have hpv : (D.toList.map Fin.val).Perm (selF d t) := by rw [← hP]; exact hperm.map _
 have ho := ord_ltA hd t (List.Sublist.refl (ordF d t))
 rw [List.pairwise_map] at ho
 have htot : ∀ i ∈ ordF d t, ∀ j ∈ ordF d t, i ≠ j → ltA (getS d i) (getS d j) ∨ ltA (getS d j) (getS d i) := by
  intro i hi j hj hne
  obtain ⟨a, ha, ea⟩ := List.getElem_of_mem hi
  obtain ⟨b, hb, eb⟩ := List.getElem_of_mem hj
  rcases Nat.lt_trichotomy a b with h | h | h
  ·have := List.pairwise_iff_getElem.1 ho a b ha hb h
   rw [ea, eb] at this
   exact .inl this
  ·subst h
   exact absurd (ea.symm.trans eb) hne
  ·have := List.pairwise_iff_getElem.1 ho b a hb ha h
   rw [ea, eb] at this
   exact .inr this
 have hpo : (D.toList.map Fin.val).Perm (ordF d t) := hpv.trans (ord_perm d t).symm
 refine List.Perm.eq_of_pairwise (le := fun i j : Nat => ltA (getS d i) (getS d j) ∨ i = j) (fun i j _ _ h1 h2 => ?_) ?_ (ho.imp fun h => .inl h) hpo
 ·rcases h1 with h1 | h1
  ·rcases h2 with h2 | h2
   ·exact (ltA_asym h1 h2).elim
   ·exact h2.symm
  ·exact h1
 ·rw [List.pairwise_map, List.pairwise_iff_getElem]
  intro i j hi hj hij
  have h9 := hs i j (Nat.zero_le _) hij (by simp at hj; omega)
  have mi : (D.toList[i]).val ∈ ordF d t := hpo.mem_iff.1 (List.mem_map_of_mem (List.getElem_mem hi))
  have mj : (D.toList[j]).val ∈ ordF d t := hpo.mem_iff.1 (List.mem_map_of_mem (List.getElem_mem hj))
  simp at hi hj
  rw [getElem!_pos D j hj, getElem!_pos D i hi, ← Bool.not_eq_true, cmpA_lt] at h9
  simp only [Array.getElem_toList] at mi mj ⊢
  by_cases e : (D[i]).val = (D[j]).val
  ·exact .inr e
  ·exact .inl ((htot _ mi _ mj e).resolve_right h9)
end Go.Proofs.YtkjhbofbcmelgaaGreatDoor
namespace Go.Proofs.YtkjhbofbcmelgaaGreatDoor
open Go Go.RowKit Go.Sort
/-- Nothing but draws and fresh blocks. -/
def Grw (w w' : World) : Prop := ∃ q os, w' = grow (w.drewN q) os
theorem Grw.refl (w : World) : Grw w w := ⟨0, #[], by simp [grow, World.drewN]⟩
theorem Grw.trans {a b c : World} (h : Grw a b) (k : Grw b c) : Grw a c := by
 obtain ⟨q, os, rfl⟩ := h
 obtain ⟨r, ps, rfl⟩ := k
 exact ⟨q + r, os ++ ps, by simp [grow, World.drewN, Nat.add_assoc, Array.append_assoc]⟩
theorem Grw.ext {a b : World} (h : Grw a b) : Ext a b := by
 obtain ⟨q, os, rfl⟩ := h
 exact Lib.below_grow _ _ (Nat.le_refl _) q os
theorem Blk.grw {w w' : World} {g : Nat} {t : TypeId} {cs : Array Value} (h : Blk w g t cs) (he : Grw w w') : Blk w' g t cs := h.ext he.ext
theorem grw_end {w a : World} {O : Obj} (h : Grw w.drew a) : Grw w (a.alloc O) := by
 obtain ⟨q, os, rfl⟩ := h
 rw [drewN_suc, alloc_eq_grow, grow_grow]
 exact ⟨q + 1, _, rfl⟩
theorem cmpIntG_any (x y : Int) (w : World) : Calls Tryz.prog 86 #[.int .i64 x, .int .i64 y] w fun e w' => e = .returned (.int .i64 (cmpZ x y)) ∧ Grw w w' :=
 (cmpIntE_any x y w).mono fun _ _ h => ⟨h.1, by obtain ⟨q, e⟩ := h.2; exact ⟨q, #[], by rw [e, grow_empty]⟩⟩
theorem sliG_any (y x : SlipV) (w : World) :
 Calls Tryz.prog 115 #[.agg #[.string y.by_, .int .i64 y.no, .int .i64 y.at_, .int .i64 y.kind, .string y.piece, .int .i64 y.copy, .string y.singer], .agg #[.string x.by_, .int .i64 x.no, .int .i64 x.at_, .int .i64 x.kind, .string x.piece, .int .i64 x.copy, .string x.singer]] w fun e w' => e = .returned (.int .i64 (sliO y x)) ∧ Grw w w' := sliByG_any y x w
set_option maxRecDepth 100000 in
set_option maxHeartbeats 3200000 in
theorem shCmp_any {w : World} {gd db off dn dc m : Nat} {d : List SlipV} (h : AtM w gd db off dn dc d) (hdb : db < w.heap.size) (hm : dn = m + 1) (i j : Fin (m + 1)) :
 Calls Tryz.prog 136 #[.int .i64 (i.val : Int), .int .i64 (j.val : Int), .pointer (some ⟨gd, 0, none⟩)] w fun e w' => e = .returned (.int .i64 (cmpA d i j)) ∧ ∃ q os', w' = grow (w.drewN q) os' := by
 obtain ⟨hs, hE, hlen, hone⟩ := h
 have hi := i.isLt
 have hj := j.isLt
 unfold cmpA
 generalize i.val = i at *
 generalize j.val = j at *
 obtain ⟨x, hx⟩ := getD_some hlen (show i < dn by omega)
 obtain ⟨y, hy⟩ := getD_some hlen (show j < dn by omega)
 have ex : getS d i = x := by unfold getS; rw [List.getD_eq_getElem?_getD, hx]; rfl
 have ey : getS d j = y := by unfold getS; rw [List.getD_eq_getElem?_getD, hy]; rfl
 rw [ex, ey]
 have hiI : (i : Int) < dn := by omega
 have hjI : (j : Int) < dn := by omega
 have hEE : ∀ a b, Grw a b → (Elems 7 slipC a db off d ∧ db < a.heap.size) → (Elems 7 slipC b db off d ∧ db < b.heap.size) := fun a b he h => ⟨h.1.ext he.ext h.2, Nat.lt_of_lt_of_le h.2 he.ext.size⟩
 have hE2 : Elems 7 slipC w db off d ∧ db < w.heap.size := ⟨hE, hdb⟩
 clear ex ey hone hi hj hE; replace hx := Lib.hid hx; replace hy := Lib.hid hy
 go_enter Tryz.func136, Tryz.ntmps136
 go_upto_region 1 with fail
 refine wp_region_planS [(0, true), (1, true), (2, true), (3, true), (4, true), (5, true), (6, true), (7, true), (8, true), (9, true), (10, true), (11, true), (12, true), (13, true), (14, true), (15, true), (16, true), (17, true), (18, true), (19, true)] 20 (fun w' => Blk w' gd 31 #[.slice (some ⟨db, off, none⟩) dn dc] ∧ (Elems 7 slipC w' db off d ∧ db < w'.heap.size)) Grw (by kernel_rfl) (by kernel_rfl) Grw.refl (fun _ _ _ => Grw.trans) (fun _ _ h he => ⟨h.1.grw he, hEE _ _ he (h.2)⟩) ⟨(by (repeat (with_reducible first | assumption | exact Blk.new' (by simp) | refine Blk.drew ?_ | refine Blk.alloc ?_ _ | exact Grw.refl _ | refine Ext.drew ?_ | refine Ext.alloc ?_ _))), hE2⟩ ?_
 repeat
  first
   | (refine plan_quiet rfl rfl (fun _ _ _ _ h => h) ?_
      apply Exists.intro
      refine ⟨fun w' hw' => ?_, ?_⟩
      ·obtain ⟨hHq0, hHq1⟩ := hw'
       obtain ⟨w0, -⟩ := hHq0.walk; obtain ⟨a0, a1, a2, a3, a4, a5, a6⟩ := hHq1.1.slip hx.out; obtain ⟨b0, b1, b2, b3, b4, b5, b6⟩ := hHq1.1.slip hy.out
       skip
       simp [go_sem, quietTo, Grw.refl, ↓IntWalk.iteOmega, w0, a0, a1, a2, a3, a4, a5, a6, b0, b1, b2, b3, b4, b5, b6, hiI, hjI]
       first
        | rfl
        | (exact cmpIntG_any _ _ _)
        | (exact sliG_any x y _)
      simp only [Act.put, sIA, sCS, sCZ])
   | (refine plan_skip rfl rfl (fun _ _ _ _ h => h) ?_
      simp only [Act.put, sIA, sCS, sCZ])
 refine plan_nil fun wrq herq hwrq => ?_
 obtain ⟨hHq0, hHq1⟩ := hwrq
 obtain ⟨hCq0, hFq0⟩ := hHq0.walk
 simp only [List.drop_succ_cons, List.drop_zero, List.drop_nil]
 go_wp2_with (go_at_call 85; refine (orInt_blk _ _ 2 [cmpZ x.at_ y.at_, sliO x y] _ (by simp) (Blk.new' rfl)).mono ?_; rintro e w2 ⟨rfl, rfl⟩)
 go_ret
 exact ⟨rfl, grw_end herq⟩
/-- Places in memory, sorted as the document does. -/
def OrdD (d : List SlipV) (t : Int) (base : Nat) (p : Option Addr) (n cap : Nat) (w : World) (e : Ending) (w' : World) : Prop :=
 e = .returned (.tuple #[]) ∧ Slc 1 natC w' p n cap (ordF d t) ∧ w.heap.size ≤ w'.heap.size ∧ ∀ a : World, Ext a w → a.heap.size ≤ base → Ext a w'
theorem sortNoneI_any (p : Option Addr) (cap : Nat) (fv : Value) (w : World) :
 Calls Tryz.prog 135 #[.slice p 0 cap, fv] w fun e w' => e = .returned (.tuple #[]) ∧ w' = w := AnyF.slices_SortFunc_none { Tryz.lsfInt with } _ _ _ _
set_option maxRecDepth 100000 in
theorem shSort_any {w : World} {base : Nat} {v : Value} {d : List SlipV} (hd : d.Pairwise sliLt) (t : Int) (hown : w.ownsRow base 3 1 v (selF d t).length ((selF d t).flatMap natC)) {gd db off dn dc : Nat} (h : AtM w gd db off dn dc d ∨ d = []) (hdn : d.length ≤ 19) (h1 : gd < base) (h2 : db < base ∨ d = []) :
 ∃ (p : Option Addr) (cap : Nat), v = .slice p (selF d t).length cap ∧ Calls Tryz.prog 135 #[v, .func (.func 136) #[] #[.pointer (some ⟨gd, 0, none⟩)]] w (OrdD d t base p (selF d t).length cap w) := by
 have hsl : (selF d t).length ≤ d.length := selK_len d t d.length
 rcases Nat.eq_zero_or_pos (selF d t).length with h0 | h0
 ·obtain ⟨p, cap, rfl, hS⟩ := slc_of_own natC_len hown (by decide) (by omega)
  refine ⟨p, cap, rfl, ?_⟩
  have hnil := List.eq_nil_of_length_eq_zero h0
  rw [hnil] at hS ⊢
  exact (sortNoneI_any p cap _ w).mono fun e w' ⟨he, hw⟩ => ⟨he, by rw [hw, ord_nil hnil]; exact hS, by rw [hw]; exact Nat.le_refl _, fun a ha _ => by rw [hw]; exact ha⟩
 ·have hdl : 0 < d.length := by omega
  have hne : d ≠ [] := fun e => by subst e; simp at hdl
  replace h := h.resolve_right hne
  replace h2 := h2.resolve_right hne
  obtain ⟨m, hm⟩ : ∃ m, d.length = m + 1 := ⟨d.length - 1, by omega⟩
  obtain ⟨P, hP⟩ := fin_list (P := selF d t) (m := m) fun i hi => by have := (mem_sel.1 hi).1; omega
  have hPl : P.length = (selF d t).length := by rw [← hP, List.length_map]
  obtain ⟨g, cap, rfl, hg, hgl⟩ := hown.form h0
  refine ⟨_, cap, rfl, ?_⟩
  have ho2 := hown
  rw [← hP, nat_enc] at ho2
  obtain ⟨g', cap', e9, hbg, hgl', hncap, hcm, hln, hH⟩ := Lib.holds_of_ownsRow ho2 (fun e => by cases e)
  cases e9
  have hdbl : db < w.heap.size := by omega
  have hs := Any.slices_SortFunc Tryz.lsfInt (encN (k := m + 1)) (fun _ => rfl) (cmpA (m := m) d) (cmpA_swo d m) 136 #[.pointer (some ⟨gd, 0, none⟩)] g 0 cap P.toArray w (fun args u => by rfl) (fun q os dk _ x y => shCmp_any (h.sort (by omega) (by omega) hdbl) (by rw [show (sortWorld encN w g 0 q dk os).heap.size = (w.heap.modify g (onCells (putCells encN 0 dk)) ++ os).size from rfl, Array.size_append]; simp; omega) (h.len.symm.trans hm) x y) hH hgl (by simp; omega)
  have hsz : P.toArray.size = P.length := by simp
  rw [hsz, hPl] at hs
  refine hs.mono fun e w' ⟨he, D, q, os, hp, hso, hw⟩ => ?_
  rw [← hPl] at hp hso
  have hord := ord_cmpA hd t hP hp hso
  have hds : D.size = P.length := by have := hp.1; simpa using this
  have hH2 : Holds encN w' g 0 D := by
   rw [hw]
   exact holds_sortWorld encN w g 0 q _ _ os hgl hH (by rw [hds, hsz])
  have hgr : w.grownBy w' (some g) := by
   rw [hw]
   exact sortW_grown encN w g q D os
  refine ⟨he, ?_, hgr.size, fun a ha hb => ha.grown hgr fun k hk => by cases hk; exact Nat.le_trans hb hg⟩
  have hlen : (ordF d t).length = (selF d t).length := (ord_perm d t).length_eq
  refine ⟨⟨hlen, by omega, fun _ => ⟨g, 0, rfl, Nat.lt_of_lt_of_le hgl hgr.size, fun i x hx j u hu => ?_⟩⟩, (by rw [hP] at hncap; exact hncap), (fun e => by cases e), (fun a ha => by cases ha; exact ⟨g, 0, rfl, Nat.lt_of_lt_of_le hgl hgr.size⟩)⟩
  obtain rfl : j = 0 := by
   have := (List.getElem?_eq_some_iff.1 hu).1
   simp only [natC, List.length_singleton] at this
   omega
  cases hu
  have hi : i < D.size := by rw [hds, hPl, ← hlen]; exact (List.getElem?_eq_some_iff.1 hx).1
  have h1 := (hH2 i hi).1
  rw [← hord, List.getElem?_map] at hx
  have e1 : D.toList[i]? = some D[i] := by simp [hi]
  rw [e1] at hx
  have e2 : D[i]! = D[i] := getElem!_pos D i hi
  rw [e2] at h1
  have e3 : x = D[i].val := by simpa using hx.symm
  rw [e3, show 0 + i * 1 + 0 = 0 + i by omega]
  exact h1
end Go.Proofs.YtkjhbofbcmelgaaGreatDoor
namespace Go.Proofs.YtkjhbofbcmelgaaGreatDoor
open Go Go.RowKit Go.Maps Go.Sort Go.Shelf
end Go.Proofs.YtkjhbofbcmelgaaGreatDoor
namespace Go.Proofs.YtkjhbofbcmelgaaGreatDoor
open Go Go.RowKit Go.Maps
theorem wpList_next_V {P : Program} {κ ν : Type} {M : KMap P κ ν} {ops : Array Oper} {rest : List Oper} {o : Oper} {a : Act} {w : World} {Q : Exit → Act → World → Prop} (hg : o.guard = none) (it : Operand) (hop : o.op = Op.next it false) (invV : ∀ v y, M.rd v = some y → ∃ c, v = M.val c) (dat_inj : ∀ c d, M.dat c = M.dat d → c = d) (b r n : Nat) (f : κ → Option ν) (ks : List κ) (cnt : Nat) (hit : a.eval it = .pointer (some ⟨r, 0, none⟩)) (h : RngX M w b r n f ks cnt)
 (hDone : cnt = 0 → (∀ k, M.ok k → (k ∈ ks ↔ (f k).isSome = true)) → wpList P ops Q rest (a.put o.dst (.tuple #[.bool false])) w)
 (hMore : ∀ (k : κ) (v : ν) (w' : World) (cnt' : Nat), M.ok k → f k = some v → k ∉ ks → RngX M w' b r n f (ks ++ [k]) cnt' → cnt' < cnt → w.grownBy w' (some r) → w'.heap.size = w.heap.size →
   (Instr.entry (.pointer (some ⟨r, 0, none⟩))).run P w' = .ok (.tuple #[M.kv k, M.val v]) w' → wpList P ops Q rest (a.put o.dst (.tuple #[.bool true, M.kv k, M.val v])) w') : wpList P ops Q (o :: rest) a w := by
 obtain ⟨D, left, h1, hsz, ⟨hT, t1, t2, t4⟩, hlf, hks, hok, hcn⟩ := h
 refine wpList_next_ranges w hg it hop M.kt M.keyed M.rd (fun x : Value => x) M.val (fun key kl _ => ⟨key, rfl⟩) invV b r n D left cnt hit h1 (fun h0 hl => hDone h0 fun k hk => ?_) fun x c kl y w' cnt' hkey hlk hv hat hrg hlt hgr hs2 hen => ?_
 ·obtain ⟨l, hl2⟩ := M.key k hk
  rw [hks k l hk hl2, hl l, t1 k l hk hl2]
  simp
 ·have hhas := hlf kl hlk
  obtain ⟨k, hk, hkl⟩ := t4 kl hhas
  obtain rfl : x = M.kv k := M.keyed.inj hkey hkl
  have hf1 := t1 k kl hk hkl
  rw [hhas] at hf1
  obtain ⟨v, hfv⟩ := Option.isSome_iff_exists.1 hf1.symm
  have h3 := t2 k kl v hk hkl hfv (M.dat v)
  rw [hat] at h3
  have h4 := M.rd_mk c
  rw [hv] at h4
  have h5 : M.dat c = M.dat v := by rw [← h3]; exact (congrArg Prod.fst (Option.some.inj h4)).symm
  obtain rfl := dat_inj c v h5
  have hnk : k ∉ ks := fun hin => by
   have := ((hks k kl hk hkl).1 hin).2
   rw [hlk] at this; cases this
  refine hMore k c w' cnt' hk hfv hnk ⟨D, _, hrg, hsz, ⟨hT, t1, t2, t4⟩, fun l hl => hlf l (by simp only [Bool.and_eq_true] at hl; exact hl.1), fun q l hq hl => ?_, fun q hq => ?_, by rw [List.length_append, List.length_singleton]; omega⟩ hlt hgr hs2 hen
  ·rw [List.mem_append, List.mem_singleton, hks q l hq hl]
   by_cases e : q = k
   ·subst e
    have : l = kl := Option.some.inj (hl.symm.trans hkl)
    subst this
    simp [hhas, WideAt.sameKey_self (M.keyed.key hl)]
   ·have hne : l ≠ kl := KMap.lit_ne hq hk hl hkl e
    rw [sameKey_ne hne]
    simp [e]
  ·rcases List.mem_append.1 hq with h6 | h6
   ·exact hok q h6
   ·rw [List.mem_singleton.1 h6]; exact hk
end Go.Proofs.YtkjhbofbcmelgaaGreatDoor
