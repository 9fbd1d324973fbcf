/- Names sorted, and each once: plain mathematics, and the walks of slices.Sort and of the document's 'once'. Conditions: sizes. What all owe, by the document: the walk of DebtsAt. Conditions: sizes; at most 19 slips; the table of the powers of ten stands. (Printed by gen_sht.py.) -/
import Derived.Test.YtkjhbofbcmelgaaGreatDoorEzJ3
import Derived.Test.YtkjhbofbcmelgaaGreatDoorEzShelf
import Derived.Sort.OwnSorted
import Derived.Sort.Grow
import Derived.Lib.OwnBridge
import Derived.Lib.RowBridge
import Derived.Test.YtkjhbofbcmelgaaGreatDoorEzShS
import Derived.Test.YtkjhbofbcmelgaaGreatDoorEzDbC
set_option linter.unusedSimpArgs false
set_option linter.unusedVariables false
namespace Go.Proofs.YtkjhbofbcmelgaaGreatDoor
open Go Go.RowKit Go.Sort
theorem le_tr {a b c : List UInt8} (h : a ≤ b) (k : b ≤ c) : a ≤ c := List.le_trans h k
theorem le_as {a b : List UInt8} (h : a ≤ b) (k : b ≤ a) : a = b := List.le_antisymm h k
theorem le_to (a b : List UInt8) : a ≤ b ∨ b ≤ a := List.le_total a b
theorem srt (ss : List (List UInt8)) : (ss.mergeSort fun x y => decide (x ≤ y)).Pairwise (· ≤ ·) := by
 have := List.pairwise_mergeSort (le := fun x y : List UInt8 => decide (x ≤ y)) (fun a b c h k => by simp at *; exact le_tr h k) (fun a b => by simp; exact le_to a b) ss
 exact this.imp (by simp)
theorem enc_str (x : ByteArray) : encStr x.data.toList = .string x := by cases x; rfl
theorem map_enc (T : List ByteArray) : (T.map fun x => x.data.toList).map encStr = T.map Value.string := by
 rw [List.map_map]
 exact List.map_congr_left fun x _ => enc_str x
def srtB (T : List ByteArray) : List (List UInt8) := (T.map fun x => x.data.toList).mergeSort fun x y => decide (x ≤ y)
def srtN (T : List ByteArray) : List ByteArray := (srtB T).map fun l => ⟨l.toArray⟩
theorem srtB_len (T : List ByteArray) : (srtB T).length = T.length := by unfold srtB; rw [List.length_mergeSort, List.length_map]
theorem flat_enc (T : List ByteArray) : T.flatMap strC = (T.map fun x => x.data.toList).map encStr := by
 rw [map_enc]
 induction T with
 | nil => rfl
 | cons x l ih => rw [List.flatMap_cons, ih]; rfl
theorem srtN_cells (T : List ByteArray) : (srtN T).flatMap strC = (srtB T).map encStr := by
 rw [flat_enc]
 unfold srtN
 have e : ((srtB T).map fun l => (⟨l.toArray⟩ : ByteArray)).map (fun x : ByteArray => x.data.toList) = srtB T := by
  rw [List.map_map]
  have : ((fun x : ByteArray => x.data.toList) ∘ fun l : List UInt8 => (⟨l.toArray⟩ : ByteArray)) = id := funext fun l => by simp
  rw [this, List.map_id]
 rw [e]
theorem sortN_any {w : World} {base g n cap : Nat} {T : List ByteArray} (h : w.ownsRow base 9 1 (.slice (some ⟨g, 0, none⟩) n cap) n (T.flatMap strC)) (hn : T.length = n) (hn1 : n ≤ 1000) :
 Calls Tryz.prog 145 #[.slice (some ⟨g, 0, none⟩) n cap] w fun e w' => e = .returned (.tuple #[]) ∧ w'.ownsRow base 9 1 (.slice (some ⟨g, 0, none⟩) n cap) n ((srtN T).flatMap strC) ∧ ∀ a : World, Ext a w → a.heap.size ≤ g → Ext a w' := by
 rw [flat_enc] at h
 have h0 := h
 obtain ⟨g', cap', he, hbg, hgl, hncap, hcm, hlen, hH⟩ := Lib.holds_of_ownsRow h (by intro e; cases e)
 cases he
 have hl : (T.map fun x => x.data.toList).length = n := by rw [List.length_map, hn]
 have hs := Tryz.slices_Sort_string g 0 cap (T.map fun x => x.data.toList) w hH hgl (by omega)
 rw [hl] at hs
 refine hs.mono fun e w' ⟨he, nn, os, hw⟩ => ⟨he, ?_, fun a ha hg => ?_⟩
 ·rw [hw, srtN_cells]
  rcases h0.2 with ⟨h1, -⟩ | ⟨g', cap', cur, h1, hb, hgc, hnc, hcm2, hcs, htk⟩
  ·cases h1
  cases h1
  have h9 := ownsRow_sorted (w := w) (n := nn) (os := os) (base := base) (g := g) (cap := cap) (cur := cur) (ss := T.map fun x => x.data.toList) (ts := srtB T) (by rw [srtB_len, List.length_map]) hb hgc (by omega) hcm2 hcs
  rw [hl] at h9
  exact h9
 ·rw [hw]
  exact ha.grown (grownBy_sorted _) (fun j e => by cases e; exact hg)
theorem strC_map (T : List ByteArray) : T.map Value.string = T.flatMap strC := by rw [flat_enc, map_enc]
/-! ### compaction of a sorted list -/
theorem compact_mem (zs : List (List UInt8)) : ∀ m, m ≤ zs.length → ∀ x, x ∈ Lib.compactUpTo zs.toArray m ↔ x ∈ zs.take m
 | 0, _, x => by simp [Lib.compactUpTo]
 | m + 1, hm, x => by
   have ih := compact_mem zs m (by omega)
   have hz : zs[m]? = some zs[m] := List.getElem?_eq_getElem (by omega)
   have e1 : zs.toArray[m]! = zs[m] := by simp [getElem!_pos, show m < zs.length by omega]
   rw [Lib.compactUpTo_succ, List.take_add_one, hz, Option.toList_some, List.mem_append, List.mem_append, ih x, e1]
   cases hk : Lib.keeps zs.toArray m
   ·simp only [Bool.false_eq_true, if_false, List.not_mem_nil, or_false]
    constructor
    ·exact .inl
    ·rintro (h | h)
     ·exact h
     ·rw [List.mem_singleton] at h
      unfold Lib.keeps at hk
      simp only [decide_eq_false_iff_not, not_or, Decidable.not_not] at hk
      obtain ⟨h0, h1⟩ := hk
      have e2 : zs.toArray[m - 1]! = zs[m - 1] := by simp [getElem!_pos, show m - 1 < zs.length by omega]
      rw [e1, e2] at h1
      rw [h, h1]
      exact List.mem_take_iff_getElem.2 ⟨m - 1, by omega, rfl⟩
   ·simp
theorem compact_mem_iff (zs : List (List UInt8)) (x : List UInt8) : x ∈ Lib.compact zs ↔ x ∈ zs := by
 have := compact_mem zs zs.length (Nat.le_refl _) x
 rwa [List.take_length] at this
theorem compact_strict (zs : List (List UInt8)) (hs : zs.Pairwise (· ≤ ·)) : (Lib.compact zs).Pairwise (fun a b => a ≤ b ∧ a ≠ b) := by
 unfold Lib.compact Lib.compactUpTo
 rw [List.pairwise_map]
 have h1 : ((List.range zs.length).filter (Lib.keeps zs.toArray)).Pairwise (· < ·) := List.pairwise_lt_range.filter _
 refine h1.imp_of_mem fun {i j} hi hj hij => ?_
 obtain ⟨hi1, hi2⟩ := List.mem_filter.1 hi
 obtain ⟨hj1, hj2⟩ := List.mem_filter.1 hj
 rw [List.mem_range] at hi1 hj1
 have e1 : zs.toArray[i]! = zs[i] := by simp [getElem!_pos, hi1]
 have e2 : zs.toArray[j]! = zs[j] := by simp [getElem!_pos, hj1]
 rw [List.pairwise_iff_getElem] at hs
 rw [e1, e2]
 refine ⟨hs i j hi1 hj1 hij, fun heq => ?_⟩
 unfold Lib.keeps at hj2
 simp only [decide_eq_true_eq] at hj2
 have e3 : zs.toArray[j - 1]! = zs[j - 1] := by simp [getElem!_pos, show j - 1 < zs.length by omega]
 rw [e2, e3] at hj2
 rcases hj2 with h | h
 ·omega
 ·apply h
  have h5 : zs[j - 1] ≤ zs[j] := hs (j - 1) j (by omega) hj1 (by omega)
  have h6 : zs[i] ≤ zs[j - 1] := by
   rcases Nat.lt_or_ge i (j - 1) with h7 | h7
   ·exact hs i (j - 1) hi1 (by omega) h7
   ·obtain rfl : i = j - 1 := by omega
    exact List.le_refl _
  rw [heq] at h6
  exact le_as h6 h5
def unB (l : List UInt8) : ByteArray := ⟨l.toArray⟩
theorem unB_data (l : List UInt8) : (unB l).data.toList = l := by simp [unB]
theorem unB_of (x : ByteArray) : unB x.data.toList = x := by cases x; rfl
theorem unB_inj {a b : List UInt8} (h : unB a = unB b) : a = b := by rw [← unB_data a, h, unB_data]
/-- Names, sorted and each once. -/
def onceL (T : List ByteArray) : List ByteArray := (Lib.compact (srtB T)).map unB
theorem onceL_mem {T : List ByteArray} {x : ByteArray} : x ∈ onceL T ↔ x ∈ T := by
 unfold onceL
 rw [List.mem_map]
 constructor
 ·rintro ⟨l, hl, rfl⟩
  rw [compact_mem_iff] at hl
  have := (List.mergeSort_perm _ _).subset hl
  obtain ⟨y, hy, e⟩ := List.mem_map.1 this
  rw [← e, unB_of]
  exact hy
 ·intro h
  exact ⟨x.data.toList, (compact_mem_iff _ _).2 ((List.mergeSort_perm _ _).symm.subset (List.mem_map.2 ⟨x, h, rfl⟩)), unB_of x⟩
/-- Names that rise. -/
def RiseN (T : List ByteArray) : Prop := T.Pairwise fun a b => a.data.toList ≤ b.data.toList ∧ a ≠ b
theorem onceL_rise (T : List ByteArray) : RiseN (onceL T) := by
 unfold RiseN onceL
 rw [List.pairwise_map]
 refine (compact_strict _ (srt _)).imp fun {a b} h => ⟨by rw [unB_data, unB_data]; exact h.1, fun e => h.2 (unB_inj e)⟩
theorem onceL_len_le (T : List ByteArray) : (onceL T).length ≤ T.length := by
 unfold onceL
 rw [List.length_map, ← srtB_len T]
 exact Lib.compact_length_le _
theorem onceL_cells (T : List ByteArray) : (onceL T).flatMap strC = (Lib.compact (srtB T)).map encStr := by
 have : ((fun x : ByteArray => x.data.toList) ∘ unB) = id := funext unB_data
 have e : (onceL T).map (fun x : ByteArray => x.data.toList) = Lib.compact (srtB T) := by
  unfold onceL
  rw [List.map_map, this, List.map_id]
 rw [flat_enc, e]
set_option maxRecDepth 100000 in
set_option maxHeartbeats 3200000 in
theorem onceG_any (p : Option Addr) (n c : Nat) (T : List ByteArray) (w : World) (hS : Sl 1 strC w p n T) (hn : n ≤ 1000) :
 Calls Tryz.prog 94 #[.slice p n c] w fun e w' => ∃ (p' : Option Addr) (c' : Nat), e = .returned (.slice p' (onceL T).length c') ∧ w'.ownsRow w.heap.size 9 1 (.slice p' (onceL T).length c') (onceL T).length ((onceL T).flatMap strC) ∧ Ext w w' := by
 have hl := hS.1
 by_cases hn0 : n = 0
 ·subst hn0
  obtain rfl : T = [] := List.eq_nil_of_length_eq_zero hl
  have hon : onceL [] = [] := List.eq_nil_of_length_eq_zero (by have := onceL_len_le []; simpa using this)
  rw [hon]
  clear hS
  cases p with
  | none =>
    have h1 := Tryz.slices_Clone_string_nil 0 c w
    replace h1 := Lib.hid h1
    go_enter Tryz.func94, Tryz.ntmps94
    go_wp2_with (first
     | (go_at_call 41; refine (h1.out).mono ?_; rintro e w1 ⟨rfl, rfl⟩)
     | (go_at_call 145; refine (Tryz.slices_Sort_string_none _ _ _).mono ?_; rintro e w2 ⟨rfl, rfl⟩)
     | (go_at_call 146; refine (Tryz.slices_Compact_string_empty _ _ _).mono ?_; rintro e w3 ⟨rfl, rfl⟩))
    go_ret
    exact ⟨none, 0, rfl, World.ownsRow_nil _ _ _ _, Ext.refl _⟩
  | some a =>
    have h1 := Tryz.slices_Clone_string_zero a c w
    replace h1 := Lib.hid h1
    go_enter Tryz.func94, Tryz.ntmps94
    go_wp2_with (first
     | (go_at_call 41; refine (h1.out).mono ?_; rintro e w1 ⟨v1, rfl, hown, hnn, hbel⟩; obtain ⟨p1, c1, rfl, hS1⟩ := slc_of_own (xs := ([] : List ByteArray)) (enc := strC) (fun _ => rfl) hown (by decide) (by decide))
     | (go_at_call 145; refine (Tryz.slices_Sort_string_none _ _ _).mono ?_; rintro e w2 ⟨rfl, rfl⟩)
     | (go_at_call 146; refine (Tryz.slices_Compact_string_empty _ _ _).mono ?_; rintro e w3 ⟨rfl, rfl⟩))
    go_ret
    exact ⟨p1, c1, rfl, hown, hbel⟩
 ·obtain ⟨b, off, rfl, hb, hE⟩ := hS.2.2 hn0
  have h1 := Tryz.slices_Clone_string b off n c T w (by omega) (by omega) (fun j hj => by
   have hx : T[j]? = some T[j] := List.getElem?_eq_getElem hj
   rw [hE.str hx, List.getD_eq_getElem?_getD, hx]
   rfl)
  rw [List.take_of_length_le (by omega), strC_map] at h1
  have hcl := Lib.compact_length_le (srtB T)
  have hbl := srtB_len T
  have hol : (onceL T).length = (Lib.compact (srtB T)).length := by unfold onceL; rw [List.length_map]
  have hpos : 0 < n := by omega
  replace h1 := Lib.hid h1; replace hol := Lib.hid hol; clear hS hE
  go_enter Tryz.func94, Tryz.ntmps94
  go_wp2_with (first
   | (go_at_call 41; refine (h1.out).mono ?_; rintro e w1 ⟨v1, rfl, hown, hnn, hbel⟩
      obtain ⟨g, cap, rfl, hbg, -⟩ := hown.form hpos
      have hsort := sortN_any hown hl hn
      replace hsort := Lib.hid hsort)
   | (go_at_call 145; refine (hsort.out).mono ?_; rintro e w2 ⟨rfl, hown2, hext2⟩
      have hbel2 : Ext w w2 := hext2 w hbel hbg
      rw [srtN_cells] at hown2
      obtain ⟨g', cap', heq, -, hgl, hncap, hcm, hlen, hH2⟩ := Lib.holds_of_ownsRow hown2 hnn
      cases heq
      have hcomp := Tryz.slices_Compact_string g 0 cap (srtB T) w2 hH2 (by omega) (by omega)
      rw [hlen] at hcomp
      replace hcomp := Lib.hid hcomp
      replace hown2 := Lib.hid hown2)
   | (go_at_call 146; refine (hcomp.out).mono ?_; rintro e w3 ⟨rfl, q, rfl⟩))
  go_ret
  have ho3 := Lib.ownsRow_putRow (q := q) (k := (Lib.compact (srtB T)).length) (ys := Lib.compact (srtB T) ++ List.replicate (n - (Lib.compact (srtB T)).length) []) hown2.out (by rw [List.length_append, List.length_replicate]; omega) (by omega)
  rw [List.take_left] at ho3
  refine ⟨some ⟨g, 0, none⟩, cap, by rw [hol.out]; rfl, ?_, Lib.below_putRow hbel2 hbg⟩
  rw [hol.out, onceL_cells]
  exact ho3
end Go.Proofs.YtkjhbofbcmelgaaGreatDoor
namespace Go.Proofs.YtkjhbofbcmelgaaGreatDoor
open Go Go.RowKit Go.Sort
theorem cb_ltD : ∀ {a b : List UInt8}, Lib.compareBytes a b = -1 → a < b
 | [],[], h => by cases h
 | [], y :: b, _ => by simp
 | _ :: _, [], h => by cases h
 | x :: a, y :: b, h => by
   unfold Lib.compareBytes at h
   rw [List.cons_lt_cons_iff]
   by_cases h1 : x < y
   ·exact .inl h1
   ·rw [if_neg h1] at h
    by_cases h2 : y < x
    ·rw [if_pos h2] at h; cases h
    ·rw [if_neg h2] at h
     exact .inr ⟨u8_tri h1 h2, cb_ltD h⟩
theorem rise_cmp {N : List ByteArray} (h : RiseN N) : N.Pairwise fun a b => cmpS a b = -1 := by
 refine List.Pairwise.imp (fun {a b} h9 => ?_) h
 obtain ⟨h1, h2⟩ := h9
 rcases cmpS_three a b with e | e | e
 ·exact e
 ·exact absurd (cmpS_zero e) h2
 ·have h3 : b.data.toList < a.data.toList := cb_ltD (cmpS_anti e)
  exact absurd h3 (by
   intro h4
   exact h2 (by
    have h5 := le_as h1 (List.le_of_lt h4)
    cases a; cases b
    simp only at h5
    congr 1
    exact Array.toList_inj.1 h5))
theorem dbL_rise {T : List TitleV} {r : LendR} {t : Int} {X : List LoanV} {N : List ByteArray} (h : N.Pairwise fun a b => cmpS a b = -1) : (dbL T r t X N).Pairwise fun a b => cmpS a.1 b.1 = -1 := by
 unfold dbL
 exact List.Pairwise.filter _ (List.pairwise_map.2 h)
theorem shDebtInfo : (Tryz.prog.info? 165).map (fun i => (i.zero, i.size, i.bytes)) = some (some (.agg #[.string ⟨#[]⟩, .int .i64 0]), 2,24) := by kernel_rfl
theorem stableAll_any {w : World} {base : Nat} {v : Value} {L : List DebtV} (h : w.ownsRow base 165 2 v L.length (L.flatMap debtC)) (hn1 : L.length ≤ 19) (hok : L.Pairwise fun a b => cmpS a.1 b.1 = -1) :
 Calls Tryz.prog 95 #[v, .func (.func 96) #[] #[]] w fun e w' => e = .returned (.tuple #[]) ∧ ∃ M : List DebtV, ByK debtN Prod.fst L M ∧ w'.ownsRow base 165 2 v M.length (M.flatMap debtC) ∧ ∀ a : World, Ext a w → a.heap.size ≤ base → Ext a w' := by
 by_cases h0 : L.length = 0
 ·obtain ⟨q, d, rfl, -⟩ := slc_of_own debtC_len h (by decide) (by omega)
  obtain rfl : L = [] := List.eq_nil_of_length_eq_zero h0
  refine (stableDebtNone_any q d _ w).mono fun e w' hh => ?_
  obtain ⟨rfl, rfl⟩ := hh
  exact ⟨rfl, [], ⟨List.Perm.refl _, List.Pairwise.nil⟩, h, fun a ha _ => ha⟩
 ·obtain ⟨g, d, rfl, hg, hgl⟩ := h.form (by omega)
  refine (stableDebt_any h rfl (by omega) hok).mono fun e w' hh => ?_
  obtain ⟨rfl, M, hM, ho, hx⟩ := hh
  have hl := hM.1.length_eq
  exact ⟨rfl, M, hM, by rw [hl]; exact ho, fun a ha hb => hx a ha (by omega)⟩
def DebtsD (T : List TitleV) (r : LendR) (d : List SlipV) (t : Int) (w : World) (e : Ending) (w' : World) : Prop :=
 ∃ (v : Value) (M : List DebtV), DebtP T r t (libAt T r d t).1.loans M ∧ e = .returned v ∧ w'.ownsRow w.heap.size 77 2 v M.length ((M.map debtPair).flatMap lpC) ∧ Ext w w'
set_option maxRecDepth 100000 in
set_option maxHeartbeats 6400000 in
theorem debtsDoc_any (B : Nat) (tp : Option Addr) (tn tc : Nat) (T : List TitleV) (r : LendR) (dp : Option Addr) (dn dc : Nat) (d : List SlipV) (t : Int) (w : World) (h : ListsM w tp tn tc T r dp dn dc d) (ht : 0 ≤ t ∧ t ≤ 345686399999) (hB : Tab B w) :
 Calls Tryz.prog 35 #[.slice tp tn tc, lendVal r, .slice dp dn dc, .int .i64 t] w (DebtsD T r d t w) := by
 have hsh := fun u hu => shelvedL h t u hu
 have hTo := titlesF_ok (libF_zero h.ok).1
 have hLe := lend_ok (libF_zero h.ok).2.1
 have hN := libAt_N (T := T) (r := r) (t := t) (slipsF_right (libF_zero h.ok).2.2) h.ss
 have hLT := libAt_T (T := T) (r := r) (t := t) (slipsF_right (libF_zero h.ok).2.2) h.ss
 have hdl := h.sl.1.1
 have hdn := h.sn
 have hLl : (libAt T r d t).1.loans.length ≤ 19 := by have := hN.loans; omega
 have hoby := fun u (hu : Ext w u) s => owedBy_any tp tn tc T r dp dn dc d s t u (h.ext hu) ht
 obtain ⟨L, hLq⟩ : ∃ L, L = (libAt T r d t).1 := ⟨_, rfl⟩
 have hsbd : ∀ s : ByteArray, 0 ≤ sumD T r t (libAt T r d t).1.loans s ∧ sumD T r t (libAt T r d t).1.loans s ≤ 1000000 := fun s => by
  have h9 := sumD_bound hTo hLe ht s (X := (libAt T r d t).1.loans) fun l hl => hLT l hl
  omega
 have hres : ∀ (v : Value) (M : List DebtV) (w' : World), DebtP T r t L.loans M → w'.ownsRow w.heap.size 77 2 v M.length ((M.map debtPair).flatMap lpC) → Ext w w' → DebtsD T r d t w (.returned v) w' := fun v M w' h1 h2 h3 => ⟨v, M, by rw [← hLq]; exact h1, rfl, h2, h3⟩
 rw [← hLq] at hLl hLT hsbd hoby
 have hLT : ∀ l ∈ L.loans, LoanT l := hLT
 have hE : Ext w (w.alloc (.cells #[.int .i64 r.days, .int .i64 r.late, .int .i64 r.most, .int .i64 r.each] 28)) := (Ext.refl w).alloc _
 have hX0 : Blk (w.alloc (.cells #[.int .i64 r.days, .int .i64 r.late, .int .i64 r.most, .int .i64 r.each] 28)) w.heap.size 28 #[.int .i64 r.days, .int .i64 r.late, .int .i64 r.most, .int .i64 r.each] := Blk.new' rfl
 have hcell : ∀ u, Ext (w.alloc (.cells #[.int .i64 r.days, .int .i64 r.late, .int .i64 r.most, .int .i64 r.each] 28)) u → u.cell? ⟨w.heap.size, 0, none⟩ = some (.int .i64 r.days) ∧ u.cell? ⟨w.heap.size, 1, none⟩ = some (.int .i64 r.late) ∧ u.cell? ⟨w.heap.size, 2, none⟩ = some (.int .i64 r.most) ∧ u.cell? ⟨w.heap.size, 3, none⟩ = some (.int .i64 r.each) ∧ w.heap.size < u.heap.size := fun u hu =>
  ⟨(hu.walk.1 _ _ hX0.lt).trans (hX0.cell 0), (hu.walk.1 _ _ hX0.lt).trans (hX0.cell 1), (hu.walk.1 _ _ hX0.lt).trans (hX0.cell 2), (hu.walk.1 _ _ hX0.lt).trans (hX0.cell 3), Nat.lt_of_lt_of_le hX0.lt hu.size⟩
 have htbl := fun u (hu : Ext w u) => hB.ext hu
 unfold lendVal at hsh hoby ⊢
 clear h hN hdl hdn hTo hLe hX0; replace hsh := Lib.hid hsh; replace hLq := Lib.hid hLq; replace hE := Lib.hid hE; replace hcell := Lib.hid hcell; replace htbl := Lib.hid htbl
 go_enter Tryz.func35, Tryz.ntmps35
 go_wp2_with (go_at_call 77; (with_reducible refine Calls.mono (hsh.out _ hE.out) ?_); rintro e w4 ⟨base, bb, ms, mr, q, nr, rfl, hSM, hb4⟩; rw [← hLq.out] at hSM; obtain ⟨lv, hrow, hm⟩ := hSM.parts; obtain ⟨lp, lc, rfl, hS⟩ := slc_of_own loanC_len hrow.2 (by decide) (by omega); have y6 := hrow.1.cell 6; have lb := hrow.1.lt; unfold shC at y6; clear hSM hrow hm)
 have hE4 := hE.out.trans hb4
 clear hsh
 generalize L.loans = X at *
 replace hS := Lib.hid hS; replace hLT := Lib.hid hLT; replace hres := Lib.hid hres; replace hsbd := Lib.hid hsbd; replace hoby := Lib.hid hoby; clear y6 lb
 go_loopw [9,28] (fun v9 v28 wr => ∃ (k : Nat) (v : Value), v28 = .int .i64 k ∧ v = v9 ∧ k ≤ X.length ∧ wr.ownsRow w4.heap.size 9 1 v k (((X.map LoanV.singer).take k).flatMap strC) ∧ Ext w4 wr) (fun _ v28 _ => X.length - (intOf v28).toNat)
 case atStart => exact ⟨0, _, rfl, rfl, Nat.zero_le _, World.ownsRow_nil _ _ _ _, Ext.refl _⟩
 case round =>
  obtain ⟨k, v, rfl, rfl, hk2, hown, he⟩ := hrel
  by_cases hlt : k < X.length
  ·obtain ⟨l, hx⟩ := getD_some (rfl : X.length = X.length) hlt
   obtain ⟨b, off, rfl, hb, hEl⟩ := hS.out.1.2.2 (by omega)
   have hEr := hEl.ext he hb
   have d0 : wr.cell? ⟨b, off + k * 6, none⟩ = some (.string l.piece) := hEr k _ hx 0 _ rfl
   have d1 : wr.cell? ⟨b, off + k * 6 + 1, none⟩ = some (.int .i64 l.no) := hEr k _ hx 1 _ rfl
   have d2 : wr.cell? ⟨b, off + k * 6 + 2, none⟩ = some (.string l.singer) := hEr k _ hx 2 _ rfl
   have d3 : wr.cell? ⟨b, off + k * 6 + 3, none⟩ = some (.int .i64 l.since) := hEr k _ hx 3 _ rfl
   have d4 : wr.cell? ⟨b, off + k * 6 + 4, none⟩ = some (.int .i64 l.till) := hEr k _ hx 4 _ rfl
   have d5 : wr.cell? ⟨b, off + k * 6 + 5, none⟩ = some (.bool l.lost) := hEr k _ hx 5 _ rfl
   have hkI : (k : Int) < (X.length : Int) := by omega
   have htk := take_map (f := LoanV.singer) hx
   have hsz := he.size
   replace hx := Lib.hid hx; replace hEl := Lib.hid hEl; replace htk := Lib.hid htk; clear hEr
   go_wp2_with (at_builtin; go_loud (refine wp_app1 _ (.tmp 32) (.tmp 35) 47 9 1 16 _ rfl rfl Tryz.underlying47 strInfoW rfl (by decide) (by decide) w4.heap.size _ _ _ rfl ((hown.alloc _).alloc _) _ (strC l.singer) rfl rfl (Blk.new' (by simp)) (strOne _) (by omega) (by simp; omega) ?_; intro v' wz hownz hgrowz _))
   go_roundw
   case rel => exact ⟨k + 1, v', by go_num, rfl, by omega, by rw [htk.out, flat_snoc]; exact hownz, ((he.alloc _).alloc _).app ((hown.alloc _).alloc _) (Nat.le_refl _) hgrowz⟩
   case measure => simp [intOf]; omega
  ·obtain rfl : X.length = k := by omega
   rw [List.take_of_length_le (by simp)] at hown
   have hownS : wr.ownsRow w4.heap.size 9 1 v (X.map LoanV.singer).length ((X.map LoanV.singer).flatMap strC) := by rw [List.length_map]; exact hown
   obtain ⟨pS, cS, rfl, hSS⟩ := slc_of_own strLen hownS (by decide) (by rw [List.length_map]; omega)
   rw [List.length_map] at hSS
   have hon := onceG_any pS X.length cS (X.map LoanV.singer) wr hSS.1 (by omega)
   have hNl := onceL_len_le (X.map LoanV.singer)
   rw [List.length_map] at hNl
   have hNr := onceL_rise (X.map LoanV.singer)
   have hNm : ∀ s, s ∈ onceL (X.map LoanV.singer) ↔ s ∈ X.map LoanV.singer := fun s => onceL_mem
   rw [List.length_map]
   generalize onceL (X.map LoanV.singer) = N at *
   have hall : ∀ s : ByteArray, s.size ≤ 1000000 → (s ∈ N ↔ (owedM T r t X s).isSome = true) := fun s _ => by
    rw [hNm, List.mem_map]
    unfold owedM
    by_cases hq : X.any (fun l => decide (l.singer = s)) = true
    ·rw [if_pos hq]
     rw [List.any_eq_true] at hq
     obtain ⟨l, hl, e⟩ := hq
     exact ⟨fun _ => rfl, fun _ => ⟨l, hl, by simpa using e⟩⟩
    ·rw [if_neg hq]
     constructor
     ·rintro ⟨l, hl, e⟩
      exact absurd (List.any_eq_true.2 ⟨l, hl, by simpa using e⟩) hq
     ·intro h9; cases h9
   have hoks : ∀ s ∈ N, s.size ≤ 1000000 := fun s hs => by
    obtain ⟨l, hl, e⟩ := List.mem_map.1 ((hNm s).1 hs)
    have := key_small (hLT.out l hl).2.2
    rw [e] at this
    omega
   have hPP := fun M hM => debtP_of (T := T) (r := r) (t := t) (X := X) (ks := N) (M := M) hLT.out hall hoks hM
   have hrise := fun k => dbL_rise (T := T) (r := r) (t := t) (X := X) ((rise_cmp hNr).sublist (List.take_sublist k N))
   replace hon := Lib.hid hon; replace hPP := Lib.hid hPP; replace hrise := Lib.hid hrise; clear hown hownS hSS hall hoks hNm hNr hS
   go_wp2_with (go_at_call 94; (with_reducible refine Calls.mono hon.out ?_); rintro e w5 ⟨pN, cN, rfl, hoN, hb5⟩)
   obtain ⟨pN', cN', eN, hSN⟩ := slc_of_own strLen hoN (by decide) (by omega)
   cases eN
   have hE45 : Ext w4 w5 := he.trans hb5
   have hE05 := hE4.trans hE45
   have hc5 := fun u (hu : Ext w5 u) => hcell.out u ((hb4.trans hE45).trans hu)
   replace hSN := Lib.hid hSN; replace hc5 := Lib.hid hc5; clear hon hoN hb5 hcell he
   go_loopw [12,41] (fun v12 v41 wr => ∃ (k : Nat) (v : Value), v41 = .int .i64 k ∧ v = v12 ∧ k ≤ N.length ∧ wr.ownsRow w5.heap.size 165 2 v (dbL T r t X (N.take k)).length ((dbL T r t X (N.take k)).flatMap debtC) ∧ Ext w5 wr) (fun _ v41 _ => N.length - (intOf v41).toNat)
   case atStart => exact ⟨0, _, rfl, rfl, Nat.zero_le _, World.ownsRow_nil _ _ _ _, Ext.refl _⟩
   case round =>
    obtain ⟨k, v, rfl, rfl, hk3, hown, he⟩ := hrel
    have hdl := dbL_len T r t X (N.take k)
    rw [List.length_take] at hdl
    by_cases hlt : k < N.length
    ·obtain ⟨s, hx⟩ := getD_some (rfl : N.length = N.length) hlt
     obtain ⟨b, off, rfl, hb, hEl⟩ := hSN.out.1.2.2 (by omega)
     have d0 : wr.cell? ⟨b, off + k, none⟩ = some (.string s) := by
      have h9 := (hEl.ext he hb) k _ hx 0 _ rfl
      rw [show off + k * 1 + 0 = off + k by omega] at h9
      exact h9
     obtain ⟨t0, t1, t2, t3, lr⟩ := hc5.out wr he
     have hkI : (k : Int) < (N.length : Int) := by omega
     have hsn := dbL_snoc T r t X (N.take k) s
     rw [← take_snocL hx] at hsn
     have hob := hoby.out wr (hE05.trans he) s
     have hsm := hsbd.out s
     have hsz := he.size
     replace hx := Lib.hid hx; replace hEl := Lib.hid hEl; replace hob := Lib.hid hob
     generalize sumD T r t X s = sm at *
     by_cases hp : 0 < sm
     ·rw [if_pos hp] at hsn
      replace hsn := Lib.hid hsn
      go_wp2_with (first
       | (go_at_call 34; (with_reducible refine Calls.mono hob.out ?_); rintro e w6 ⟨rfl, hb6⟩; have ho6 := own_ext hb6 hown; have he6 := he.trans hb6; have hs6 := he6.size)
       | (at_builtin; go_loud (refine wp_app1 _ (.tmp 53) (.tmp 57) 163 165 2 24 _ rfl rfl Tryz.underlying163 shDebtInfo rfl (by decide) (by decide) w5.heap.size _ _ _ rfl (ho6.alloc _) _ (debtC (s, sm)) rfl rfl (Blk.new' (by simp)) (debtC_one _) (by omega) (by simp; omega) ?_; intro v' wz hownz hgrowz _)))
      go_roundw
      case rel => exact ⟨k + 1, v', by go_num, rfl, by omega, by rw [hsn.out, List.length_append, flat_snoc]; exact hownz, (he6.alloc _).app (ho6.alloc _) (Nat.le_refl _) hgrowz⟩
      case measure => simp [intOf]; omega
     ·rw [if_neg hp, List.append_nil] at hsn
      replace hsn := Lib.hid hsn
      go_wp2_with (go_at_call 34; (with_reducible refine Calls.mono hob.out ?_); rintro e w6 ⟨rfl, hb6⟩)
      go_roundw
      case rel => exact ⟨k + 1, _, by go_num, rfl, by omega, by rw [hsn.out]; exact own_ext hb6 hown, he.trans hb6⟩
      case measure => simp [intOf]; omega
    ·obtain rfl : N.length = k := by omega
     have hri := hrise.out N.length
     rw [List.take_length] at hown hdl hri
     have hso := stableAll_any hown (by omega) hri
     replace hso := Lib.hid hso; replace hown := Lib.hid hown
     go_upto_region 16 with (go_at_call 95; (with_reducible refine Calls.mono hso.out ?_); rintro e w7 ⟨rfl, M, hM, ho7, hx7⟩)
     have hP := hPP.out M hM
     have hMl : M.length ≤ 19 := by rw [hM.1.length_eq]; omega
     have hE57 : Ext w5 w7 := hx7 w5 he (Nat.le_refl _)
     have hE07 := hE05.trans hE57
     have hbnd : ∀ z ∈ M, 0 ≤ z.2 ∧ z.2 ≤ 1000000 := fun z hz => by
      have h1 := ((hP.2 z).1 hz).1
      have h2 := owedM_get T r t X z.1
      rw [h1] at h2
      simp only [Option.getD_some] at h2
      rw [h2]
      exact hsbd.out z.1
     obtain ⟨q3, c3, rfl, hS3⟩ := slc_of_own debtC_len ho7 (by decide) (by omega)
     have hr3 := fun v w' h1 h2 => hres.out v M w' hP h1 h2
     replace hr3 := Lib.hid hr3; replace hS3 := Lib.hid hS3; replace hbnd := Lib.hid hbnd; clear hso hPP hx7 ho7 hM hP hown hri hrise hoby hsbd hres hc5 hSN hdl
     go_wp2
     go_loopw [16,64] (fun v18 v71 wr => ∃ (k : Nat) (v : Value), v71 = .int .i64 k ∧ v = v18 ∧ k ≤ M.length ∧ wr.ownsRow w7.heap.size 77 2 v k (((M.map debtPair).take k).flatMap lpC) ∧ Ext w7 wr) (fun _ v71 _ => M.length - (intOf v71).toNat)
     case atStart => exact ⟨0, _, rfl, rfl, Nat.zero_le _, World.ownsRow_nil _ _ _ _, Ext.refl _⟩
     case round =>
      obtain ⟨k, v, rfl, rfl, hk2, hop, he⟩ := hrel
      by_cases hlt : k < M.length
      ·obtain ⟨z, hx⟩ := getD_some (rfl : M.length = M.length) hlt
       obtain ⟨b, off, rfl, hb, hEl⟩ := hS3.out.1.2.2 (by omega)
       have d0 : wr.cell? ⟨b, off + k * 2, none⟩ = some (.string z.1) := (hEl.ext he hb) k _ hx 0 _ rfl
       have d1 : wr.cell? ⟨b, off + k * 2 + 1, none⟩ = some (.int .i64 z.2) := (hEl.ext he hb) k _ hx 1 _ rfl
       have hkI : (k : Int) < (M.length : Int) := by omega
       have hzb := hbnd.out z (List.mem_of_getElem? hx)
       have htk := take_map (f := debtPair) hx
       have hszr := he.size
       have hXa := Blk.new' (w := wr) (g := wr.heap.size) (t := 165) (cs := #[.string z.1, .int .i64 z.2]) rfl
       have hEx : Ext wr (wr.alloc (.cells #[.string z.1, .int .i64 z.2] 165)) := (Ext.refl wr).alloc _
       have hown1 := hop.alloc (.cells #[.string z.1, .int .i64 z.2] 165)
       have lx := hXa.lt
       have x0 := hXa.cell 0
       have x1 := hXa.cell 1
       replace hx := Lib.hid hx; replace hEl := Lib.hid hEl; replace htk := Lib.hid htk; replace hEx := Lib.hid hEx; clear hXa
       go_upto_region 20 with fail
       clear d0 d1
       generalize wr.heap.size = gx at *
       generalize (wr.alloc (.cells #[.string z.1, .int .i64 z.2] 165)) = W2 at *
       refine wp_region_facts [0] [([],false,false),([],false,false),([1],false,false),([],false,false),([3],false,false),([3,4],false,false),([1,2,3,4,5],false,false),([1,2,3,4,5,6], false, true)] (Ext) Ext (fun _ => True) (by kernel_rfl) (by kernel_rfl) Ext.refl (fun _ _ _ => Ext.trans) (fun _ _ h => h) (fun _ _ h => h.size) (fun _ _ h _ => h) trivial ?_
       dsimp only [List.length_cons, List.length_nil, List.drop_succ_cons, List.drop_zero, List.drop_nil]
       refine fac_late 0 rfl rfl Ext.refl cK rfl rfl (fun _ _ _ _ h => h) ?_; apply Exists.intro; constructor
       ·intro sv w' hw' hfa
        refine ⟨rfl, fun w2 => ?_⟩
        simp only [putsL]
        change pureTo _ _ (Sem.run _ (execOp (Act.eval _) _) _)
        try simp only [Act.put, sIA, sCS, sCZ]
        simp [go_sem, pureTo]
        (all_goals try simp (disch := omega) only [IntWalk.i64_in]); all_goals rfl
       refine fq 1 rfl rfl rfl cK rfl rfl ?_; apply Exists.intro; constructor
       ·intro sv w' hw' hfa
        refine ⟨rfl, ?_⟩; simp only [putsL]; change qT _; simp only [qT, Act.put, sIA, sCS, sCZ]; simp [go_sem, quietTo, Ext.refl]; all_goals rfl
       refine fq 2 rfl rfl rfl cK rfl rfl ?_; apply Exists.intro; constructor
       ·rintro sv w' hw' ⟨(f1 : sv 1 = _), -⟩; (try dsimp only at f1)
        have hk9 := (Ext.refl W2).drew.trans hw'; obtain ⟨hc, -, -⟩ := hk9.walk; have y0 := (hc gx 0 lx).trans x0; have y1 := (hc gx 1 lx).trans x1
        refine ⟨rfl, ?_⟩; simp only [putsL]; change qT (pT _ 69 (sv 1)); simp only [qT, pT, Act.put, sIA, sCS, sCZ]; simp [go_sem, quietTo, Ext.refl, ↓IntWalk.iteOmega, f1, y0]; (all_goals try simp (disch := omega) only [IntWalk.i64_in]); all_goals rfl
       refine fq 3 rfl rfl rfl cK rfl rfl ?_; apply Exists.intro; constructor
       ·intro sv w' hw' hfa
        refine ⟨rfl, ?_⟩; simp only [putsL]; change qT _; simp only [qT, Act.put, sIA, sCS, sCZ]; simp [go_sem, quietTo, Ext.refl]; all_goals rfl
       refine fq 4 rfl rfl rfl cK rfl rfl ?_; apply Exists.intro; constructor
       ·rintro sv w' hw' ⟨(f3 : sv 3 = _), -⟩; (try dsimp only at f3)
        have hk9 := (Ext.refl W2).drew.trans hw'; obtain ⟨hc, -, -⟩ := hk9.walk; have y0 := (hc gx 0 lx).trans x0; have y1 := (hc gx 1 lx).trans x1
        refine ⟨rfl, ?_⟩; simp only [putsL]; change qT (pT _ 71 (sv 3)); simp only [qT, pT, Act.put, sIA, sCS, sCZ]; simp [go_sem, quietTo, Ext.refl, ↓IntWalk.iteOmega, f3, y1]; (all_goals try simp (disch := omega) only [IntWalk.i64_in]); all_goals rfl
       refine fq 5 rfl rfl rfl cK rfl rfl ?_; apply Exists.intro; constructor
       ·rintro sv w' hw' ⟨(f3 : sv 3 = _), (f4 : sv 4 = _), -⟩; (try dsimp only at f3 f4)
        have hk9 := (Ext.refl W2).drew.trans hw'; obtain ⟨hc, -, -⟩ := hk9.walk; have y0 := (hc gx 0 lx).trans x0; have y1 := (hc gx 1 lx).trans x1
        refine ⟨rfl, ?_⟩; simp only [putsL]; change qT (pT (pT _ 72 (sv 4)) 71 (sv 3)); simp only [qT, pT, Act.put, sIA, sCS, sCZ]; simp [go_sem, quietTo, Ext.refl, ↓IntWalk.iteOmega, f4]; (all_goals try simp (disch := omega) only [IntWalk.i64_in]); all_goals first | rfl | (exact itoa_any _ (by omega) (by omega) B _ (htbl.out _ (hE07.trans ((he.trans hEx.out).trans hk9))))
       refine fq 6 rfl rfl rfl cK rfl rfl ?_; apply Exists.intro; constructor
       ·rintro sv w' hw' ⟨_, (f2 : sv 2 = _), _, _, (f5 : sv 5 = _), -⟩; (try dsimp only at f2 f5)
        refine ⟨rfl, ?_⟩; simp only [putsL]; change qT (pT (pT (pT (pT (pT _ 73 (sv 5)) 72 (sv 4)) 71 (sv 3)) 70 (sv 2)) 69 (sv 1)); simp only [qT, pT, Act.put, sIA, sCS, sCZ]; simp [go_sem, quietTo, Ext.refl, f2, f5]; all_goals rfl
       refine fac_row 7 rfl rfl rfl cK (fun _ _ h => h.size) (fun _ _ _ _ _ he _ hb => hb.ext he) ?_
       apply Exists.intro
       apply Exists.intro
       apply Exists.intro
       apply Exists.intro
       refine ⟨fun sv w' hw' hfa => ?_, ?_⟩
       ·obtain ⟨_, _, _, _, _, (f6 : sv 6 = _), -⟩ := hfa; (try dsimp only at f6)
        refine ⟨rfl, ?_⟩; simp only [putsL]; change rowTo _ _ _ _ _ (Sem.run _ (execOp (Act.eval (pT (pT (pT (pT (pT (pT _ 74 (sv 6)) 73 (sv 5)) 72 (sv 4)) 71 (sv 3)) 70 (sv 2)) 69 (sv 1))) _) _); (try simp only [pT, Act.put, sIA, sCS, sCZ]); simp [go_sem, rowTo, Ext.refl, f6]; (all_goals try simp (disch := omega) only [IntWalk.i64_in]); all_goals first | rfl | exact ⟨rfl, rfl⟩ | exact ⟨⟨rfl, rfl⟩, rfl⟩
       refine fac_nil fun xa wra hera hfra hcra holda hapa => ?_
       obtain ⟨(f0 : xa 0 = _), (f1 : xa 1 = _), (f2 : xa 2 = _), (f3 : xa 3 = _), (f4 : xa 4 = _), (f5 : xa 5 = _), (f6 : xa 6 = _), f7, -⟩ := hfra; (try dsimp only at f0 f1 f2 f3 f4 f5 f6)
       obtain ⟨g7, f7, l7, b7⟩ := f7; replace f7 : xa 7 = _ := f7; obtain ⟨p7, q7⟩ := b7.walk
       change wpList _ _ _ _ (pT (pT (pT (pT (pT (pT (pT (pT _ 68 (xa 0)) 69 (xa 1)) 70 (xa 2)) 71 (xa 3)) 72 (xa 4)) 73 (xa 5)) 74 (xa 6)) 75 (xa 7)) _
       simp only [putsL, Nat.reduceAdd, List.drop_succ_cons, List.drop_zero, List.drop_nil, pT, Act.put, sIA, sCS, sCZ]
       try simp only [f0, f1, f2, f3, f4, f5, f6, f7]
       clear f0 f1 f2 f3 f4 f5 f6; clear holda hapa
       have hka := (Ext.refl W2).drew.trans hera
       have hown2 := own_ext hka hown1
       have hE2 := (he.trans hEx.out).trans hka
       have hE2s := hE2.size
       clear hop hown1 hera hka x0 x1 lx hcra
       go_wp2_with (at_builtin; go_loud (refine wp_app1 _ (.tmp 68) (.tmp 75) 70 77 2 32 _ rfl rfl Tryz.underlying70 lpInfo rfl (by decide) (by decide) w7.heap.size _ k _ rfl hown2 _ (lpC (debtPair z)) rfl rfl b7 (lpC_one _) (by omega) (by omega) ?_; intro v' w6 hown6 hgrow6 _))
       go_roundw
       case rel => exact ⟨k + 1, v', by go_num, rfl, by omega, by rw [htk.out, flat_snoc]; exact hown6, hE2.app hown2 (Nat.le_refl _) hgrow6⟩
       case measure => simp [intOf]; omega
      ·obtain rfl : M.length = k := by omega
       rw [List.take_of_length_le (by simp)] at hop
       have hr := hr3.out _ _ (own_low hop hE07.size) (hE07.trans he)
       replace hr := Lib.hid hr
       go_wp2
       go_ret
       exact hr.out
end Go.Proofs.YtkjhbofbcmelgaaGreatDoor
