/- What slips up to a moment lead to: plain. Conditions: as each theorem says. The order of slips is what a stable sort of their places gives: plain. Conditions: as each theorem says. -/
import Derived.Test.YtehboinleolihaaGreatDoorZkJ18
import Derived.Test.YtehboinleolihaaGreatDoorZkJ15
set_option linter.unusedSimpArgs false
set_option linter.unusedVariables false
namespace Go.Proofs.YtehboinleolihaaGreatDoor
open Go Go.RowKit Go.Sort
/-! ### what always holds -/
structure LibN (n : Nat) (L : LibS) : Prop where
 ok : LibOk L
 loans : L.loans.length ≤ n
 own : ∀ s o, L.has s = some o → o.length ≤ n
 sing : ∀ l ∈ L.loans, l.singer.size ≤ 1000000
theorem LibN.new : LibN 0 LibS.new := ⟨LibOk.new, Nat.le_refl _, (fun s o h => by simp [LibS.new] at h), fun l hl => by simp [LibS.new] at hl⟩
theorem LibN.le {n m : Nat} {L : LibS} (h : LibN n L) (hm : n ≤ m) : LibN m L := ⟨h.ok, Nat.le_trans h.loans hm, fun s o e => Nat.le_trans (h.own s o e) hm, h.sing⟩
theorem at_set (L : LibS) (k q : IdV) (v : ByteArray) (la : IdV → Option Int) (lo : List LoanV) (ha : ByteArray → Option (List ByteArray)) : (⟨setF L.st k v, la, lo, ha⟩ : LibS).at_ q = if q = k then v else L.at_ q := by
 unfold LibS.at_ setF
 by_cases e : q = k
 ·simp [e]
 ·simp [e]
theorem setF_some {α β : Type} [DecidableEq α] {f : α → Option β} {k q : α} {v : β} : (setF f k v q) = if q = k then some v else f q := rfl
theorem lendD_ok {n : Nat} {r : LendR} {L : LibS} {x : SlipV} (h : LibN n L) (hn : n ≤ 100000) (hsx : x.singer.size ≤ 1000000) : LibN (n + 1) (lendD r L x).1 := by
 unfold lendD
 by_cases h1 : x.piece ∈ ownOf L x.singer
 ·rw [if_pos h1]; exact h.le (by omega)
 rw [if_neg h1]
 by_cases h2 : r.each ≤ (ownOf L x.singer).length
 ·rw [if_pos h2]; exact h.le (by omega)
 rw [if_neg h2]
 have hl := h.loans
 refine ⟨⟨fun k hk => ?_, fun l hm => ?_, fun s o hs => ?_, fun k i hi => ?_⟩, by simp; omega, fun s o hs => ?_, fun l hl => (List.mem_append.1 hl).elim (h.sing l) fun hl => by rw [List.mem_singleton.1 hl]; exact hsx⟩
 ·rw [at_set] at hk
  by_cases e : k = (x.piece, x.copy)
  ·exact ⟨L.loans.length, by show setF _ _ _ _ = _; rw [setF_some, if_pos e], by simp⟩
  ·rw [if_neg e] at hk
   obtain ⟨i, e1, e2⟩ := h.ok.last k hk
   exact ⟨i, by show setF _ _ _ _ = _; rw [setF_some, if_neg e]; exact e1, by simp; omega⟩
 ·show ∃ o, setF L.has x.singer _ l.singer = some o
  rw [setF_some]
  by_cases e : l.singer = x.singer
  ·exact ⟨_, if_pos e⟩
  ·rw [if_neg e]
   rcases List.mem_append.1 hm with hm | hm
   ·exact h.ok.has l hm
   ·rw [List.mem_singleton.1 hm] at e
    exact absurd rfl e
 ·have hs : setF L.has x.singer _ s = some o := hs
  rw [setF_some] at hs
  by_cases e : s = x.singer
  ·rw [if_pos e] at hs
   cases hs
   refine List.nodup_append.2 ⟨?_, by simp, fun a ha b hb => by rw [List.mem_singleton.1 hb]; exact fun e => h1 (e ▸ ha)⟩
   unfold ownOf
   cases hh : L.has x.singer with
   | none => simp
   | some o => exact h.ok.once _ _ hh
  ·rw [if_neg e] at hs
   exact h.ok.once s o hs
 ·have hi : setF L.last _ _ k = some i := hi
  rw [setF_some] at hi
  by_cases e : k = (x.piece, x.copy)
  ·rw [if_pos e] at hi
   cases hi
   omega
  ·rw [if_neg e] at hi
   exact h.ok.small k i hi
 ·have hs : setF L.has x.singer _ s = some o := hs
  rw [setF_some] at hs
  by_cases e : s = x.singer
  ·rw [if_pos e] at hs
   cases hs
   unfold ownOf
   cases hh : L.has x.singer with
   | none => simp
   | some o => have := h.own _ _ hh; simp; omega
  ·rw [if_neg e] at hs
   exact Nat.le_trans (h.own s o hs) (by omega)
theorem lastI_of {L : LibS} {k : IdV} {i : Nat} (h : L.last k = some (i : Int)) : lastI L k = i := by unfold lastI; rw [h]; simp
theorem lastL_of {L : LibS} {k : IdV} {i : Nat} (h : L.last k = some (i : Int)) (hi : i < L.loans.length) : L.loans[i]? = some (lastL L k) := by
 unfold lastL
 rw [lastI_of h, List.getElem?_eq_getElem hi, List.getD_eq_getElem?_getD, List.getElem?_eq_getElem hi]
 rfl
theorem endD_ok {n : Nat} {L : LibS} {x : SlipV} {lost : Bool} (h : LibN n L) (hs : L.at_ (x.piece, x.copy) = outW) : LibN n (endD L x lost) := by
 obtain ⟨i, e1, e2⟩ := h.ok.last _ (.inl hs)
 have hL := lastL_of e1 e2
 have hm := List.mem_of_getElem? hL
 unfold endD
 rw [lastI_of e1]
 refine ⟨⟨fun k hk => ?_, fun l hl => ?_, fun s o ho => ?_, fun k j hj => h.ok.small k j hj⟩, by simpa using h.loans, fun s o ho => ?_, fun l hl => (List.mem_or_eq_of_mem_set (show l ∈ L.loans.set i _ from hl)).elim (h.sing l) fun e => by rw [e]; exact h.sing (lastL L (x.piece, x.copy)) hm⟩
 ·rw [at_set] at hk
  simp only [List.length_set]
  by_cases e : k = (x.piece, x.copy)
  ·exact ⟨i, by rw [e]; exact e1, e2⟩
  ·rw [if_neg e] at hk
   exact h.ok.last k hk
 ·have hl : l ∈ L.loans.set i _ := hl
  have h9 : ∃ o, L.has l.singer = some o := by
   rcases List.mem_or_eq_of_mem_set hl with hl | rfl
   ·exact h.ok.has l hl
   ·exact h.ok.has (lastL L (x.piece, x.copy)) hm
  obtain ⟨o, ho⟩ := h9
  show ∃ o, (if l.singer = _ then _ else _) = some o
  by_cases e : l.singer = (lastL L (x.piece, x.copy)).singer
  ·rw [if_pos e, ho]; exact ⟨_, rfl⟩
  ·rw [if_neg e]; exact ⟨o, ho⟩
 ·have ho : (if s = _ then _ else _) = some o := ho
  by_cases e : s = (lastL L (x.piece, x.copy)).singer
  ·rw [if_pos e] at ho
   cases hh : L.has s with
   | none => rw [hh] at ho; cases ho
   | some z =>
     rw [hh] at ho
     cases ho
     exact List.Pairwise.filter _ (h.ok.once _ _ hh)
  ·rw [if_neg e] at ho
   exact h.ok.once s o ho
 ·have ho : (if s = _ then _ else _) = some o := ho
  by_cases e : s = (lastL L (x.piece, x.copy)).singer
  ·rw [if_pos e] at ho
   cases hh : L.has s with
   | none => rw [hh] at ho; cases ho
   | some z =>
     rw [hh] at ho
     cases ho
     exact Nat.le_trans (List.length_filter_le _ _) (h.own _ _ hh)
  ·rw [if_neg e] at ho
   exact h.own s o ho
theorem slipD_ok {n : Nat} {T : List TitleV} {r : LendR} {L : LibS} {x : SlipV} (h : LibN n L) (hn : n ≤ 100000) (hk : 1 ≤ x.kind ∧ x.kind ≤ 5) (hsx : x.singer.size ≤ 1000000) : LibN (n + 1) (slipD T r L x).1 := by
 unfold slipD
 by_cases h1 : isCopyT T (x.piece, x.copy) = false
 ·rw [if_pos h1]; exact h.le (by omega)
 rw [if_neg h1]
 by_cases h2 : L.at_ (x.piece, x.copy) ≠ needW x.kind
 ·rw [if_pos h2]; exact h.le (by omega)
 rw [if_neg h2]
 have h2 : L.at_ (x.piece, x.copy) = needW x.kind := Classical.byContradiction h2
 by_cases k1 : x.kind = 1
 ·rw [if_pos k1]; exact lendD_ok h hn hsx
 rw [if_neg k1]
 by_cases k2 : x.kind = 2 ∨ x.kind = 3
 ·rw [if_pos k2]
  refine (endD_ok h ?_).le (by omega)
  rw [h2]
  rcases k2 with e | e <;> rw [e] <;> rfl
 rw [if_neg k2]
 by_cases k4 : x.kind = 4
 ·rw [if_pos k4]
  have hs : L.at_ (x.piece, x.copy) = lostW := by rw [h2, k4]; rfl
  obtain ⟨i, e1, e2⟩ := h.ok.last _ (.inr hs)
  have hm := List.mem_of_getElem? (lastL_of e1 e2)
  rw [lastI_of e1]
  refine ⟨⟨fun k hk => ?_, fun l hl => ?_, fun s o ho => h.ok.once s o ho, fun k j hj => h.ok.small k j hj⟩, by have := h.loans; simp; omega, fun s o ho => Nat.le_trans (h.own s o ho) (by omega), fun l hl => (List.mem_or_eq_of_mem_set (show l ∈ L.loans.set i _ from hl)).elim (h.sing l) fun e => by rw [e]; exact h.sing (lastL L (x.piece, x.copy)) hm⟩
  ·rw [at_set] at hk
   simp only [List.length_set]
   by_cases e : k = (x.piece, x.copy)
   ·exact ⟨i, by rw [e]; exact e1, e2⟩
   ·rw [if_neg e] at hk
    exact h.ok.last k hk
  ·have hl : l ∈ L.loans.set i _ := hl
   rcases List.mem_or_eq_of_mem_set hl with hl | rfl
   ·exact h.ok.has l hl
   ·exact h.ok.has (lastL L (x.piece, x.copy)) hm
 rw [if_neg k4]
 refine ⟨⟨fun k hk => ?_, fun l hl => h.ok.has l hl, fun s o ho => h.ok.once s o ho, fun k j hj => h.ok.small k j hj⟩, Nat.le_trans h.loans (by omega), fun s o ho => Nat.le_trans (h.own s o ho) (by omega), h.sing⟩
 rw [at_set] at hk
 by_cases e : k = (x.piece, x.copy)
 ·rw [if_pos e] at hk
  rcases hk with hk | hk <;> exact absurd hk (by decide)
 ·rw [if_neg e] at hk
  exact h.ok.last k hk
/-! ### the order -/
def atD (d : List SlipV) (i : Nat) : Int := (d.getD i default).at_
/-- Places by moments, then as they stand. -/
def ByAt (d : List SlipV) (i k : Nat) : Prop := atD d i < atD d k ∨ (atD d i = atD d k ∧ i < k)
instance (d : List SlipV) (i k : Nat) : Decidable (ByAt d i k) := by unfold ByAt; exact inferInstance
theorem byAt_trans {d : List SlipV} {i j k : Nat} (h : ByAt d i j) (h2 : ByAt d j k) : ByAt d i k := by unfold ByAt at *; omega
theorem byAt_asym {d : List SlipV} {i k : Nat} (h : ByAt d i k) (h2 : ByAt d k i) : False := by unfold ByAt at *; omega
theorem byAt_tri {d : List SlipV} {i k : Nat} (h : i ≠ k) : ByAt d i k ∨ ByAt d k i := by unfold ByAt; omega
def selF (d : List SlipV) (t : Int) : List Nat := (List.range d.length).filter fun i => decide (atD d i ≤ t)
def ordF (d : List SlipV) (t : Int) : List Nat := (selF d t).mergeSort fun i k => decide (¬ ByAt d k i)
theorem ord_perm (d : List SlipV) (t : Int) : (ordF d t).Perm (selF d t) := List.mergeSort_perm _ _
theorem sel_nodup (d : List SlipV) (t : Int) : (selF d t).Nodup := List.Pairwise.filter _ List.nodup_range
theorem ord_nodup (d : List SlipV) (t : Int) : (ordF d t).Nodup := (ord_perm d t).nodup_iff.2 (sel_nodup d t)
theorem ord_rise (d : List SlipV) (t : Int) : (ordF d t).Pairwise (ByAt d) := by
 have h := List.pairwise_mergeSort (le := fun i k => decide (¬ ByAt d k i)) (fun a b c h1 h2 => by
  simp only [decide_eq_true_eq] at *
  unfold ByAt at *
  omega) (fun a b => by
  simp only [Bool.or_eq_true, decide_eq_true_eq]
  unfold ByAt
  omega) (selF d t)
 refine (List.Pairwise.and h (ord_nodup d t)).imp fun {a b} hab => ?_
 have h1 : ¬ ByAt d b a := by simpa using hab.1
 exact (byAt_tri hab.2).resolve_right h1
theorem ord_is {d : List SlipV} {t : Int} {M : List Nat} (hp : M.Perm (selF d t)) (hr : M.Pairwise (ByAt d)) : M = ordF d t :=
 same_of (fun _ _ => byAt_asym) hr (ord_rise d t) (hp.trans (ord_perm d t).symm)
theorem mem_sel {d : List SlipV} {t : Int} {i : Nat} : i ∈ selF d t ↔ i < d.length ∧ atD d i ≤ t := by unfold selF; simp
theorem mem_ord {d : List SlipV} {t : Int} {i : Nat} : i ∈ ordF d t ↔ i < d.length ∧ atD d i ≤ t := (ord_perm d t).mem_iff.trans mem_sel
theorem ord_len (d : List SlipV) (t : Int) : (ordF d t).length ≤ d.length := by
 rw [(ord_perm d t).length_eq]
 refine Nat.le_trans (List.length_filter_le _ _) (by simp)
/-! ### following -/
/-- How all copies are, and which slips are refused and why. -/
abbrev RunS := LibS × (Int → Option Int)
def stepR (T : List TitleV) (r : LendR) (d : List SlipV) (s : RunS) (i : Nat) : RunS :=
 ((slipD T r s.1 (d.getD i default)).1, if (slipD T r s.1 (d.getD i default)).2 = 0 then s.2 else setF s.2 (i : Int) (slipD T r s.1 (d.getD i default)).2)
def runR (T : List TitleV) (r : LendR) (d : List SlipV) (s : RunS) (is : List Nat) : RunS := is.foldl (stepR T r d) s
def libAt (T : List TitleV) (r : LendR) (d : List SlipV) (t : Int) : RunS := runR T r d (LibS.new, fun _ => none) (ordF d t)
theorem run_take {T : List TitleV} {r : LendR} {d : List SlipV} {s : RunS} {is : List Nat} {k i : Nat} (h : is[k]? = some i) : runR T r d s (is.take (k + 1)) = stepR T r d (runR T r d s (is.take k)) i := by
 unfold runR
 rw [take_snocL h, List.foldl_append]
 rfl
theorem run_ok {T : List TitleV} {r : LendR} {d : List SlipV} (hd : ∀ x ∈ d, (1 ≤ x.kind ∧ x.kind ≤ 5) ∧ x.singer.size ≤ 1000000) {is : List Nat} (hi : ∀ i ∈ is, i < d.length) : ∀ (k : Nat), k ≤ is.length → k ≤ 100000 → LibN k (runR T r d (LibS.new, fun _ => none) (is.take k)).1
 | 0, _, _ => by simpa [runR] using LibN.new
 | k + 1, hk, hb => by
   have e : is[k]? = some is[k] := List.getElem?_eq_getElem (by omega)
   rw [run_take e]
   have hm : is[k] < d.length := hi _ (List.getElem_mem _)
   have hx := hd d[is[k]] (List.getElem_mem _)
   have ed : d.getD is[k] default = d[is[k]] := by rw [List.getD_eq_getElem?_getD, List.getElem?_eq_getElem hm]; rfl
   unfold stepR
   rw [ed]
   exact slipD_ok (run_ok hd hi k (by omega) (by omega)) (by omega) hx.1 hx.2
end Go.Proofs.YtehboinleolihaaGreatDoor
namespace Go.Proofs.YtehboinleolihaaGreatDoor
open Go Go.RowKit Go.Sort
def cmpAt (d : List SlipV) {m : Nat} (a b : Fin (m + 1)) : Int := atD d a.val - atD d b.val
def ltAt (d : List SlipV) {m : Nat} (a b : Fin (m + 1)) : Bool := decide (ByAt d a.val b.val)
theorem ltAt_swo (d : List SlipV) (m : Nat) : SWO (ltAt (m := m) d) where
 irrefl x := by unfold ltAt; rw [decide_eq_false_iff_not]; exact fun h => byAt_asym h h
 trans x y z h1 h2 := by unfold ltAt at *; rw [decide_eq_true_iff] at *; exact byAt_trans h1 h2
 ntrans x y z h1 h2 := by
  unfold ltAt at *
  rw [decide_eq_false_iff_not] at *
  unfold ByAt at *
  omega
theorem ord_ins {d : List SlipV} {m : Nat} (t : Int) {P : List (Fin (m + 1))} (hP : P.map Fin.val = selF d t) :
 ((insertionSort (ltOf (cmpAt (m := m) d)) P.toArray 0 P.length).toList.map Fin.val) = ordF d t := by
 have hlt : P.Pairwise fun a b => a.val < b.val := by
  have h1 : (selF d t).Pairwise (· < ·) := List.Pairwise.filter _ List.pairwise_lt_range
  rw [← hP, List.pairwise_map] at h1
  exact h1
 have h := insertionSort_congr (lt := ltOf (cmpAt (m := m) d)) (lt2 := ltAt d) (R := fun x y => x.val < y.val) (fun x y h => by
  unfold ltOf cmpAt ltAt
  rw [Bool.eq_iff_iff, decide_eq_true_iff, decide_eq_true_iff]
  unfold ByAt
  omega) P.toArray (fun p q hpq hq => by
  simp at hq
  have e1 : P.toArray[p]! = P[p] := by simp [getElem!_pos, show p < P.length by omega]
  have e2 : P.toArray[q]! = P[q] := by simp [getElem!_pos, hq]
  rw [e1, e2]
  exact List.pairwise_iff_getElem.1 hlt p q (by omega) hq hpq)
 have e : P.toArray.size = P.length := by simp
 rw [e] at h
 rw [h]
 have h2 := insertionSort_holds (lt := ltAt (m := m) d) (ltAt_swo d m) P.toArray 0 P.length (Nat.zero_le _) (by simp)
 generalize insertionSort (ltAt (m := m) d) P.toArray 0 P.length = D at h2
 obtain ⟨hp, hs⟩ := h2
 have hsz : D.size = P.length := by have := hp.1; simpa using this
 have hperm : D.toList.Perm P := by
  have h9 := hp.2.2
  have e2 : D.extract 0 P.length = D := by simp [← hsz]
  rw [e2] at h9
  simpa using h9
 have hpv : (D.toList.map Fin.val).Perm (selF d t) := by rw [← hP]; exact hperm.map _
 refine ord_is hpv ?_
 have hnd : (D.toList.map Fin.val).Nodup := hpv.nodup_iff.2 (sel_nodup d t)
 unfold List.Nodup at hnd
 rw [List.pairwise_map] at hnd ⊢
 rw [List.pairwise_iff_getElem] at hnd ⊢
 intro i j hi hj hij
 have h1 := hnd i j hi hj hij
 have h9 := hs i j (Nat.zero_le _) hij (by simp at hj; omega)
 simp at hi hj
 rw [getElem!_pos D j hj, getElem!_pos D i hi] at h9
 unfold ltAt at h9
 rw [decide_eq_false_iff_not] at h9
 exact (byAt_tri h1).resolve_right h9
theorem ord_nil {d : List SlipV} {t : Int} (h : selF d t = []) : ordF d t = [] := by
 have := ord_perm d t
 rw [h] at this
 exact this.eq_nil
/-- Places below a bound as numbers of a finite type. -/
theorem fin_list {m : Nat} : ∀ {P : List Nat}, (∀ i ∈ P, i < m + 1) → ∃ Q : List (Fin (m + 1)), Q.map Fin.val = P
 | [], _ => ⟨[], rfl⟩
 | i :: P, h => by
   obtain ⟨Q, hQ⟩ := fin_list (P := P) fun j hj => h j (List.mem_cons_of_mem _ hj)
   exact ⟨⟨i, h i List.mem_cons_self⟩ :: Q, by rw [List.map_cons, hQ]⟩
def selK (d : List SlipV) (t : Int) (k : Nat) : List Nat := (List.range k).filter fun i => decide (atD d i ≤ t)
theorem selK_succ (d : List SlipV) (t : Int) (k : Nat) : selK d t (k + 1) = if atD d k ≤ t then selK d t k ++ [k] else selK d t k := by
 unfold selK
 rw [List.range_succ, List.filter_append]
 by_cases h : atD d k ≤ t
 ·rw [if_pos h, List.filter_cons_of_pos (by simpa using h)]; rfl
 ·rw [if_neg h, List.filter_cons_of_neg (by simpa using h)]; simp
theorem selK_all (d : List SlipV) (t : Int) : selK d t d.length = selF d t := rfl
theorem selK_len (d : List SlipV) (t : Int) (k : Nat) : (selK d t k).length ≤ k := Nat.le_trans (List.length_filter_le _ _) (by simp)
end Go.Proofs.YtehboinleolihaaGreatDoor
