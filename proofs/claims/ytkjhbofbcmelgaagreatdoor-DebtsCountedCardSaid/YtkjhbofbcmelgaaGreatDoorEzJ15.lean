/- What slips up to a moment lead to: plain. Conditions: as each theorem says. The order of slips is what a stable sort of their places gives: plain. Conditions: as each theorem says. Slips up to a moment are sorted by their moments: the walk. Conditions: sizes; at most 19 slips. -/
import Derived.Test.YtkjhbofbcmelgaaGreatDoorEzJ14
import Derived.Test.YtkjhbofbcmelgaaGreatDoorEzJ11
import Derived.Test.YtkjhbofbcmelgaaGreatDoorEzJ3
import Derived.Shelf.SlSortCmp.Insertion
import Derived.Lib.OwnBridge
set_option linter.unusedSimpArgs false
set_option linter.unusedVariables false
namespace Go.Proofs.YtkjhbofbcmelgaaGreatDoor
open Go Go.RowKit Go.Sort
/-! ### what always holds -/
structure LibN (n : Nat) (L : LibS) : Prop where
 ok : LibOk L
 loans : L.loans.length ≤ n
 own : ∀ s o, L.has s = some o → o.length ≤ n
 sing : ∀ l ∈ L.loans, l.singer.size ≤ 1000000
theorem LibN.new : LibN 0 LibS.new := ⟨LibOk.new, Nat.le_refl _, (fun s o h => by simp [LibS.new] at h), fun l hl => by simp [LibS.new] at hl⟩
theorem LibN.le {n m : Nat} {L : LibS} (h : LibN n L) (hm : n ≤ m) : LibN m L := ⟨h.ok, Nat.le_trans h.loans hm, fun s o e => Nat.le_trans (h.own s o e) hm, h.sing⟩
theorem at_set (L : LibS) (k q : IdV) (v : ByteArray) (la : IdV → Option Int) (lo : List LoanV) (ha : ByteArray → Option (List ByteArray)) : (⟨setF L.st k v, la, lo, ha⟩ : LibS).at_ q = if q = k then v else L.at_ q := by
 unfold LibS.at_ setF
 by_cases e : q = k
 ·simp [e]
 ·simp [e]
theorem setF_some {α β : Type} [DecidableEq α] {f : α → Option β} {k q : α} {v : β} : (setF f k v q) = if q = k then some v else f q := rfl
theorem lendD_ok {n : Nat} {r : LendR} {L : LibS} {x : SlipV} (h : LibN n L) (hn : n ≤ 100000) (hsx : x.singer.size ≤ 1000000) : LibN (n + 1) (lendD r L x).1 := by
 unfold lendD
 by_cases h1 : x.piece ∈ ownOf L x.singer
 ·rw [if_pos h1]; exact h.le (by omega)
 rw [if_neg h1]
 by_cases h2 : r.each ≤ (ownOf L x.singer).length
 ·rw [if_pos h2]; exact h.le (by omega)
 rw [if_neg h2]
 have hl := h.loans
 refine ⟨⟨fun k hk => ?_, fun l hm => ?_, fun s o hs => ?_, fun k i hi => ?_⟩, by simp; omega, fun s o hs => ?_, fun l hl => (List.mem_append.1 hl).elim (h.sing l) fun hl => by rw [List.mem_singleton.1 hl]; exact hsx⟩
 ·rw [at_set] at hk
  by_cases e : k = (x.piece, x.copy)
  ·exact ⟨L.loans.length, by show setF _ _ _ _ = _; rw [setF_some, if_pos e], by simp⟩
  ·rw [if_neg e] at hk
   obtain ⟨i, e1, e2⟩ := h.ok.last k hk
   exact ⟨i, by show setF _ _ _ _ = _; rw [setF_some, if_neg e]; exact e1, by simp; omega⟩
 ·show ∃ o, setF L.has x.singer _ l.singer = some o
  rw [setF_some]
  by_cases e : l.singer = x.singer
  ·exact ⟨_, if_pos e⟩
  ·rw [if_neg e]
   rcases List.mem_append.1 hm with hm | hm
   ·exact h.ok.has l hm
   ·rw [List.mem_singleton.1 hm] at e
    exact absurd rfl e
 ·have hs : setF L.has x.singer _ s = some o := hs
  rw [setF_some] at hs
  by_cases e : s = x.singer
  ·rw [if_pos e] at hs
   cases hs
   refine List.nodup_append.2 ⟨?_, by simp, fun a ha b hb => by rw [List.mem_singleton.1 hb]; exact fun e => h1 (e ▸ ha)⟩
   unfold ownOf
   cases hh : L.has x.singer with
   | none => simp
   | some o => exact h.ok.once _ _ hh
  ·rw [if_neg e] at hs
   exact h.ok.once s o hs
 ·have hi : setF L.last _ _ k = some i := hi
  rw [setF_some] at hi
  by_cases e : k = (x.piece, x.copy)
  ·rw [if_pos e] at hi
   cases hi
   omega
  ·rw [if_neg e] at hi
   exact h.ok.small k i hi
 ·have hs : setF L.has x.singer _ s = some o := hs
  rw [setF_some] at hs
  by_cases e : s = x.singer
  ·rw [if_pos e] at hs
   cases hs
   unfold ownOf
   cases hh : L.has x.singer with
   | none => simp
   | some o => have := h.own _ _ hh; simp; omega
  ·rw [if_neg e] at hs
   exact Nat.le_trans (h.own s o hs) (by omega)
theorem lastI_of {L : LibS} {k : IdV} {i : Nat} (h : L.last k = some (i : Int)) : lastI L k = i := by unfold lastI; rw [h]; simp
theorem lastL_of {L : LibS} {k : IdV} {i : Nat} (h : L.last k = some (i : Int)) (hi : i < L.loans.length) : L.loans[i]? = some (lastL L k) := by
 unfold lastL
 rw [lastI_of h, List.getElem?_eq_getElem hi, List.getD_eq_getElem?_getD, List.getElem?_eq_getElem hi]
 rfl
theorem endD_ok {n : Nat} {L : LibS} {x : SlipV} {lost : Bool} (h : LibN n L) (hs : L.at_ (x.piece, x.copy) = outW) : LibN n (endD L x lost) := by
 obtain ⟨i, e1, e2⟩ := h.ok.last _ (.inl hs)
 have hL := lastL_of e1 e2
 have hm := List.mem_of_getElem? hL
 unfold endD
 rw [lastI_of e1]
 refine ⟨⟨fun k hk => ?_, fun l hl => ?_, fun s o ho => ?_, fun k j hj => h.ok.small k j hj⟩, by simpa using h.loans, fun s o ho => ?_, fun l hl => (List.mem_or_eq_of_mem_set (show l ∈ L.loans.set i _ from hl)).elim (h.sing l) fun e => by rw [e]; exact h.sing (lastL L (x.piece, x.copy)) hm⟩
 ·rw [at_set] at hk
  simp only [List.length_set]
  by_cases e : k = (x.piece, x.copy)
  ·exact ⟨i, by rw [e]; exact e1, e2⟩
  ·rw [if_neg e] at hk
   exact h.ok.last k hk
 ·have hl : l ∈ L.loans.set i _ := hl
  have h9 : ∃ o, L.has l.singer = some o := by
   rcases List.mem_or_eq_of_mem_set hl with hl | rfl
   ·exact h.ok.has l hl
   ·exact h.ok.has (lastL L (x.piece, x.copy)) hm
  obtain ⟨o, ho⟩ := h9
  show ∃ o, (if l.singer = _ then _ else _) = some o
  by_cases e : l.singer = (lastL L (x.piece, x.copy)).singer
  ·rw [if_pos e, ho]; exact ⟨_, rfl⟩
  ·rw [if_neg e]; exact ⟨o, ho⟩
 ·have ho : (if s = _ then _ else _) = some o := ho
  by_cases e : s = (lastL L (x.piece, x.copy)).singer
  ·rw [if_pos e] at ho
   cases hh : L.has s with
   | none => rw [hh] at ho; cases ho
   | some z =>
     rw [hh] at ho
     cases ho
     exact List.Pairwise.filter _ (h.ok.once _ _ hh)
  ·rw [if_neg e] at ho
   exact h.ok.once s o ho
 ·have ho : (if s = _ then _ else _) = some o := ho
  by_cases e : s = (lastL L (x.piece, x.copy)).singer
  ·rw [if_pos e] at ho
   cases hh : L.has s with
   | none => rw [hh] at ho; cases ho
   | some z =>
     rw [hh] at ho
     cases ho
     exact Nat.le_trans (List.length_filter_le _ _) (h.own _ _ hh)
  ·rw [if_neg e] at ho
   exact h.own s o ho
theorem slipD_ok {n : Nat} {T : List TitleV} {r : LendR} {L : LibS} {x : SlipV} (h : LibN n L) (hn : n ≤ 100000) (hk : 1 ≤ x.kind ∧ x.kind ≤ 5) (hsx : x.singer.size ≤ 1000000) : LibN (n + 1) (slipD T r L x).1 := by
 unfold slipD
 by_cases h1 : isCopyT T (x.piece, x.copy) = false
 ·rw [if_pos h1]; exact h.le (by omega)
 rw [if_neg h1]
 by_cases h2 : L.at_ (x.piece, x.copy) ≠ needW x.kind
 ·rw [if_pos h2]; exact h.le (by omega)
 rw [if_neg h2]
 have h2 : L.at_ (x.piece, x.copy) = needW x.kind := Classical.byContradiction h2
 by_cases k1 : x.kind = 1
 ·rw [if_pos k1]; exact lendD_ok h hn hsx
 rw [if_neg k1]
 by_cases k2 : x.kind = 2 ∨ x.kind = 3
 ·rw [if_pos k2]
  refine (endD_ok h ?_).le (by omega)
  rw [h2]
  rcases k2 with e | e <;> rw [e] <;> rfl
 rw [if_neg k2]
 by_cases k4 : x.kind = 4
 ·rw [if_pos k4]
  have hs : L.at_ (x.piece, x.copy) = lostW := by rw [h2, k4]; rfl
  obtain ⟨i, e1, e2⟩ := h.ok.last _ (.inr hs)
  have hm := List.mem_of_getElem? (lastL_of e1 e2)
  rw [lastI_of e1]
  refine ⟨⟨fun k hk => ?_, fun l hl => ?_, fun s o ho => h.ok.once s o ho, fun k j hj => h.ok.small k j hj⟩, by have := h.loans; simp; omega, fun s o ho => Nat.le_trans (h.own s o ho) (by omega), fun l hl => (List.mem_or_eq_of_mem_set (show l ∈ L.loans.set i _ from hl)).elim (h.sing l) fun e => by rw [e]; exact h.sing (lastL L (x.piece, x.copy)) hm⟩
  ·rw [at_set] at hk
   simp only [List.length_set]
   by_cases e : k = (x.piece, x.copy)
   ·exact ⟨i, by rw [e]; exact e1, e2⟩
   ·rw [if_neg e] at hk
    exact h.ok.last k hk
  ·have hl : l ∈ L.loans.set i _ := hl
   rcases List.mem_or_eq_of_mem_set hl with hl | rfl
   ·exact h.ok.has l hl
   ·exact h.ok.has (lastL L (x.piece, x.copy)) hm
 rw [if_neg k4]
 refine ⟨⟨fun k hk => ?_, fun l hl => h.ok.has l hl, fun s o ho => h.ok.once s o ho, fun k j hj => h.ok.small k j hj⟩, Nat.le_trans h.loans (by omega), fun s o ho => Nat.le_trans (h.own s o ho) (by omega), h.sing⟩
 rw [at_set] at hk
 by_cases e : k = (x.piece, x.copy)
 ·rw [if_pos e] at hk
  rcases hk with hk | hk <;> exact absurd hk (by decide)
 ·rw [if_neg e] at hk
  exact h.ok.last k hk
/-! ### the order -/
def atD (d : List SlipV) (i : Nat) : Int := (d.getD i default).at_
/-- Places by moments, then as they stand. -/
def ByAt (d : List SlipV) (i k : Nat) : Prop := atD d i < atD d k ∨ (atD d i = atD d k ∧ i < k)
instance (d : List SlipV) (i k : Nat) : Decidable (ByAt d i k) := by unfold ByAt; exact inferInstance
theorem byAt_trans {d : List SlipV} {i j k : Nat} (h : ByAt d i j) (h2 : ByAt d j k) : ByAt d i k := by unfold ByAt at *; omega
theorem byAt_asym {d : List SlipV} {i k : Nat} (h : ByAt d i k) (h2 : ByAt d k i) : False := by unfold ByAt at *; omega
theorem byAt_tri {d : List SlipV} {i k : Nat} (h : i ≠ k) : ByAt d i k ∨ ByAt d k i := by unfold ByAt; omega
def selF (d : List SlipV) (t : Int) : List Nat := (List.range d.length).filter fun i => decide (atD d i ≤ t)
def ordF (d : List SlipV) (t : Int) : List Nat := (selF d t).mergeSort fun i k => decide (¬ ByAt d k i)
theorem ord_perm (d : List SlipV) (t : Int) : (ordF d t).Perm (selF d t) := List.mergeSort_perm _ _
theorem sel_nodup (d : List SlipV) (t : Int) : (selF d t).Nodup := List.Pairwise.filter _ List.nodup_range
theorem ord_nodup (d : List SlipV) (t : Int) : (ordF d t).Nodup := (ord_perm d t).nodup_iff.2 (sel_nodup d t)
theorem ord_rise (d : List SlipV) (t : Int) : (ordF d t).Pairwise (ByAt d) := by
 have h := List.pairwise_mergeSort (le := fun i k => decide (¬ ByAt d k i)) (fun a b c h1 h2 => by
  simp only [decide_eq_true_eq] at *
  unfold ByAt at *
  omega) (fun a b => by
  simp only [Bool.or_eq_true, decide_eq_true_eq]
  unfold ByAt
  omega) (selF d t)
 refine (List.Pairwise.and h (ord_nodup d t)).imp fun {a b} hab => ?_
 have h1 : ¬ ByAt d b a := by simpa using hab.1
 exact (byAt_tri hab.2).resolve_right h1
theorem ord_is {d : List SlipV} {t : Int} {M : List Nat} (hp : M.Perm (selF d t)) (hr : M.Pairwise (ByAt d)) : M = ordF d t :=
 same_of (fun _ _ => byAt_asym) hr (ord_rise d t) (hp.trans (ord_perm d t).symm)
theorem mem_sel {d : List SlipV} {t : Int} {i : Nat} : i ∈ selF d t ↔ i < d.length ∧ atD d i ≤ t := by unfold selF; simp
theorem mem_ord {d : List SlipV} {t : Int} {i : Nat} : i ∈ ordF d t ↔ i < d.length ∧ atD d i ≤ t := (ord_perm d t).mem_iff.trans mem_sel
theorem ord_len (d : List SlipV) (t : Int) : (ordF d t).length ≤ d.length := by
 rw [(ord_perm d t).length_eq]
 refine Nat.le_trans (List.length_filter_le _ _) (by simp)
/-! ### following -/
/-- How all copies are, and which slips are refused and why. -/
abbrev RunS := LibS × (Int → Option Int)
def stepR (T : List TitleV) (r : LendR) (d : List SlipV) (s : RunS) (i : Nat) : RunS :=
 ((slipD T r s.1 (d.getD i default)).1, if (slipD T r s.1 (d.getD i default)).2 = 0 then s.2 else setF s.2 (i : Int) (slipD T r s.1 (d.getD i default)).2)
def runR (T : List TitleV) (r : LendR) (d : List SlipV) (s : RunS) (is : List Nat) : RunS := is.foldl (stepR T r d) s
def libAt (T : List TitleV) (r : LendR) (d : List SlipV) (t : Int) : RunS := runR T r d (LibS.new, fun _ => none) (ordF d t)
theorem run_take {T : List TitleV} {r : LendR} {d : List SlipV} {s : RunS} {is : List Nat} {k i : Nat} (h : is[k]? = some i) : runR T r d s (is.take (k + 1)) = stepR T r d (runR T r d s (is.take k)) i := by
 unfold runR
 rw [take_snocL h, List.foldl_append]
 rfl
theorem run_ok {T : List TitleV} {r : LendR} {d : List SlipV} (hd : ∀ x ∈ d, (1 ≤ x.kind ∧ x.kind ≤ 5) ∧ x.singer.size ≤ 1000000) {is : List Nat} (hi : ∀ i ∈ is, i < d.length) : ∀ (k : Nat), k ≤ is.length → k ≤ 100000 → LibN k (runR T r d (LibS.new, fun _ => none) (is.take k)).1
 | 0, _, _ => by simpa [runR] using LibN.new
 | k + 1, hk, hb => by
   have e : is[k]? = some is[k] := List.getElem?_eq_getElem (by omega)
   rw [run_take e]
   have hm : is[k] < d.length := hi _ (List.getElem_mem _)
   have hx := hd d[is[k]] (List.getElem_mem _)
   have ed : d.getD is[k] default = d[is[k]] := by rw [List.getD_eq_getElem?_getD, List.getElem?_eq_getElem hm]; rfl
   unfold stepR
   rw [ed]
   exact slipD_ok (run_ok hd hi k (by omega) (by omega)) (by omega) hx.1 hx.2
end Go.Proofs.YtkjhbofbcmelgaaGreatDoor
namespace Go.Proofs.YtkjhbofbcmelgaaGreatDoor
open Go Go.RowKit Go.Sort
def cmpAt (d : List SlipV) {m : Nat} (a b : Fin (m + 1)) : Int := atD d a.val - atD d b.val
def ltAt (d : List SlipV) {m : Nat} (a b : Fin (m + 1)) : Bool := decide (ByAt d a.val b.val)
theorem ltAt_swo (d : List SlipV) (m : Nat) : SWO (ltAt (m := m) d) where
 irrefl x := by unfold ltAt; rw [decide_eq_false_iff_not]; exact fun h => byAt_asym h h
 trans x y z h1 h2 := by unfold ltAt at *; rw [decide_eq_true_iff] at *; exact byAt_trans h1 h2
 ntrans x y z h1 h2 := by
  unfold ltAt at *
  rw [decide_eq_false_iff_not] at *
  unfold ByAt at *
  omega
theorem ord_ins {d : List SlipV} {m : Nat} (t : Int) {P : List (Fin (m + 1))} (hP : P.map Fin.val = selF d t) :
 ((insertionSort (ltOf (cmpAt (m := m) d)) P.toArray 0 P.length).toList.map Fin.val) = ordF d t := by
 have hlt : P.Pairwise fun a b => a.val < b.val := by
  have h1 : (selF d t).Pairwise (· < ·) := List.Pairwise.filter _ List.pairwise_lt_range
  rw [← hP, List.pairwise_map] at h1
  exact h1
 have h := insertionSort_congr (lt := ltOf (cmpAt (m := m) d)) (lt2 := ltAt d) (R := fun x y => x.val < y.val) (fun x y h => by
  unfold ltOf cmpAt ltAt
  rw [Bool.eq_iff_iff, decide_eq_true_iff, decide_eq_true_iff]
  unfold ByAt
  omega) P.toArray (fun p q hpq hq => by
  simp at hq
  have e1 : P.toArray[p]! = P[p] := by simp [getElem!_pos, show p < P.length by omega]
  have e2 : P.toArray[q]! = P[q] := by simp [getElem!_pos, hq]
  rw [e1, e2]
  exact List.pairwise_iff_getElem.1 hlt p q (by omega) hq hpq)
 have e : P.toArray.size = P.length := by simp
 rw [e] at h
 rw [h]
 have h2 := insertionSort_holds (lt := ltAt (m := m) d) (ltAt_swo d m) P.toArray 0 P.length (Nat.zero_le _) (by simp)
 generalize insertionSort (ltAt (m := m) d) P.toArray 0 P.length = D at h2
 obtain ⟨hp, hs⟩ := h2
 have hsz : D.size = P.length := by have := hp.1; simpa using this
 have hperm : D.toList.Perm P := by
  have h9 := hp.2.2
  have e2 : D.extract 0 P.length = D := by simp [← hsz]
  rw [e2] at h9
  simpa using h9
 have hpv : (D.toList.map Fin.val).Perm (selF d t) := by rw [← hP]; exact hperm.map _
 refine ord_is hpv ?_
 have hnd : (D.toList.map Fin.val).Nodup := hpv.nodup_iff.2 (sel_nodup d t)
 unfold List.Nodup at hnd
 rw [List.pairwise_map] at hnd ⊢
 rw [List.pairwise_iff_getElem] at hnd ⊢
 intro i j hi hj hij
 have h1 := hnd i j hi hj hij
 have h9 := hs i j (Nat.zero_le _) hij (by simp at hj; omega)
 simp at hi hj
 rw [getElem!_pos D j hj, getElem!_pos D i hi] at h9
 unfold ltAt at h9
 rw [decide_eq_false_iff_not] at h9
 exact (byAt_tri h1).resolve_right h9
theorem ord_nil {d : List SlipV} {t : Int} (h : selF d t = []) : ordF d t = [] := by
 have := ord_perm d t
 rw [h] at this
 exact this.eq_nil
/-- Places below a bound as numbers of a finite type. -/
theorem fin_list {m : Nat} : ∀ {P : List Nat}, (∀ i ∈ P, i < m + 1) → ∃ Q : List (Fin (m + 1)), Q.map Fin.val = P
 | [], _ => ⟨[], rfl⟩
 | i :: P, h => by
   obtain ⟨Q, hQ⟩ := fin_list (P := P) fun j hj => h j (List.mem_cons_of_mem _ hj)
   exact ⟨⟨i, h i List.mem_cons_self⟩ :: Q, by rw [List.map_cons, hQ]⟩
def selK (d : List SlipV) (t : Int) (k : Nat) : List Nat := (List.range k).filter fun i => decide (atD d i ≤ t)
theorem selK_succ (d : List SlipV) (t : Int) (k : Nat) : selK d t (k + 1) = if atD d k ≤ t then selK d t k ++ [k] else selK d t k := by
 unfold selK
 rw [List.range_succ, List.filter_append]
 by_cases h : atD d k ≤ t
 ·rw [if_pos h, List.filter_cons_of_pos (by simpa using h)]; rfl
 ·rw [if_neg h, List.filter_cons_of_neg (by simpa using h)]; simp
theorem selK_all (d : List SlipV) (t : Int) : selK d t d.length = selF d t := rfl
theorem selK_len (d : List SlipV) (t : Int) (k : Nat) : (selK d t k).length ≤ k := Nat.le_trans (List.length_filter_le _ _) (by simp)
end Go.Proofs.YtkjhbofbcmelgaaGreatDoor
namespace Go.Proofs.YtkjhbofbcmelgaaGreatDoor
open Go Go.RowKit Go.Sort
def natC (i : Nat) : List Value := [.int .i64 (i : Int)]
theorem natC_len (x : Nat) : (natC x).length = 1 := rfl
theorem natC_one (x : Nat) : ∀ u ∈ natC x, u.oneCell' = true := by simp [natC, Value.oneCell']
theorem drewN_suc (w : World) (q : Nat) : w.drew.drewN q = w.drewN (q + 1) := by
 simp [World.drewN, drew_eq_ahead, ahead, Nat.add_assoc, Nat.add_comm]
 exact ⟨by omega, rfl, rfl⟩
/-- What the comparison of two slips' moments reads. -/
structure AtM (w : World) (gd db off dn dc : Nat) (d : List SlipV) : Prop where
 s : Blk w gd 31 #[.slice (some ⟨db, off, none⟩) dn dc]
 e : Elems 7 slipC w db off d
 len : d.length = dn
 one : ∀ x ∈ d, 0 ≤ x.at_ ∧ x.at_ ≤ 345686399999
theorem atD_of {d : List SlipV} {i : Nat} {x : SlipV} (h : d[i]? = some x) : atD d i = x.at_ := by unfold atD; rw [List.getD_eq_getElem?_getD, h]; rfl
set_option maxRecDepth 100000 in
set_option maxHeartbeats 3200000 in
theorem atCmp_any {w : World} {gd db off dn dc m : Nat} {d : List SlipV} (h : AtM w gd db off dn dc d) (hm : dn = m + 1) (i j : Fin (m + 1)) :
 Calls Tryz.prog 120 #[.int .i64 (i.val : Int), .int .i64 (j.val : Int), .pointer (some ⟨gd, 0, none⟩)] w fun e w' => e = .returned (.int .i64 (cmpAt d i j)) ∧ ∃ q, w' = w.drewN q := by
 obtain ⟨hs, hE, hlen, hone⟩ := h
 have hi := i.isLt
 have hj := j.isLt
 unfold cmpAt
 generalize i.val = i at *
 generalize j.val = j at *
 obtain ⟨x, hx⟩ := getD_some hlen (show i < dn by omega)
 obtain ⟨y, hy⟩ := getD_some hlen (show j < dn by omega)
 rw [atD_of hx, atD_of hy]
 have cx := (hE.slip hx).2.2.1
 have cy := (hE.slip hy).2.2.1
 have x0 := hone x (List.mem_of_getElem? hx)
 have y0 := hone y (List.mem_of_getElem? hy)
 generalize x.at_ = a at *
 generalize y.at_ = b at *
 have z3 : IntKind.i64.wrap (a - b) = a - b := IntWalk.i64_in _ (by omega)
 have hiI : (i : Int) < dn := by omega
 have hjI : (j : Int) < dn := by omega
 clear x0 y0 hone hx hy hE hi hj; replace z3 := Lib.hid z3
 go_enter Tryz.func120, Tryz.ntmps120
 go_upto_region 1 with fail
 refine wp_region_planS [(0, true), (1, true), (2, true), (3, true), (4, true), (5, true), (6, true), (7, true), (8, true), (9, true), (10, true), (11, true)] 12 (fun w' => Blk w' gd 31 #[.slice (some ⟨db, off, none⟩) dn dc] ∧ (w'.cell? ⟨db, off + i * 7 + 2, none⟩ = some (.int .i64 a)) ∧ (w'.cell? ⟨db, off + j * 7 + 2, none⟩ = some (.int .i64 b))) Drw (by kernel_rfl) (by kernel_rfl) Drw.refl (fun _ _ _ => Drw.trans) (fun _ _ h he => ⟨h.1.drw he, (by obtain ⟨q, rfl⟩ := he; exact h.2.1), (by obtain ⟨q, rfl⟩ := he; exact h.2.2)⟩) ⟨(by (repeat (with_reducible first | assumption | exact Blk.new' (by simp) | refine Blk.drew ?_ | refine Blk.alloc ?_ _ | exact Drw.refl _ | refine Ext.drew ?_ | refine Ext.alloc ?_ _))), cx, cy⟩ ?_
 repeat
  first
   | (refine plan_quiet rfl rfl (fun _ _ _ _ h => h) ?_
      apply Exists.intro
      refine ⟨fun w' hw' => ?_, ?_⟩
      ·obtain ⟨hHq0, hHq1, hHq2⟩ := hw'
       obtain ⟨w0, -⟩ := hHq0.walk
       skip
       simp [go_sem, quietTo, Drw.refl, ↓IntWalk.iteOmega, w0, hHq1, hHq2, hiI, hjI, z3.out]
       first
        | rfl
      simp only [Act.put, sIA, sCS, sCZ])
   | (refine plan_skip rfl rfl (fun _ _ _ _ h => h) ?_
      simp only [Act.put, sIA, sCS, sCZ])
 refine plan_nil fun wrq herq hwrq => ?_
 obtain ⟨hHq0, hHq1, hHq2⟩ := hwrq
 obtain ⟨hCq0, hFq0⟩ := hHq0.walk
 simp only [List.drop_succ_cons, List.drop_zero, List.drop_nil]
 go_wp2
 go_ret
 obtain ⟨q, rfl⟩ := herq
 exact ⟨rfl, q + 1, drewN_suc w q⟩
theorem sortW_block {α : Type} [Inhabited α] (enc : α → Value) (w : World) (g m : Nat) (dk : Array α) (os : Array Obj) {b : Nat} (hb : b < w.heap.size) (hne : b ≠ g) : (sortWorld enc w g 0 m dk os).heap[b]? = w.heap[b]? := by
 show (w.heap.modify g (onCells (putCells enc 0 dk)) ++ os)[b]? = _
 have hs : (w.heap.modify g (onCells (putCells enc 0 dk))).size = w.heap.size := by simp
 rw [Array.getElem?_append_left (by rw [hs]; exact hb), Array.getElem?_modify, if_neg (fun e => hne e.symm)]
theorem sortW_grown {α : Type} [Inhabited α] (enc : α → Value) (w : World) (g m : Nat) (dk : Array α) (os : Array Obj) : w.grownBy (sortWorld enc w g 0 m dk os) (some g) :=
 ⟨rfl, rfl, rfl, by
  show w.heap.size ≤ (w.heap.modify g (onCells (putCells enc 0 dk)) ++ os).size
  rw [Array.size_append]; simp, fun k hk hn => sortW_block enc w g m dk os hk fun e => hn (by rw [e])⟩
def encN {k : Nat} (i : Fin k) : Value := .int .i64 (i.val : Int)
theorem AtM.sort {w : World} {gd db off dn dc : Nat} {d : List SlipV} (h : AtM w gd db off dn dc d) {g : Nat} (h1 : gd ≠ g) (h2 : db ≠ g) (hdb : db < w.heap.size) {k m : Nat} {dk : Array (Fin (k + 1))} {os : Array Obj} : AtM (sortWorld encN w g 0 m dk os) gd db off dn dc d :=
 ⟨(sortW_block _ w g m dk os h.s.lt h1).trans h.s, fun i x hx j u hu => (World.cell?_of_block (w := w) (sortW_block _ w g m dk os hdb h2)).trans (h.e i x hx j u hu), h.len, h.one⟩
theorem nat_enc {k : Nat} : ∀ (P : List (Fin k)), (P.map Fin.val).flatMap natC = P.map encN
 | [] => rfl
 | i :: P => by rw [List.map_cons, List.flatMap_cons, nat_enc P]; rfl
set_option maxRecDepth 100000 in
theorem stableN_any (p : Option Addr) (n cap : Nat) (fv : Value) (w : World) (hn : n ≤ 19) (W : Nat → World) (hs : Calls Tryz.prog 206 #[.slice p n cap, .int .i64 (0 : Nat), .int .i64 n, fv] w fun e w' => e = .returned (.tuple #[]) ∧ ∃ q, w' = W q) :
 Calls Tryz.prog 119 #[.slice p n cap, fv] w fun e w' => e = .returned (.tuple #[]) ∧ ∃ q, w' = W q := by
 have hmI : (n : Int) < 20 := by omega
 have hC : Calls Tryz.prog 167 #[.slice p n cap, .int .i64 n, fv] w fun e w' => e = .returned (.tuple #[]) ∧ ∃ q, w' = W q := by
  replace hs := Lib.hid hs
  go_enter Tryz.func167, Tryz.ntmps167
  go_wp2
  refine wp_loop_rounds 1 ?_
  rw [rounds_succ]
  go_wp2_with (go_at_call 206; refine hs.out.mono ?_; rintro e w' ⟨rfl, q, rfl⟩)
  refine wp_loop_rounds 1 ?_
  rw [rounds_succ]
  go_wp2
  go_end0
  exact ⟨rfl, q, rfl⟩
 replace hC := Lib.hid hC; clear hs
 go_enter Tryz.func119, Tryz.ntmps119
 go_wp2_with (go_at_call 167; refine hC.out.mono ?_; rintro e w' ⟨rfl, q, rfl⟩)
 go_end0
 exact ⟨rfl, q, rfl⟩
set_option maxRecDepth 100000 in
/-- No places, sorted. -/
theorem ins0_any (p : Option Addr) (cap : Nat) (fv : Value) (w : World) :
 Calls Tryz.prog 206 #[.slice p 0 cap, .int .i64 (0 : Nat), .int .i64 (0 : Nat), fv] w fun e w' => e = .returned (.tuple #[]) ∧ ∃ q : Nat, w' = w := by
 go_enter Tryz.func206, Tryz.ntmps206
 go_wp2
 refine wp_loop_rounds 1 ?_
 rw [rounds_succ]
 go_wp2
 go_end0
 exact ⟨rfl, 0, rfl⟩
/-- Places in memory, sorted. -/
def OrdR (d : List SlipV) (t : Int) (base : Nat) (p : Option Addr) (n cap : Nat) (w : World) (e : Ending) (w' : World) : Prop :=
 e = .returned (.tuple #[]) ∧ Slc 1 natC w' p n cap (ordF d t) ∧ w.heap.size ≤ w'.heap.size ∧ ∀ a : World, Ext a w → a.heap.size ≤ base → Ext a w'
set_option maxRecDepth 100000 in
theorem ordSort_any {w : World} {base : Nat} {v : Value} {d : List SlipV} (t : Int) (hown : w.ownsRow base 3 1 v (selF d t).length ((selF d t).flatMap natC)) {gd db off dn dc : Nat} (h : AtM w gd db off dn dc d ∨ d = []) (hdn : d.length ≤ 19) (h1 : gd < base) (h2 : db < base ∨ d = []) :
 ∃ (p : Option Addr) (cap : Nat), v = .slice p (selF d t).length cap ∧ Calls Tryz.prog 119 #[v, .func (.func 120) #[] #[.pointer (some ⟨gd, 0, none⟩)]] w (OrdR d t base p (selF d t).length cap w) := by
 have hsl : (selF d t).length ≤ d.length := selK_len d t d.length
 rcases Nat.eq_zero_or_pos (selF d t).length with h0 | h0
 ·obtain ⟨p, cap, rfl, hS⟩ := slc_of_own natC_len hown (by decide) (by omega)
  refine ⟨p, cap, rfl, ?_⟩
  have hnil := List.eq_nil_of_length_eq_zero h0
  rw [hnil] at hS ⊢
  exact (stableN_any p 0 cap _ w (by omega) (fun _ => w) (ins0_any p cap _ w)).mono fun e w' ⟨he, q, hw⟩ => ⟨he, by rw [hw, ord_nil hnil]; exact hS, by rw [hw]; exact Nat.le_refl _, fun a ha _ => by rw [hw]; exact ha⟩
 ·have hdl : 0 < d.length := by omega
  have hne : d ≠ [] := fun e => by subst e; simp at hdl
  replace h := h.resolve_right hne
  replace h2 := h2.resolve_right hne
  obtain ⟨m, hm⟩ : ∃ m, d.length = m + 1 := ⟨d.length - 1, by omega⟩
  obtain ⟨P, hP⟩ := fin_list (P := selF d t) (m := m) fun i hi => by have := (mem_sel.1 hi).1; omega
  have hPl : P.length = (selF d t).length := by rw [← hP, List.length_map]
  obtain ⟨g, cap, rfl, hg, hgl⟩ := hown.form h0
  refine ⟨_, cap, rfl, ?_⟩
  have ho2 := hown
  rw [← hP, nat_enc] at ho2
  obtain ⟨g', cap', e9, hbg, hgl', hncap, hcm, hln, hH⟩ := Lib.holds_of_ownsRow ho2 (fun e => by cases e)
  cases e9
  have hdbl : db < w.heap.size := by omega
  have hs := Any.insertionSortCmpFunc_one Tryz.lisInt (encN (k := m + 1)) (fun _ => rfl) (cmpAt (m := m) d) 120 #[.pointer (some ⟨gd, 0, none⟩)] g 0 cap 0 P.length P.toArray w (fun args u => by rfl) (fun q os dk _ x y => atCmp_any (h.sort (by omega) (by omega) hdbl) (h.len.symm.trans hm) x y) hH (Nat.zero_le _) (by simp) (by simp; omega)
  have hsz : P.toArray.size = P.length := by simp
  rw [hsz] at hs
  have hso := ord_ins (m := m) t hP
  have hds : (insertionSort (ltOf (cmpAt (m := m) d)) P.toArray 0 P.length).size = P.length := by
   have := (ord_perm d t).length_eq
   rw [← hso, List.length_map, ← hPl] at this
   simpa using this
  generalize insertionSort (ltOf (cmpAt (m := m) d)) P.toArray 0 P.length = D at *
  rw [hPl] at hs hds hsz
  have hS := stableN_any _ (selF d t).length cap _ w (by omega) (fun q => (putRow encN w g 0 D).drewN q) hs
  refine hS.mono fun e w' ⟨he, q, hw⟩ => ?_
  have hH2 : Holds encN w' g 0 D := by
   rw [hw]
   exact holds_putRow encN w g 0 _ _ hH (by rw [hds, hsz])
  have hgr : w.grownBy w' (some g) := by
   rw [hw]
   have := sortW_grown encN w g q D #[]
   rw [sortWorld_none] at this
   exact this
  refine ⟨he, ?_, hgr.size, fun a ha hb => ha.grown hgr fun k hk => by cases hk; exact Nat.le_trans hb hg⟩
  have hlen : (ordF d t).length = (selF d t).length := (ord_perm d t).length_eq
  refine ⟨⟨hlen, by omega, fun _ => ⟨g, 0, rfl, Nat.lt_of_lt_of_le hgl hgr.size, fun i x hx j u hu => ?_⟩⟩, (by rw [hP] at hncap; exact hncap), (fun e => by cases e), (fun a ha => by cases ha; exact ⟨g, 0, rfl, Nat.lt_of_lt_of_le hgl hgr.size⟩)⟩
  obtain rfl : j = 0 := by
   have := (List.getElem?_eq_some_iff.1 hu).1
   simp only [natC, List.length_singleton] at this
   omega
  cases hu
  have hi : i < D.size := by rw [hds, ← hlen]; exact (List.getElem?_eq_some_iff.1 hx).1
  have h1 := (hH2 i hi).1
  rw [← hso, List.getElem?_map] at hx
  have e1 : D.toList[i]? = some D[i] := by simp [hi]
  rw [e1] at hx
  have e2 : D[i]! = D[i] := getElem!_pos D i hi
  rw [e2] at h1
  have e3 : x = D[i].val := by simpa using hx.symm
  rw [e3, show 0 + i * 1 + 0 = 0 + i by omega]
  exact h1
end Go.Proofs.YtkjhbofbcmelgaaGreatDoor
