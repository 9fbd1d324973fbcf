/- The order of slips is what a stable sort of their places gives: plain. Conditions: as each theorem says. What is in, counted and seen: plain. Conditions: as each theorem says. The document's merging of slips is the package's: plain. Conditions: as each theorem says. -/
import Derived.Test.YtehboinleolihaaGreatDoorCzJ16
import Derived.Test.YtehboinleolihaaGreatDoorCzJ10
set_option linter.unusedSimpArgs false
set_option linter.unusedVariables false
namespace Go.Proofs.YtehboinleolihaaGreatDoor
open Go Go.RowKit Go.Sort
def cmpAt (d : List SlipV) {m : Nat} (a b : Fin (m + 1)) : Int := atD d a.val - atD d b.val
def ltAt (d : List SlipV) {m : Nat} (a b : Fin (m + 1)) : Bool := decide (ByAt d a.val b.val)
theorem ltAt_swo (d : List SlipV) (m : Nat) : SWO (ltAt (m := m) d) where
 irrefl x := by unfold ltAt; rw [decide_eq_false_iff_not]; exact fun h => byAt_asym h h
 trans x y z h1 h2 := by unfold ltAt at *; rw [decide_eq_true_iff] at *; exact byAt_trans h1 h2
 ntrans x y z h1 h2 := by
  unfold ltAt at *
  rw [decide_eq_false_iff_not] at *
  unfold ByAt at *
  omega
theorem ord_ins {d : List SlipV} {m : Nat} (t : Int) {P : List (Fin (m + 1))} (hP : P.map Fin.val = selF d t) :
 ((insertionSort (ltOf (cmpAt (m := m) d)) P.toArray 0 P.length).toList.map Fin.val) = ordF d t := by
 have hlt : P.Pairwise fun a b => a.val < b.val := by
  have h1 : (selF d t).Pairwise (· < ·) := List.Pairwise.filter _ List.pairwise_lt_range
  rw [← hP, List.pairwise_map] at h1
  exact h1
 have h := insertionSort_congr (lt := ltOf (cmpAt (m := m) d)) (lt2 := ltAt d) (R := fun x y => x.val < y.val) (fun x y h => by
  unfold ltOf cmpAt ltAt
  rw [Bool.eq_iff_iff, decide_eq_true_iff, decide_eq_true_iff]
  unfold ByAt
  omega) P.toArray (fun p q hpq hq => by
  simp at hq
  have e1 : P.toArray[p]! = P[p] := by simp [getElem!_pos, show p < P.length by omega]
  have e2 : P.toArray[q]! = P[q] := by simp [getElem!_pos, hq]
  rw [e1, e2]
  exact List.pairwise_iff_getElem.1 hlt p q (by omega) hq hpq)
 have e : P.toArray.size = P.length := by simp
 rw [e] at h
 rw [h]
 have h2 := insertionSort_holds (lt := ltAt (m := m) d) (ltAt_swo d m) P.toArray 0 P.length (Nat.zero_le _) (by simp)
 generalize insertionSort (ltAt (m := m) d) P.toArray 0 P.length = D at h2
 obtain ⟨hp, hs⟩ := h2
 have hsz : D.size = P.length := by have := hp.1; simpa using this
 have hperm : D.toList.Perm P := by
  have h9 := hp.2.2
  have e2 : D.extract 0 P.length = D := by simp [← hsz]
  rw [e2] at h9
  simpa using h9
 have hpv : (D.toList.map Fin.val).Perm (selF d t) := by rw [← hP]; exact hperm.map _
 refine ord_is hpv ?_
 have hnd : (D.toList.map Fin.val).Nodup := hpv.nodup_iff.2 (sel_nodup d t)
 unfold List.Nodup at hnd
 rw [List.pairwise_map] at hnd ⊢
 rw [List.pairwise_iff_getElem] at hnd ⊢
 intro i j hi hj hij
 have h1 := hnd i j hi hj hij
 have h9 := hs i j (Nat.zero_le _) hij (by simp at hj; omega)
 simp at hi hj
 rw [getElem!_pos D j hj, getElem!_pos D i hi] at h9
 unfold ltAt at h9
 rw [decide_eq_false_iff_not] at h9
 exact (byAt_tri h1).resolve_right h9
theorem ord_nil {d : List SlipV} {t : Int} (h : selF d t = []) : ordF d t = [] := by
 have := ord_perm d t
 rw [h] at this
 exact this.eq_nil
/-- Places below a bound as numbers of a finite type. -/
theorem fin_list {m : Nat} : ∀ {P : List Nat}, (∀ i ∈ P, i < m + 1) → ∃ Q : List (Fin (m + 1)), Q.map Fin.val = P
 | [], _ => ⟨[], rfl⟩
 | i :: P, h => by
   obtain ⟨Q, hQ⟩ := fin_list (P := P) fun j hj => h j (List.mem_cons_of_mem _ hj)
   exact ⟨⟨i, h i List.mem_cons_self⟩ :: Q, by rw [List.map_cons, hQ]⟩
def selK (d : List SlipV) (t : Int) (k : Nat) : List Nat := (List.range k).filter fun i => decide (atD d i ≤ t)
theorem selK_succ (d : List SlipV) (t : Int) (k : Nat) : selK d t (k + 1) = if atD d k ≤ t then selK d t k ++ [k] else selK d t k := by
 unfold selK
 rw [List.range_succ, List.filter_append]
 by_cases h : atD d k ≤ t
 ·rw [if_pos h, List.filter_cons_of_pos (by simpa using h)]; rfl
 ·rw [if_neg h, List.filter_cons_of_neg (by simpa using h)]; simp
theorem selK_all (d : List SlipV) (t : Int) : selK d t d.length = selF d t := rfl
theorem selK_len (d : List SlipV) (t : Int) (k : Nat) : (selK d t k).length ≤ k := Nat.le_trans (List.length_filter_le _ _) (by simp)
end Go.Proofs.YtehboinleolihaaGreatDoor
namespace Go.Proofs.YtehboinleolihaaGreatDoor
open Go Go.RowKit Go.Sort
instance memDecI (a : IdV) (l : List IdV) : Decidable (a ∈ l) := decidable_of_iff ((l.any fun z => decide (z = a)) = true) (by simp)
abbrev DiffT (T : List TitleV) : Prop := T.Pairwise fun a b => a.piece ≠ b.piece
theorem TitlesOk.diff {T : List TitleV} (h : TitlesOk T) : DiffT T := h.rise.imp fun {a b} hl e => by
 rw [e, cmpS_refl] at hl
 cases hl
theorem titleOf_mem {T : List TitleV} (h : DiffT T) {t : TitleV} (ht : t ∈ T) : titleOf T t.piece = some t := by
 induction T with
 | nil => cases ht
 | cons a T ih =>
   obtain ⟨h1, h2⟩ := List.pairwise_cons.1 h
   unfold titleOf
   by_cases e : a.piece = t.piece
   ·rcases List.mem_cons.1 ht with rfl | ht
    ·simp
    ·exact absurd e (h1 t ht)
   ·rw [List.find?_cons_of_neg (by simpa using e)]
    rcases List.mem_cons.1 ht with rfl | ht
    ·exact absurd rfl e
    ·exact ih h2 ht
theorem titleOf_get {T : List TitleV} {p : ByteArray} {t : TitleV} (h : titleOf T p = some t) : t ∈ T ∧ t.piece = p := by
 unfold titleOf at h
 exact ⟨List.mem_of_find?_eq_some h, by simpa using List.find?_some h⟩
/-- All copies of a title; all copies. -/
def nosT (t : TitleV) : List IdV := (List.range t.owned.toNat).map fun i => (t.piece, ((i + 1 : Nat) : Int))
def idsT (T : List TitleV) : List IdV := T.flatMap nosT
def inP (L : LibS) (k : IdV) : Bool := decide (L.at_ k = inW)
def insT (T : List TitleV) (L : LibS) : List IdV := (idsT T).filter (inP L)
/-- How many copies of a title are so. -/
def cntN (L : LibS) (p : ByteArray) (ws : List ByteArray) (n : Nat) : Nat := ((List.range n).filter fun i => decide (L.at_ (p, ((i + 1 : Nat) : Int)) ∈ ws)).length
def cntT (L : LibS) (t : TitleV) (ws : List ByteArray) : Nat := cntN L t.piece ws t.owned.toNat
theorem cntN_succ (L : LibS) (p : ByteArray) (ws : List ByteArray) (n : Nat) : cntN L p ws (n + 1) = cntN L p ws n + if L.at_ (p, ((n + 1 : Nat) : Int)) ∈ ws then 1 else 0 := by
 unfold cntN
 rw [List.range_succ, List.filter_append, List.length_append]
 congr 1
 by_cases h : L.at_ (p, ((n + 1 : Nat) : Int)) ∈ ws
 ·rw [if_pos h, List.filter_cons_of_pos (by simpa using h)]; rfl
 ·rw [if_neg h, List.filter_cons_of_neg (by simpa using h)]; rfl
theorem cntN_le (L : LibS) (p : ByteArray) (ws : List ByteArray) (n : Nat) : cntN L p ws n ≤ n := by
 unfold cntN
 exact Nat.le_trans (List.length_filter_le _ _) (by simp)
theorem mem_nos {t : TitleV} {k : IdV} (h : k ∈ nosT t) : k.1 = t.piece ∧ 1 ≤ k.2 ∧ k.2 ≤ t.owned := by
 unfold nosT at h
 obtain ⟨i, hi, rfl⟩ := List.mem_map.1 h
 rw [List.mem_range] at hi
 exact ⟨rfl, by simp; omega, by simp; omega⟩
theorem nos_nodup (t : TitleV) : (nosT t).Nodup := by
 unfold nosT
 refine List.pairwise_map.2 ((List.nodup_range).imp fun {a b} hab e => hab ?_)
 have := congrArg Prod.snd e
 simp at this
 omega
theorem ids_nodup {T : List TitleV} (h : DiffT T) : (idsT T).Nodup := by
 induction T with
 | nil => exact List.Pairwise.nil
 | cons a T ih =>
   obtain ⟨h1, h2⟩ := List.pairwise_cons.1 h
   have e : idsT (a :: T) = nosT a ++ idsT T := rfl
   rw [e]
   refine List.nodup_append.2 ⟨nos_nodup a, ih h2, fun x hx y hy e => ?_⟩
   subst e
   obtain ⟨t, ht, hxt⟩ := List.mem_flatMap.1 hy
   exact h1 t ht ((mem_nos hx).1.symm.trans (mem_nos hxt).1)
theorem ids_copy {T : List TitleV} (h : TitlesOk T) {k : IdV} (hk : k ∈ idsT T) : (∃ t, titleOf T k.1 = some t) ∧ isCopyT T k = true ∧ 1 ≤ k.2 ∧ k.2 ≤ 500 ∧ keyB k.1 = true := by
 obtain ⟨t, ht, hkt⟩ := List.mem_flatMap.1 hk
 obtain ⟨e, h1, h2⟩ := mem_nos hkt
 obtain ⟨o1, o2, o3, -⟩ := h.one t ht
 have hT := titleOf_mem h.diff ht
 rw [← e] at hT
 refine ⟨⟨t, hT⟩, ?_, h1, by omega, by rw [e]; exact o1⟩
 unfold isCopyT
 rw [hT]
 simp [outB]
 omega
def pairOf (k : IdV) : ByteArray × ByteArray := (k.1, itoaL k.2)
def stockL (T : List TitleV) (L : LibS) : List (ByteArray × ByteArray) := T.map fun t => (t.piece, itoaL (cntT L t [inW]))
/-- The copies that somebody saw, behind what is wrong. -/
def seenF (T : List TitleV) : List IdV → List (ByteArray × ByteArray) → List IdV × Int
 | out, [] => (out, 0)
 | out, x :: r => if titleOf T x.1 = none then ([],8) else if numOk 4 x.2 = false then ([],9) else if isCopyT T (x.1, numV x.2) = false then ([],8) else if (x.1, numV x.2) ∈ out then ([],6) else seenF T (out ++ [(x.1, numV x.2)]) r
def missL (T : List TitleV) (L : LibS) (C : List IdV) : List (ByteArray × ByteArray) := ((idsT T).filter fun k => inP L k && decide (k ∉ C)).map pairOf
def wrongL (L : LibS) (C : List IdV) : List (ByteArray × ByteArray) := (C.filter fun k => !inP L k).map pairOf
theorem num_read4 {n : Nat} (h : n < 10000) : numOk 4 (itoaL n) = true ∧ numV (itoaL n) = n := num_readM (m := 4) (by omega) (by decide)
theorem seen_all {T : List TitleV} (h : TitlesOk T) : ∀ (r out : List IdV), (∀ k ∈ r, k ∈ idsT T) → (out ++ r).Nodup → seenF T out (r.map pairOf) = (out ++ r, 0)
 | [], out, _, _ => by simp [seenF]
 | k :: r, out, hm, hn => by
   obtain ⟨⟨t, ht⟩, h2, h3, h4, -⟩ := ids_copy h (hm k List.mem_cons_self)
   have hk : ((k.2.toNat : Nat) : Int) = k.2 := by omega
   have h5 := num_read4 (n := k.2.toNat) (by omega)
   rw [hk] at h5
   obtain ⟨h5, h6⟩ := h5
   have e : (pairOf k).1 = k.1 := rfl
   have e2 : (pairOf k).2 = itoaL k.2 := rfl
   have hnk : k ∉ out := fun hk => by
    have := (List.nodup_append.1 hn).2.2 k hk k List.mem_cons_self
    exact this rfl
   rw [List.map_cons, seenF, e, e2, ht, if_neg (by simp), h5, if_neg (by simp), h6, show ((k.1, k.2) : IdV) = k from rfl, h2, if_neg (by simp), if_neg hnk, seen_all h r (out ++ [k]) (fun z hz => hm z (List.mem_cons_of_mem _ hz)) (by simpa using hn)]
   simp
theorem counted {T : List TitleV} (h : TitlesOk T) (L : LibS) : missL T L [] = (insT T L).map pairOf ∧ seenF T [] ((insT T L).map pairOf) = (insT T L, 0) ∧ missL T L (insT T L) = [] ∧ wrongL L (insT T L) = [] := by
 have hn : (insT T L).Nodup := List.Pairwise.filter _ (ids_nodup h.diff)
 refine ⟨?_, ?_, ?_, ?_⟩
 ·unfold missL insT
  congr 1
  refine List.filter_congr fun k _ => by simp
 ·have := seen_all h (insT T L) [] (fun k hk => (List.mem_filter.1 hk).1) (by simpa using hn)
  simpa using this
 ·unfold missL
  rw [List.filter_eq_nil_iff.2, List.map_nil]
  intro k hk
  simp only [Bool.and_eq_true, decide_eq_true_eq, not_and, Decidable.not_not]
  exact fun hi => List.mem_filter.2 ⟨hk, hi⟩
 ·unfold wrongL
  rw [List.filter_eq_nil_iff.2, List.map_nil]
  intro k hk
  rw [(List.mem_filter.1 hk).2]
  simp
end Go.Proofs.YtehboinleolihaaGreatDoor
namespace Go.Proofs.YtehboinleolihaaGreatDoor
open Go Go.RowKit Go.Sort
end Go.Proofs.YtehboinleolihaaGreatDoor
