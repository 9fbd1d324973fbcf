/- Without the refused slips all is as it was: plain. Conditions: as each theorem says. The order of slips is what a stable sort of their places gives: plain. Conditions: as each theorem says. What is in, counted and seen: plain. Conditions: as each theorem says. -/
import Derived.Test.YtehboinleolihaaGreatDoorRzJ18
import Derived.Test.YtehboinleolihaaGreatDoorRzJ10
set_option linter.unusedSimpArgs false
set_option linter.unusedVariables false
namespace Go.Proofs.YtehboinleolihaaGreatDoor
open Go Go.RowKit Go.Sort

theorem slipD_same {T : List TitleV} {r : LendR} {L : LibS} {x : SlipV} (h : (slipD T r L x).2 ≠ 0) : (slipD T r L x).1 = L := by
  unfold slipD lendD at h ⊢
  repeat' split at h
  all_goals first
    | exact absurd rfl h
    | (simp only [*, if_true, if_false] at *)
  all_goals first
    | rfl
    | simp [*]
abbrev getS (d : List SlipV) (i : Nat) : SlipV := d.getD i default
/-- The slips that are not refused when all are followed. -/
def goodI (T : List TitleV) (r : LendR) (d : List SlipV) : LibS → List Nat → List Nat
  | _, [] => []
  | L, i :: is => if (slipD T r L (getS d i)).2 = 0 then i :: goodI T r d (slipD T r L (getS d i)).1 is else goodI T r d L is
theorem run_cons {T : List TitleV} {r : LendR} {d : List SlipV} (s : RunS) (i : Nat) (is : List Nat) : runR T r d s (i :: is) = runR T r d (stepR T r d s i) is := rfl
theorem run_good {T : List TitleV} {r : LendR} {d : List SlipV} : ∀ (is : List Nat) (L : LibS) (F G : Int → Option Int), (runR T r d (L, F) is).1 = (runR T r d (L, G) (goodI T r d L is)).1 ∧ (runR T r d (L, G) (goodI T r d L is)).2 = G
  | [], L, F, G => ⟨rfl, rfl⟩
  | i :: is, L, F, G => by
    unfold goodI
    rw [run_cons]
    by_cases h : (slipD T r L (getS d i)).2 = 0
    · rw [if_pos h, run_cons]
      unfold stepR
      simp only
      rw [if_pos h, if_pos h]
      exact run_good is _ F G
    · rw [if_neg h]
      unfold stepR
      simp only
      rw [if_neg h]
      have e : (slipD T r L (d.getD i default)).1 = L := slipD_same h
      rw [e]
      exact run_good is L _ G
theorem run_far {T : List TitleV} {r : LendR} {d : List SlipV} : ∀ (is : List Nat) (s : RunS) (j : Nat), j ∉ is → (runR T r d s is).2 (j : Int) = s.2 (j : Int)
  | [], s, j, _ => rfl
  | i :: is, s, j, h => by
    rw [run_cons, run_far is _ j fun hm => h (List.mem_cons_of_mem _ hm)]
    unfold stepR
    simp only
    split
    · rfl
    · unfold setF
      rw [if_neg]
      intro e
      have : j = i := by exact_mod_cast e
      exact h (this ▸ List.mem_cons_self)
theorem good_filter {T : List TitleV} {r : LendR} {d : List SlipV} : ∀ (is : List Nat) (L : LibS) (F : Int → Option Int), is.Nodup → (∀ i ∈ is, F (i : Int) = none) → is.filter (fun i : Nat => decide ((runR T r d (L, F) is).2 (i : Int) = none)) = goodI T r d L is
  | [], L, F, _, _ => rfl
  | i :: is, L, F, hn, hF => by
    obtain ⟨h1, h2⟩ := List.nodup_cons.1 hn
    unfold goodI
    rw [run_cons, List.filter_cons, run_far is _ i h1]
    unfold stepR
    simp only
    by_cases h : (slipD T r L (getS d i)).2 = 0
    · rw [if_pos h, if_pos h, if_pos (by simpa using hF i List.mem_cons_self)]
      rw [good_filter is _ F h2 fun j hj => hF j (List.mem_cons_of_mem _ hj)]
    · rw [if_neg h, if_neg h, if_neg (by simp [setF])]
      have e : (slipD T r L (d.getD i default)).1 = L := slipD_same h
      rw [e]
      refine good_filter is L _ h2 fun j hj => ?_
      unfold setF
      rw [if_neg]
      · exact hF j (List.mem_cons_of_mem _ hj)
      · intro e2
        have : j = i := by exact_mod_cast e2
        exact h1 (this ▸ hj)
def runV (T : List TitleV) (r : LendR) : LibS → List SlipV → LibS
  | L, [] => L
  | L, x :: xs => runV T r (slipD T r L x).1 xs
def okV (T : List TitleV) (r : LendR) : LibS → List SlipV → Prop
  | _, [] => True
  | L, x :: xs => (slipD T r L x).2 = 0 ∧ okV T r (slipD T r L x).1 xs
theorem run_V {T : List TitleV} {r : LendR} {d : List SlipV} : ∀ (is : List Nat) (s : RunS), (runR T r d s is).1 = runV T r s.1 (is.map (getS d))
  | [], s => rfl
  | i :: is, s => by rw [run_cons, run_V is]; rfl
theorem run_okV {T : List TitleV} {r : LendR} {d : List SlipV} : ∀ (is : List Nat) (s : RunS), okV T r s.1 (is.map (getS d)) → (runR T r d s is).2 = s.2
  | [], s, _ => rfl
  | i :: is, s, h => by
    rw [List.map_cons] at h
    obtain ⟨h1, h2⟩ := h
    rw [run_cons, run_okV is _ h2]
    unfold stepR
    simp only
    rw [if_pos h1]
theorem good_okV {T : List TitleV} {r : LendR} {d : List SlipV} : ∀ (is : List Nat) (L : LibS), okV T r L ((goodI T r d L is).map (getS d))
  | [], L => trivial
  | i :: is, L => by
    unfold goodI
    by_cases h : (slipD T r L (getS d i)).2 = 0
    · rw [if_pos h, List.map_cons]
      exact ⟨h, good_okV is _⟩
    · rw [if_neg h]
      exact good_okV is L
/-- The order up to a moment begins the order up to a later one. -/
theorem ord_split {d : List SlipV} {t E : Int} (h : t ≤ E) : ordF d E = ordF d t ++ (ordF d E).filter fun i => decide (¬ atD d i ≤ t) := by
  refine (ord_is ?_ ?_).symm
  · have e : (selF d E).filter (fun i => decide (atD d i ≤ t)) = selF d t := by
      unfold selF
      rw [List.filter_filter]
      refine List.filter_congr fun i _ => ?_
      simp only [← Bool.decide_and, decide_eq_decide]
      omega
    have h1 : ((selF d E).filter (fun i => decide (atD d i ≤ t)) ++ (selF d E).filter fun i => !decide (atD d i ≤ t)).Perm (selF d E) := List.filter_append_perm _ _
    rw [e] at h1
    refine (List.Perm.append (ord_perm d t) ?_).trans h1
    have h2 := (ord_perm d E).filter fun i => decide (¬ atD d i ≤ t)
    refine h2.trans ?_
    rw [List.filter_congr fun i _ => by rw [decide_not]]
  · refine List.pairwise_append.2 ⟨ord_rise d t, (ord_rise d E).filter _, fun a ha b hb => ?_⟩
    have h1 := (mem_ord.1 ha).2
    have h2 := (List.mem_filter.1 hb).2
    simp only [decide_eq_true_eq] at h2
    unfold ByAt
    omega
def ltA (a b : SlipV) : Prop := a.at_ < b.at_ ∨ (a.at_ = b.at_ ∧ sliLt a b)
theorem ltA_asym {a b : SlipV} (h : ltA a b) (k : ltA b a) : False := by
  rcases h with h | ⟨h, h'⟩ <;> rcases k with k | ⟨k, k'⟩
  · omega
  · omega
  · omega
  · exact sliLt_asym h' k'
theorem getS_range (d : List SlipV) : (List.range d.length).map (getS d) = d := by
  refine List.ext_getElem (by simp) fun i h1 h2 => ?_
  simp [getS, List.getD_eq_getElem?_getD, List.getElem?_eq_getElem h2]
theorem sel_map (d : List SlipV) (t : Int) : (selF d t).map (getS d) = d.filter fun x => decide (x.at_ ≤ t) := by
  have h : d.filter (fun x => decide (x.at_ ≤ t)) = ((List.range d.length).map (getS d)).filter fun x => decide (x.at_ ≤ t) := by rw [getS_range]
  rw [h, List.filter_map]
  rfl
theorem ord_ltA {d : List SlipV} (hd : d.Pairwise sliLt) (t : Int) {is : List Nat} (hs : is.Sublist (ordF d t)) : (is.map (getS d)).Pairwise ltA := by
  rw [List.pairwise_map]
  have h1 := (ord_rise d t).sublist hs
  have h2 : is.Pairwise fun a b => a < d.length ∧ b < d.length := by
    refine List.pairwise_iff_getElem.2 fun i j hi hj _ => ⟨?_, ?_⟩
    · exact (mem_ord.1 (hs.subset (List.getElem_mem hi))).1
    · exact (mem_ord.1 (hs.subset (List.getElem_mem hj))).1
  refine (h1.and h2).imp fun {a b} h => ?_
  obtain ⟨h, ha, hb⟩ := h
  rcases h with h | ⟨h, h'⟩
  · exact .inl h
  · refine .inr ⟨h, ?_⟩
    have := List.pairwise_iff_getElem.1 hd a b ha hb h'
    simpa [getS, List.getD_eq_getElem?_getD, List.getElem?_eq_getElem ha, List.getElem?_eq_getElem hb] using this
/-- The slips that are not refused, in their order. -/
def keepL (d : List SlipV) (R : Int → Option Int) (k : Nat) : List SlipV := ((List.range k).filter fun i : Nat => decide (R (i : Int) = none)).map (getS d)
theorem keep_succ {d : List SlipV} {R : Int → Option Int} {k : Nat} {x : SlipV} (hx : d[k]? = some x) : keepL d R (k + 1) = if R (k : Int) = none then keepL d R k ++ [x] else keepL d R k := by
  unfold keepL
  rw [List.range_succ, List.filter_append, List.map_append]
  by_cases h : R (k : Int) = none
  · rw [if_pos h, List.filter_cons_of_pos (by simpa using h)]
    simp [getS, List.getD_eq_getElem?_getD, hx]
  · rw [if_neg h, List.filter_cons_of_neg (by simpa using h)]
    simp
theorem keep_sub (d : List SlipV) (R : Int → Option Int) : (keepL d R d.length).Sublist d := by
  have h : (keepL d R d.length).Sublist ((List.range d.length).map (getS d)) := List.Sublist.map _ List.filter_sublist
  rwa [getS_range] at h
theorem keep_len (d : List SlipV) (R : Int → Option Int) (k : Nat) : (keepL d R k).length ≤ k := by
  unfold keepL
  rw [List.length_map]
  exact Nat.le_trans (List.length_filter_le _ _) (by simp)
theorem without_refused {T : List TitleV} {r : LendR} {d : List SlipV} (hd : RightS d) {t E : Int} (h : t ≤ E) :
    (libAt T r (keepL d (libAt T r d E).2 d.length) t).1 = (libAt T r d t).1 ∧ (libAt T r (keepL d (libAt T r d E).2 d.length) t).2 = fun _ => none := by
  have hn0 := ord_nodup d E
  have hsp := ord_split (d := d) h
  have hR : ∀ i ∈ ordF d t, (libAt T r d E).2 (i : Int) = (libAt T r d t).2 (i : Int) := by
    intro i hi
    have e : libAt T r d E = runR T r d (libAt T r d t) ((ordF d E).filter fun i => decide (¬ atD d i ≤ t)) := by
      unfold libAt
      conv => lhs; rw [hsp]
      unfold runR
      rw [List.foldl_append]
    rw [e, run_far]
    intro hm
    have h1 := (List.mem_filter.1 hm).2
    have h2 := (mem_ord.1 hi).2
    simp only [decide_eq_true_eq] at h1
    exact h1 h2
  have hg : (ordF d t).filter (fun i : Nat => decide ((libAt T r d E).2 (i : Int) = none)) = goodI T r d LibS.new (ordF d t) := by
    rw [← good_filter (T := T) (r := r) (d := d) (ordF d t) LibS.new (fun _ => none) (ord_nodup d t) fun _ _ => rfl]
    refine List.filter_congr fun i hi => ?_
    rw [hR i hi]
    rfl
  generalize hRE : (libAt T r d E).2 = R at *
  have hrg := hd.sub (keep_sub d R)
  have e : (ordF (keepL d R d.length) t).map (getS (keepL d R d.length)) = (goodI T r d LibS.new (ordF d t)).map (getS d) := by
    refine same_of (r := ltA) (fun _ _ => ltA_asym) (ord_ltA hrg.rise t (List.Sublist.refl _)) (ord_ltA hd.rise t (by rw [← hg]; exact List.filter_sublist)) ?_
    refine ((ord_perm _ t).map _).trans ?_
    rw [sel_map, ← hg]
    refine List.Perm.trans ?_ (((ord_perm d t).filter _).map _).symm
    unfold keepL selF
    rw [List.filter_map, List.filter_filter, List.filter_filter]
    refine List.Perm.of_eq ?_
    congr 1
    refine List.filter_congr fun i _ => ?_
    rw [Bool.and_comm]
    rfl
  have h1 := run_good (T := T) (r := r) (d := d) (ordF d t) LibS.new (fun _ => none) (fun _ => none)
  constructor
  · unfold libAt
    rw [run_V, h1.1, run_V]
    simp only
    rw [e]
  · unfold libAt
    exact run_okV _ _ (by simp only; rw [e]; exact good_okV _ _)
/-! ### which slips are refused -/
theorem run_keys {T : List TitleV} {r : LendR} {d : List SlipV} : ∀ (is : List Nat) (s : RunS) (i : Int), (runR T r d s is).2 i ≠ none → s.2 i ≠ none ∨ ∃ j ∈ is, i = (j : Int)
  | [], s, i, h => .inl h
  | j :: is, s, i, h => by
    rw [run_cons] at h
    rcases run_keys is _ i h with h1 | ⟨k, hk, e⟩
    · unfold stepR at h1
      simp only at h1
      split at h1
      · exact .inl h1
      · unfold setF at h1
        split at h1
        · rename_i e; exact .inr ⟨j, List.mem_cons_self, e⟩
        · exact .inl h1
    · exact .inr ⟨k, List.mem_cons_of_mem _ hk, e⟩
/-- The places of the refused slips, in order. -/
def refL (R : Int → Option Int) (n : Nat) : List Nat := (List.range n).filter fun i : Nat => decide (R (i : Int) ≠ none)
theorem ref_mem {T : List TitleV} {r : LendR} {d : List SlipV} {t : Int} (i : Int) : ((libAt T r d t).2 i).isSome = true ↔ ∃ j ∈ refL (libAt T r d t).2 d.length, i = (j : Int) := by
  constructor
  · intro h
    have h1 : (libAt T r d t).2 i ≠ none := fun e => by rw [e] at h; cases h
    rcases run_keys _ _ _ h1 with h2 | ⟨j, hj, rfl⟩
    · exact absurd rfl h2
    · exact ⟨j, List.mem_filter.2 ⟨List.mem_range.2 (mem_ord.1 hj).1, by simpa using h1⟩, rfl⟩
  · rintro ⟨j, hj, rfl⟩
    have h1 := (List.mem_filter.1 hj).2
    simp only [decide_eq_true_eq] at h1
    cases e : (libAt T r d t).2 (j : Int) with
    | none => exact absurd e h1
    | some _ => rfl
theorem ref_rise (R : Int → Option Int) (n : Nat) : (refL R n).Pairwise (· < ·) := List.Pairwise.filter _ List.pairwise_lt_range
theorem ref_len (R : Int → Option Int) (n : Nat) : (refL R n).length ≤ n := Nat.le_trans (List.length_filter_le _ _) (by simp)
theorem ref_lt {R : Int → Option Int} {n i : Nat} (h : i ∈ refL R n) : i < n := List.mem_range.1 (List.mem_filter.1 h).1
def whyL (R : Int → Option Int) (B : List Nat) : List Int := B.map fun i : Nat => (R (i : Int)).getD 0
end Go.Proofs.YtehboinleolihaaGreatDoor

namespace Go.Proofs.YtehboinleolihaaGreatDoor
open Go Go.RowKit Go.Sort

def cmpAt (d : List SlipV) {m : Nat} (a b : Fin (m + 1)) : Int := atD d a.val - atD d b.val
def ltAt (d : List SlipV) {m : Nat} (a b : Fin (m + 1)) : Bool := decide (ByAt d a.val b.val)
theorem ltAt_swo (d : List SlipV) (m : Nat) : SWO (ltAt (m := m) d) where
  irrefl x := by unfold ltAt; rw [decide_eq_false_iff_not]; exact fun h => byAt_asym h h
  trans x y z h1 h2 := by unfold ltAt at *; rw [decide_eq_true_iff] at *; exact byAt_trans h1 h2
  ntrans x y z h1 h2 := by
    unfold ltAt at *
    rw [decide_eq_false_iff_not] at *
    unfold ByAt at *
    omega
theorem ord_ins {d : List SlipV} {m : Nat} (t : Int) {P : List (Fin (m + 1))} (hP : P.map Fin.val = selF d t) :
    ((insertionSort (ltOf (cmpAt (m := m) d)) P.toArray 0 P.length).toList.map Fin.val) = ordF d t := by
  have hlt : P.Pairwise fun a b => a.val < b.val := by
    have h1 : (selF d t).Pairwise (· < ·) := List.Pairwise.filter _ List.pairwise_lt_range
    rw [← hP, List.pairwise_map] at h1
    exact h1
  have h := insertionSort_congr (lt := ltOf (cmpAt (m := m) d)) (lt2 := ltAt d) (R := fun x y => x.val < y.val) (fun x y h => by
    unfold ltOf cmpAt ltAt
    rw [Bool.eq_iff_iff, decide_eq_true_iff, decide_eq_true_iff]
    unfold ByAt
    omega) P.toArray (fun p q hpq hq => by
    simp at hq
    have e1 : P.toArray[p]! = P[p] := by simp [getElem!_pos, show p < P.length by omega]
    have e2 : P.toArray[q]! = P[q] := by simp [getElem!_pos, hq]
    rw [e1, e2]
    exact List.pairwise_iff_getElem.1 hlt p q (by omega) hq hpq)
  have e : P.toArray.size = P.length := by simp
  rw [e] at h
  rw [h]
  have h2 := insertionSort_holds (lt := ltAt (m := m) d) (ltAt_swo d m) P.toArray 0 P.length (Nat.zero_le _) (by simp)
  generalize insertionSort (ltAt (m := m) d) P.toArray 0 P.length = D at h2
  obtain ⟨hp, hs⟩ := h2
  have hsz : D.size = P.length := by have := hp.1; simpa using this
  have hperm : D.toList.Perm P := by
    have h9 := hp.2.2
    have e2 : D.extract 0 P.length = D := by simp [← hsz]
    rw [e2] at h9
    simpa using h9
  have hpv : (D.toList.map Fin.val).Perm (selF d t) := by rw [← hP]; exact hperm.map _
  refine ord_is hpv ?_
  have hnd : (D.toList.map Fin.val).Nodup := hpv.nodup_iff.2 (sel_nodup d t)
  unfold List.Nodup at hnd
  rw [List.pairwise_map] at hnd ⊢
  rw [List.pairwise_iff_getElem] at hnd ⊢
  intro i j hi hj hij
  have h1 := hnd i j hi hj hij
  have h9 := hs i j (Nat.zero_le _) hij (by simp at hj; omega)
  simp at hi hj
  rw [getElem!_pos D j hj, getElem!_pos D i hi] at h9
  unfold ltAt at h9
  rw [decide_eq_false_iff_not] at h9
  exact (byAt_tri h1).resolve_right h9
theorem ord_nil {d : List SlipV} {t : Int} (h : selF d t = []) : ordF d t = [] := by
  have := ord_perm d t
  rw [h] at this
  exact this.eq_nil
/-- Places below a bound as numbers of a finite type. -/
theorem fin_list {m : Nat} : ∀ {P : List Nat}, (∀ i ∈ P, i < m + 1) → ∃ Q : List (Fin (m + 1)), Q.map Fin.val = P
  | [], _ => ⟨[], rfl⟩
  | i :: P, h => by
    obtain ⟨Q, hQ⟩ := fin_list (P := P) fun j hj => h j (List.mem_cons_of_mem _ hj)
    exact ⟨⟨i, h i List.mem_cons_self⟩ :: Q, by rw [List.map_cons, hQ]⟩
def selK (d : List SlipV) (t : Int) (k : Nat) : List Nat := (List.range k).filter fun i => decide (atD d i ≤ t)
theorem selK_succ (d : List SlipV) (t : Int) (k : Nat) : selK d t (k + 1) = if atD d k ≤ t then selK d t k ++ [k] else selK d t k := by
  unfold selK
  rw [List.range_succ, List.filter_append]
  by_cases h : atD d k ≤ t
  · rw [if_pos h, List.filter_cons_of_pos (by simpa using h)]; rfl
  · rw [if_neg h, List.filter_cons_of_neg (by simpa using h)]; simp
theorem selK_all (d : List SlipV) (t : Int) : selK d t d.length = selF d t := rfl
theorem selK_len (d : List SlipV) (t : Int) (k : Nat) : (selK d t k).length ≤ k := Nat.le_trans (List.length_filter_le _ _) (by simp)
end Go.Proofs.YtehboinleolihaaGreatDoor

namespace Go.Proofs.YtehboinleolihaaGreatDoor
open Go Go.RowKit Go.Sort

instance memDecI (a : IdV) (l : List IdV) : Decidable (a ∈ l) := decidable_of_iff ((l.any fun z => decide (z = a)) = true) (by simp)
abbrev DiffT (T : List TitleV) : Prop := T.Pairwise fun a b => a.piece ≠ b.piece
theorem TitlesOk.diff {T : List TitleV} (h : TitlesOk T) : DiffT T := h.rise.imp fun {a b} hl e => by
  rw [e, cmpS_refl] at hl
  cases hl
theorem titleOf_mem {T : List TitleV} (h : DiffT T) {t : TitleV} (ht : t ∈ T) : titleOf T t.piece = some t := by
  induction T with
  | nil => cases ht
  | cons a T ih =>
    obtain ⟨h1, h2⟩ := List.pairwise_cons.1 h
    unfold titleOf
    by_cases e : a.piece = t.piece
    · rcases List.mem_cons.1 ht with rfl | ht
      · simp
      · exact absurd e (h1 t ht)
    · rw [List.find?_cons_of_neg (by simpa using e)]
      rcases List.mem_cons.1 ht with rfl | ht
      · exact absurd rfl e
      · exact ih h2 ht
theorem titleOf_get {T : List TitleV} {p : ByteArray} {t : TitleV} (h : titleOf T p = some t) : t ∈ T ∧ t.piece = p := by
  unfold titleOf at h
  exact ⟨List.mem_of_find?_eq_some h, by simpa using List.find?_some h⟩
/-- All copies of a title; all copies. -/
def nosT (t : TitleV) : List IdV := (List.range t.owned.toNat).map fun i => (t.piece, ((i + 1 : Nat) : Int))
def idsT (T : List TitleV) : List IdV := T.flatMap nosT
def inP (L : LibS) (k : IdV) : Bool := decide (L.at_ k = inW)
def insT (T : List TitleV) (L : LibS) : List IdV := (idsT T).filter (inP L)
theorem mem_nos {t : TitleV} {k : IdV} (h : k ∈ nosT t) : k.1 = t.piece ∧ 1 ≤ k.2 ∧ k.2 ≤ t.owned := by
  unfold nosT at h
  obtain ⟨i, hi, rfl⟩ := List.mem_map.1 h
  rw [List.mem_range] at hi
  exact ⟨rfl, by simp; omega, by simp; omega⟩
theorem nos_nodup (t : TitleV) : (nosT t).Nodup := by
  unfold nosT
  refine List.pairwise_map.2 ((List.nodup_range).imp fun {a b} hab e => hab ?_)
  have := congrArg Prod.snd e
  simp at this
  omega
theorem ids_nodup {T : List TitleV} (h : DiffT T) : (idsT T).Nodup := by
  induction T with
  | nil => exact List.Pairwise.nil
  | cons a T ih =>
    obtain ⟨h1, h2⟩ := List.pairwise_cons.1 h
    have e : idsT (a :: T) = nosT a ++ idsT T := rfl
    rw [e]
    refine List.nodup_append.2 ⟨nos_nodup a, ih h2, fun x hx y hy e => ?_⟩
    subst e
    obtain ⟨t, ht, hxt⟩ := List.mem_flatMap.1 hy
    exact h1 t ht ((mem_nos hx).1.symm.trans (mem_nos hxt).1)
theorem ids_copy {T : List TitleV} (h : TitlesOk T) {k : IdV} (hk : k ∈ idsT T) : (∃ t, titleOf T k.1 = some t) ∧ isCopyT T k = true ∧ 1 ≤ k.2 ∧ k.2 ≤ 500 ∧ keyB k.1 = true := by
  obtain ⟨t, ht, hkt⟩ := List.mem_flatMap.1 hk
  obtain ⟨e, h1, h2⟩ := mem_nos hkt
  obtain ⟨o1, o2, o3, -⟩ := h.one t ht
  have hT := titleOf_mem h.diff ht
  rw [← e] at hT
  refine ⟨⟨t, hT⟩, ?_, h1, by omega, by rw [e]; exact o1⟩
  unfold isCopyT
  rw [hT]
  simp [outB]
  omega
def pairOf (k : IdV) : ByteArray × ByteArray := (k.1, itoaL k.2)
/-- The copies that somebody saw, behind what is wrong. -/
def seenF (T : List TitleV) : List IdV → List (ByteArray × ByteArray) → List IdV × Int
  | out, [] => (out, 0)
  | out, x :: r => if titleOf T x.1 = none then ([], 8) else if numOk 4 x.2 = false then ([], 9) else if isCopyT T (x.1, numV x.2) = false then ([], 8) else if (x.1, numV x.2) ∈ out then ([], 6) else seenF T (out ++ [(x.1, numV x.2)]) r
def missL (T : List TitleV) (L : LibS) (C : List IdV) : List (ByteArray × ByteArray) := ((idsT T).filter fun k => inP L k && decide (k ∉ C)).map pairOf
def wrongL (L : LibS) (C : List IdV) : List (ByteArray × ByteArray) := (C.filter fun k => !inP L k).map pairOf
theorem num_read4 {n : Nat} (h : n < 10000) : numOk 4 (itoaL n) = true ∧ numV (itoaL n) = n := num_readM (m := 4) (by omega) (by decide)
theorem seen_all {T : List TitleV} (h : TitlesOk T) : ∀ (r out : List IdV), (∀ k ∈ r, k ∈ idsT T) → (out ++ r).Nodup → seenF T out (r.map pairOf) = (out ++ r, 0)
  | [], out, _, _ => by simp [seenF]
  | k :: r, out, hm, hn => by
    obtain ⟨⟨t, ht⟩, h2, h3, h4, -⟩ := ids_copy h (hm k List.mem_cons_self)
    have hk : ((k.2.toNat : Nat) : Int) = k.2 := by omega
    have h5 := num_read4 (n := k.2.toNat) (by omega)
    rw [hk] at h5
    obtain ⟨h5, h6⟩ := h5
    have e : (pairOf k).1 = k.1 := rfl
    have e2 : (pairOf k).2 = itoaL k.2 := rfl
    have hnk : k ∉ out := fun hk => by
      have := (List.nodup_append.1 hn).2.2 k hk k List.mem_cons_self
      exact this rfl
    rw [List.map_cons, seenF, e, e2, ht, if_neg (by simp), h5, if_neg (by simp), h6, show ((k.1, k.2) : IdV) = k from rfl, h2, if_neg (by simp), if_neg hnk, seen_all h r (out ++ [k]) (fun z hz => hm z (List.mem_cons_of_mem _ hz)) (by simpa using hn)]
    simp
theorem counted {T : List TitleV} (h : TitlesOk T) (L : LibS) : missL T L [] = (insT T L).map pairOf ∧ seenF T [] ((insT T L).map pairOf) = (insT T L, 0) ∧ missL T L (insT T L) = [] ∧ wrongL L (insT T L) = [] := by
  have hn : (insT T L).Nodup := List.Pairwise.filter _ (ids_nodup h.diff)
  refine ⟨?_, ?_, ?_, ?_⟩
  · unfold missL insT
    congr 1
    refine List.filter_congr fun k _ => by simp
  · have := seen_all h (insT T L) [] (fun k hk => (List.mem_filter.1 hk).1) (by simpa using hn)
    simpa using this
  · unfold missL
    rw [List.filter_eq_nil_iff.2, List.map_nil]
    intro k hk
    simp only [Bool.and_eq_true, decide_eq_true_eq, not_and, Decidable.not_not]
    exact fun hi => List.mem_filter.2 ⟨hk, hi⟩
  · unfold wrongL
    rw [List.filter_eq_nil_iff.2, List.map_nil]
    intro k hk
    rw [(List.mem_filter.1 hk).2]
    simp
end Go.Proofs.YtehboinleolihaaGreatDoor
