/- The places of a stage; the document's search finds what the search that leaves off finds: plain mathematics. Conditions: as each theorem says. -/
import Derived.Test.YtfbegdcmnfkhgaaGreatDoorBtJ38
import Derived.Test.YtfbegdcmnfkhgaaGreatDoorBtJ22
set_option linter.unusedSimpArgs false
set_option linter.unusedVariables false
namespace Go.Proofs.YtfbegdcmnfkhgaaGreatDoor
open Go Go.RowKit

def plRow (wide : List Int) (r : Nat) : List StandV := (List.range (wide.getD r 0).toNat).map fun x : Nat => ⟨⟨#[]⟩, r, x⟩
/-- The places of the rows before r, and x places of row r. -/
def plT (wide : List Int) (r x : Nat) : List StandV := ((List.range r).flatMap fun r => plRow wide r) ++ (plRow wide r).take x
def plA (wide : List Int) : List StandV := (List.range wide.length).flatMap fun r => plRow wide r
theorem plRow_len (wide : List Int) (r : Nat) : (plRow wide r).length = (wide.getD r 0).toNat := by simp [plRow]
theorem plT_zero (wide : List Int) : plT wide 0 0 = [] := by simp [plT]
theorem plT_snoc (wide : List Int) {r x : Nat} (h : x < (wide.getD r 0).toNat) : plT wide r (x + 1) = plT wide r x ++ [⟨⟨#[]⟩, r, x⟩] := by
  unfold plT
  have hx : (plRow wide r)[x]? = some ⟨⟨#[]⟩, r, x⟩ := by unfold plRow; rw [List.getElem?_map, List.getElem?_range h]; rfl
  rw [take_snocL hx, List.append_assoc]
theorem plT_row (wide : List Int) (r : Nat) : plT wide r (wide.getD r 0).toNat = plT wide (r + 1) 0 := by
  unfold plT
  rw [List.take_of_length_le (by rw [plRow_len]; exact Nat.le_refl _), List.range_succ, List.flatMap_append]
  simp
theorem plT_all (wide : List Int) : plT wide wide.length 0 = plA wide := by simp [plT, plA]
def sumT (wide : List Int) (k : Nat) : Int := (wide.take k).foldl (· + ·) 0
theorem sumT_succ {wide : List Int} {k : Nat} {v : Int} (h : wide[k]? = some v) : sumT wide (k + 1) = sumT wide k + v := by unfold sumT; rw [take_snocL h, List.foldl_append]; rfl
theorem sumT_bound {wide : List Int} (h : WideOk wide) : ∀ k, k ≤ wide.length → 0 ≤ sumT wide k ∧ sumT wide k ≤ 30 * k ∧ ((plT wide k 0).length : Int) = sumT wide k
  | 0, _ => by simp [sumT, plT]
  | k + 1, hk => by
    obtain ⟨v, hv⟩ := getD_some (rfl : wide.length = wide.length) (show k < wide.length by omega)
    obtain ⟨i1, i2, i3⟩ := sumT_bound h k (by omega)
    obtain ⟨v1, v2⟩ := h.2 v (List.mem_of_getElem? hv)
    rw [sumT_succ hv]
    refine ⟨by omega, by omega, ?_⟩
    rw [← plT_row]
    have e : wide.getD k 0 = v := by rw [List.getD_eq_getElem?_getD, hv]; rfl
    have e2 : (plT wide k v.toNat).length = (plT wide k 0).length + v.toNat := by
      unfold plT
      rw [List.length_append, List.length_append, List.take_of_length_le (by rw [plRow_len, e]; exact Nat.le_refl _), plRow_len, e]
      simp
    rw [e, e2]
    omega
theorem plA_len {wide : List Int} (h : WideOk wide) : ((plA wide).length : Int) = sumT wide wide.length := by rw [← plT_all]; exact (sumT_bound h _ (Nat.le_refl _)).2.2
theorem plA_mem {wide : List Int} {x : StandV} (hx : x ∈ plA wide) : ∃ r p : Nat, r < wide.length ∧ p < (wide.getD r 0).toNat ∧ x = ⟨⟨#[]⟩, r, p⟩ := by
  obtain ⟨r, hr, hx⟩ := List.mem_flatMap.1 hx
  obtain ⟨p, hp, rfl⟩ := List.mem_map.1 hx
  exact ⟨r, p, List.mem_range.1 hr, List.mem_range.1 hp, rfl⟩
theorem plA_on {wide : List Int} (h : WideOk wide) {x : StandV} (hx : x ∈ plA wide) : OnStage wide x := by
  obtain ⟨r, p, hr, hp, rfl⟩ := plA_mem hx
  obtain ⟨v, hv⟩ := getD_some (rfl : wide.length = wide.length) hr
  have e : wide.getD r 0 = v := by rw [List.getD_eq_getElem?_getD, hv]; rfl
  obtain ⟨v1, v2⟩ := h.2 v (List.mem_of_getElem? hv)
  rw [e] at hp
  unfold OnStage
  simp only
  omega
theorem plA_lt (wide : List Int) : (plA wide).Pairwise (fun a b => ltV a b = true) := by
  unfold plA
  rw [List.pairwise_flatMap]
  constructor
  · intro r _
    unfold plRow
    rw [List.pairwise_map]
    exact (List.pairwise_lt_range).imp fun {a b} h => by simp [ltV]; omega
  · refine (List.pairwise_lt_range).imp fun {a b} h => ?_
    intro x hx y hy
    obtain ⟨p, _, rfl⟩ := List.mem_map.1 hx
    obtain ⟨q, _, rfl⟩ := List.mem_map.1 hy
    simp [ltV]
    omega
theorem ltV_notSame {a b : StandV} (h : ltV a b = true) : sameP a b = false := by
  unfold ltV at h
  unfold sameP
  simp at h ⊢
  omega
theorem sameP_symm (a b : StandV) : sameP a b = sameP b a := by unfold sameP; rw [Bool.eq_iff_iff]; simp; omega
theorem plA_apart (wide : List Int) : AllApart (plA wide) := by
  have h := plA_lt wide
  rw [List.pairwise_iff_getElem] at h
  intro i j x y hx hy hs
  obtain ⟨hi, ex⟩ := List.getElem?_eq_some_iff.1 hx
  obtain ⟨hj, ey⟩ := List.getElem?_eq_some_iff.1 hy
  rcases Nat.lt_trichotomy i j with k | k | k
  · have := ltV_notSame (h i j hi hj k)
    rw [ex, ey, hs] at this
    cases this
  · exact k
  · have := ltV_notSame (h j i hj hi k)
    rw [ex, ey, sameP_symm, hs] at this
    cases this
/-- More places than people: one is free. -/
theorem pigeon : ∀ (l T : List StandV), l.Pairwise (fun a b => sameP a b = false) → (∀ x ∈ l, inT T x = true) → l.length ≤ T.length
  | [], _, _, _ => Nat.zero_le _
  | x :: l, T, hl, h => by
    obtain ⟨p1, q1⟩ := List.pairwise_cons.1 hl
    obtain ⟨y, hy, hs⟩ := List.any_eq_true.1 (h x List.mem_cons_self)
    obtain ⟨T1, T2, rfl⟩ := List.append_of_mem hy
    have := pigeon l (T1 ++ T2) q1 fun z hz => by
      have hz2 := h z (List.mem_cons_of_mem _ hz)
      unfold inT at hz2 ⊢
      rw [List.any_append, List.any_cons] at hz2
      rw [List.any_append]
      cases hzy : sameP z y
      · rw [hzy, Bool.false_or] at hz2; exact hz2
      · have h1 := p1 z hz
        have : sameP x z = true := by unfold sameP at *; simp at *; omega
        rw [this] at h1
        cases h1
    rw [List.length_append] at this
    rw [List.length_append, List.length_cons, List.length_cons]
    omega
section
variable {P : List PersonV} {wide high : List Int} {all : List StandV}
/-- What is kept of all that is found. -/
theorem leF_inv {n : Nat} {R Q : List StandV → Prop} (hR : ∀ T x, R T → T.length < n → x ∈ all → inT T x = false → R (nxt P T x)) (hQ : ∀ T, R T → T.length = n → Q T) : ∀ (m : Nat) (T : List StandV) (st : Int × List StandV), R T → T.length + m = n → Q st.2 → Q (leF P wide high all m T st).2
  | 0, T, st, hT, hm, _ => hQ T hT (by omega)
  | m + 1, T, st, hT, hm, hs => by
    rw [← toF_all]
    have key : ∀ i, i ≤ all.length → Q (toF P wide high all m T st i).2 := by
      intro i
      induction i with
      | zero => intro _; exact hs
      | succ i ih =>
        intro hi
        obtain ⟨x, hx⟩ := getD_some (rfl : all.length = all.length) (show i < all.length by omega)
        rw [toF_succ hx]
        unfold stepF
        split
        · exact ih (by omega)
        · rename_i hin
          split
          · exact leF_inv hR hQ m _ _ (hR T x hT (by omega) (List.mem_of_getElem? hx) (by simpa using hin)) (by rw [nxt_len]; omega) (ih (by omega))
          · exact ih (by omega)
    exact key _ (Nat.le_refl _)
theorem leG_le : ∀ (m : Nat) (T : List StandV) (st : Int × List StandV), (leG P wide high all m T st).1 ≤ st.1
  | 0, T, st => by
    unfold leG
    split
    · simp only; omega
    · exact Int.le_refl _
  | m + 1, T, st => by
    have key : ∀ (l : List StandV) (st : Int × List StandV), (l.foldl (fun st x => if inT T x then st else leG P wide high all m (nxt P T x) st) st).1 ≤ st.1 := by
      intro l
      induction l with
      | nil => intro st; exact Int.le_refl _
      | cons x l ih =>
        intro st
        rw [List.foldl_cons]
        refine Int.le_trans (ih _) ?_
        split
        · exact Int.le_refl _
        · exact leG_le m _ st
    exact key all st
/-- With places enough somebody's stands are found. -/
theorem leG_found (hap : all.Pairwise (fun a b => sameP a b = false)) {n : Nat} (hn : n ≤ all.length) : ∀ (m : Nat) (T : List StandV) (st : Int × List StandV), T.length + m = n → (leG P wide high all m T st).1 ≤ n
  | 0, T, st, hm => by
    have hb := hidT_bound P wide high T
    unfold leG
    split
    · simp only; omega
    · omega
  | m + 1, T, st, hm => by
    have hex : ∃ x ∈ all, inT T x = false := by
      refine Classical.byContradiction fun hno => ?_
      have := pigeon all T hap fun x hx => by
        cases h : inT T x
        · exact absurd ⟨x, hx, h⟩ hno
        · rfl
      omega
    obtain ⟨x, hx, hin⟩ := hex
    obtain ⟨l1, l2, e⟩ := List.append_of_mem hx
    have key : ∀ (l : List StandV) (st : Int × List StandV), (l.foldl (fun st x => if inT T x then st else leG P wide high all m (nxt P T x) st) st).1 ≤ st.1 := by
      intro l
      induction l with
      | nil => intro st; exact Int.le_refl _
      | cons x l ih =>
        intro st
        rw [List.foldl_cons]
        refine Int.le_trans (ih _) ?_
        split
        · exact Int.le_refl _
        · exact leG_le m _ st
    have hi := fun st' => leG_found hap hn m (nxt P T x) st' (by rw [nxt_len]; omega)
    have e3 : leG P wide high all (m + 1) T st = all.foldl (fun st x => if inT T x then st else leG P wide high all m (nxt P T x) st) st := rfl
    have e4 : all.foldl (fun st x => if inT T x then st else leG P wide high all m (nxt P T x) st) st = l2.foldl (fun st x => if inT T x then st else leG P wide high all m (nxt P T x) st) (leG P wide high all m (nxt P T x) (l1.foldl (fun st x => if inT T x then st else leG P wide high all m (nxt P T x) st) st)) := by
      have : ∀ (l : List StandV), l = l1 ++ x :: l2 → l.foldl (fun st x => if inT T x then st else leG P wide high all m (nxt P T x) st) st = l2.foldl (fun st x => if inT T x then st else leG P wide high all m (nxt P T x) st) (leG P wide high all m (nxt P T x) (l1.foldl (fun st x => if inT T x then st else leG P wide high all m (nxt P T x) st) st)) := fun l hl => by
        rw [hl, List.foldl_append, List.foldl_cons, hin]
        rfl
      exact this all e
    rw [e3, e4]
    exact Int.le_trans (key l2 _) (hi _)
/-- The document's search: -1 as long as nothing was found. -/
def leR (P : List PersonV) (wide high : List Int) (all : List StandV) : Nat → List StandV → Int × List StandV → Int × List StandV
  | 0, T, st => if st.1 < 0 ∨ hidT P wide high T < st.1 then (hidT P wide high T, T) else st
  | m + 1, T, st => all.foldl (fun st x => if inT T x then st else leR P wide high all m (nxt P T x) st) st
def stepR (P : List PersonV) (wide high : List Int) (all : List StandV) (m : Nat) (T : List StandV) (st : Int × List StandV) (x : StandV) : Int × List StandV := if inT T x then st else leR P wide high all m (nxt P T x) st
def toR (P : List PersonV) (wide high : List Int) (all : List StandV) (m : Nat) (T : List StandV) (st : Int × List StandV) (i : Nat) : Int × List StandV := (all.take i).foldl (stepR P wide high all m T) st
theorem toR_succ {m : Nat} {T : List StandV} {st : Int × List StandV} {i : Nat} {x : StandV} (h : all[i]? = some x) : toR P wide high all m T st (i + 1) = stepR P wide high all m T (toR P wide high all m T st i) x := by
  unfold toR; rw [take_snocL h, List.foldl_append]; rfl
theorem toR_all (m : Nat) (T : List StandV) (st : Int × List StandV) : toR P wide high all m T st all.length = leR P wide high all (m + 1) T st := by unfold toR; rw [List.take_length]; rfl
def convS (n : Nat) (st : Int × List StandV) : Int × List StandV := (if st.1 = n + 1 then -1 else st.1, st.2)
theorem leR_leG {n : Nat} : ∀ (m : Nat) (T : List StandV) (st : Int × List StandV), T.length + m = n → 0 ≤ st.1 → st.1 ≤ n + 1 → leR P wide high all m T (convS n st) = convS n (leG P wide high all m T st) ∧ 0 ≤ (leG P wide high all m T st).1
  | 0, T, st, hm, h0, h1 => by
    have hb := hidT_bound P wide high T
    unfold leR leG convS
    by_cases h : hidT P wide high T < st.1
    · rw [if_pos h]
      have hc : ((if st.1 = (n : Int) + 1 then (-1 : Int) else st.1) < 0 ∨ hidT P wide high T < (if st.1 = (n : Int) + 1 then (-1 : Int) else st.1)) := by split <;> omega
      rw [if_pos hc]
      refine ⟨?_, hb.1⟩
      rw [if_neg (show ¬ (hidT P wide high T = (n : Int) + 1) by omega)]
    · rw [if_neg h]
      have hne : ¬ st.1 = (n : Int) + 1 := by omega
      rw [if_neg hne]
      refine ⟨?_, h0⟩
      rw [if_neg (by simp only; omega)]
  | m + 1, T, st, hm, h0, h1 => by
    have key : ∀ (l : List StandV) (st : Int × List StandV), 0 ≤ st.1 → st.1 ≤ n + 1 → l.foldl (fun st x => if inT T x then st else leR P wide high all m (nxt P T x) st) (convS n st) = convS n (l.foldl (fun st x => if inT T x then st else leG P wide high all m (nxt P T x) st) st) ∧ 0 ≤ (l.foldl (fun st x => if inT T x then st else leG P wide high all m (nxt P T x) st) st).1 := by
      intro l
      induction l with
      | nil => intro st h0 _; exact ⟨rfl, h0⟩
      | cons x l ih =>
        intro st h0 h1
        rw [List.foldl_cons, List.foldl_cons]
        cases hin : inT T x
        · obtain ⟨k1, k2⟩ := leR_leG m (nxt P T x) st (by rw [nxt_len]; omega) h0 h1
          simp only [Bool.false_eq_true, if_false]
          rw [k1]
          exact ih _ k2 (Int.le_trans (leG_le m _ st) h1)
        · exact ih st h0 h1
    exact key all st h0 h1
/-- Both searches find the same. -/
theorem least_same (hap : all.Pairwise (fun a b => sameP a b = false)) (hn : P.length ≤ all.length) : leR P wide high all P.length [] (-1, []) = leF P wide high all P.length [] (P.length + 1, []) := by
  have h0 := leF_leG (P := P) (wide := wide) (high := high) (all := all) P.length [] (P.length + 1, []) (by have := hidT_bound P wide high []; simp only [List.length_nil] at this ⊢; omega)
  have h1 := (leR_leG (P := P) (wide := wide) (high := high) (all := all) (n := P.length) P.length [] (P.length + 1, []) (by simp) (by simp only; omega) (by simp only; omega)).1
  have h2 := leG_found (P := P) (wide := wide) (high := high) hap hn P.length [] (P.length + 1, []) (by simp)
  have e : convS P.length ((P.length : Int) + 1, []) = (-1, []) := by unfold convS; rw [if_pos rfl]
  rw [e] at h1
  rw [h1, h0]
  unfold convS
  rw [if_neg (by omega)]
end
end Go.Proofs.YtfbegdcmnfkhgaaGreatDoor
