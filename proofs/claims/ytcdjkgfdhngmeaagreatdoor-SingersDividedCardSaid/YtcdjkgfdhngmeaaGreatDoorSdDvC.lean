/- Plain mathematics of dividing singers among parts: the greatest sum, the first of the best divisions, and what the best ones share. Conditions: as each theorem says. -/
import Derived.Test.YtcdjkgfdhngmeaaGreatDoorSdGiF
set_option linter.unusedSimpArgs false
set_option linter.unusedVariables false
namespace Go.Proofs.YtcdjkgfdhngmeaaGreatDoor

def leastP (P : List PartV) (p : Nat) : Int := (P.getD p default).least
def mostP (P : List PartV) (p : Nat) : Int := (P.getD p default).most
def okEnd (P : List PartV) (N : List Nat) : Bool := (List.range P.length).all fun p => decide (leastP P p ≤ (N.getD p 0 : Int))
def incN (N : List Nat) (p : Nat) : List Nat := N.set p (N.getD p 0 + 1)
def maxT (g : Nat → Int) : Nat → Int
  | 0 => -1
  | k + 1 => max (maxT g k) (g k)
def barB (P : List PartV) (r : List Int) (N : List Nat) (p : Nat) : Bool := decide (r.getD p (-1) < 0) || decide ((N.getD p 0 : Int) = mostP P p)
def withV (P : List PartV) (f : List Nat → Int) (r : List Int) (N : List Nat) (p : Nat) : Int :=
  if barB P r N p then -1 else if f (incN N p) = -1 then -1 else f (incN N p) + r.getD p (-1)
/-- The greatest sum of a division of the singers that are left; -1: there is none. -/
def fromF (P : List PartV) : List (List Int) → List Nat → Int
  | [], N => if okEnd P N then 0 else -1
  | r :: rs, N => maxT (withV P (fromF P rs) r N) P.length
/-- All divisions of the singers that are left. -/
def complL (P : List PartV) : List (List Int) → List Nat → List (List Nat)
  | [], N => if okEnd P N then [[]] else []
  | r :: rs, N => (List.range P.length).flatMap fun p => if barB P r N p then [] else (complL P rs (incN N p)).map (p :: ·)
def sumG : List (List Int) → List Nat → Int
  | r :: rs, p :: g => r.getD p (-1) + sumG rs g
  | _, _ => 0
def bestL (P : List PartV) (C : List (List Int)) (N : List Nat) : List (List Nat) := (complL P C N).filter fun g => sumG C g == fromF P C N

theorem maxT_ge (g : Nat → Int) : ∀ k, -1 ≤ maxT g k
  | 0 => Int.le_refl _
  | k + 1 => by have := maxT_ge g k; simp only [maxT]; omega
theorem le_maxT {g : Nat → Int} : ∀ {k j : Nat}, j < k → g j ≤ maxT g k
  | k + 1, j, h => by
    simp only [maxT]
    rcases Nat.lt_or_ge j k with hlt | hge
    · have := le_maxT (g := g) hlt; omega
    · obtain rfl : j = k := by omega
      omega
theorem maxT_hit {g : Nat → Int} : ∀ (k : Nat), maxT g k = -1 ∨ ∃ j, j < k ∧ g j = maxT g k
  | 0 => .inl rfl
  | k + 1 => by
    simp only [maxT]
    rcases Int.le_total (maxT g k) (g k) with h | h
    · exact .inr ⟨k, by omega, by omega⟩
    · rcases maxT_hit (g := g) k with h0 | ⟨j, hj, h1⟩
      · exact .inl (by omega)
      · exact .inr ⟨j, by omega, by omega⟩
section
variable {P : List PartV}
theorem fromF_ge : ∀ (C : List (List Int)) (N : List Nat), -1 ≤ fromF P C N
  | [], N => by simp only [fromF]; split <;> omega
  | r :: rs, N => maxT_ge _ _
theorem bar_pos {r : List Int} {N : List Nat} {p : Nat} (h : barB P r N p = false) : 0 ≤ r.getD p (-1) := by
  unfold barB at h
  simp only [Bool.or_eq_false_iff, decide_eq_false_iff_not] at h
  omega
theorem withV_some {f : List Nat → Int} {r : List Int} {N : List Nat} {p : Nat} (h : withV P f r N p ≠ -1) : barB P r N p = false ∧ f (incN N p) ≠ -1 ∧ withV P f r N p = f (incN N p) + r.getD p (-1) := by
  unfold withV at h ⊢
  cases hb : barB P r N p
  · rw [hb] at h
    simp only [Bool.false_eq_true, if_false] at h ⊢
    by_cases h1 : f (incN N p) = -1
    · rw [if_pos h1] at h; exact absurd rfl h
    · rw [if_neg h1]; exact ⟨trivial, h1, rfl⟩
  · rw [hb] at h
    simp at h
theorem compl_mem {C : List (List Int)} {r : List Int} {N : List Nat} {g : List Nat} : g ∈ complL P (r :: C) N ↔ ∃ p g', g = p :: g' ∧ p < P.length ∧ barB P r N p = false ∧ g' ∈ complL P C (incN N p) := by
  simp only [complL, List.mem_flatMap, List.mem_range]
  constructor
  · rintro ⟨p, hp, hg⟩
    cases hb : barB P r N p
    · rw [hb] at hg
      simp only [Bool.false_eq_true, if_false] at hg
      obtain ⟨g', hg', rfl⟩ := List.mem_map.1 hg
      exact ⟨p, g', rfl, hp, hb, hg'⟩
    · rw [hb] at hg; simp at hg
  · rintro ⟨p, g', rfl, hp, hb, hg'⟩
    refine ⟨p, hp, ?_⟩
    rw [hb]
    simp only [Bool.false_eq_true, if_false]
    exact List.mem_map.2 ⟨g', hg', rfl⟩
theorem compl_le : ∀ (C : List (List Int)) (N : List Nat), ∀ g ∈ complL P C N, 0 ≤ sumG C g ∧ sumG C g ≤ fromF P C N ∧ fromF P C N ≠ -1
  | [], N, g, hg => by
    simp only [complL] at hg
    simp only [fromF]
    cases ho : okEnd P N
    · rw [ho] at hg; simp at hg
    · rw [ho] at hg
      obtain rfl : g = [] := by simpa using hg
      simp [sumG]
  | r :: C, N, g, hg => by
    obtain ⟨p, g', rfl, hp, hb, hg'⟩ := compl_mem.1 hg
    obtain ⟨h1, h2, h3⟩ := compl_le C (incN N p) g' hg'
    have h4 := bar_pos hb
    have h5 := le_maxT (g := withV P (fromF P C) r N) hp
    have h6 : withV P (fromF P C) r N p = fromF P C (incN N p) + r.getD p (-1) := by
      unfold withV
      rw [hb]
      simp only [Bool.false_eq_true, if_false]
      rw [if_neg h3]
    simp only [sumG, fromF]
    omega
theorem best_some : ∀ (C : List (List Int)) (N : List Nat), fromF P C N ≠ -1 → ∃ g, g ∈ bestL P C N
  | [], N, h => by
    refine ⟨[], List.mem_filter.2 ?_⟩
    simp only [fromF, complL] at h ⊢
    cases ho : okEnd P N
    · rw [ho] at h; simp at h
    · simp [sumG]
  | r :: C, N, h => by
    rcases maxT_hit (g := withV P (fromF P C) r N) P.length with h0 | ⟨p, hp, e⟩
    · exact absurd h0 h
    · have hne : withV P (fromF P C) r N p ≠ -1 := by rw [e]; exact h
      obtain ⟨h1, h2, h3⟩ := withV_some hne
      obtain ⟨g, hg⟩ := best_some C (incN N p) h2
      obtain ⟨hg1, hg2⟩ := List.mem_filter.1 hg
      refine ⟨p :: g, List.mem_filter.2 ⟨compl_mem.2 ⟨p, g, rfl, hp, h1, hg1⟩, ?_⟩⟩
      rw [beq_iff_eq] at hg2 ⊢
      simp only [sumG]
      rw [hg2]
      show _ = maxT (withV P (fromF P C) r N) P.length
      rw [← e, h3]
      omega
/-- A best division begins with a part that is best. -/
theorem best_mem {C : List (List Int)} {r : List Int} {N : List Nat} {g : List Nat} (h : fromF P (r :: C) N ≠ -1) :
    g ∈ bestL P (r :: C) N ↔ ∃ p g', g = p :: g' ∧ p < P.length ∧ withV P (fromF P C) r N p = fromF P (r :: C) N ∧ g' ∈ bestL P C (incN N p) := by
  unfold bestL
  rw [List.mem_filter, compl_mem]
  constructor
  · rintro ⟨⟨p, g', rfl, hp, hb, hg'⟩, hs⟩
    rw [beq_iff_eq] at hs
    obtain ⟨h1, h2, h3⟩ := compl_le C (incN N p) g' hg'
    have h5 := le_maxT (g := withV P (fromF P C) r N) hp
    have h6 : withV P (fromF P C) r N p = fromF P C (incN N p) + r.getD p (-1) := by
      unfold withV
      rw [hb]
      simp only [Bool.false_eq_true, if_false]
      rw [if_neg h3]
    have h7 : maxT (withV P (fromF P C) r N) P.length = fromF P (r :: C) N := rfl
    simp only [sumG] at hs
    refine ⟨p, g', rfl, hp, by omega, List.mem_filter.2 ⟨hg', ?_⟩⟩
    rw [beq_iff_eq]; omega
  · rintro ⟨p, g', rfl, hp, hw, hg'⟩
    obtain ⟨h1, h2, h3⟩ := withV_some (by rw [hw]; exact h : withV P (fromF P C) r N p ≠ -1)
    obtain ⟨hg1, hg2⟩ := List.mem_filter.1 hg'
    rw [beq_iff_eq] at hg2
    refine ⟨⟨p, g', rfl, hp, h1, hg1⟩, ?_⟩
    rw [beq_iff_eq]
    simp only [sumG]
    omega
/-- The first number below n with a property. -/
def firstP (q : Nat → Bool) : Nat → Nat → Nat
  | 0, k => k
  | m + 1, k => if q k then k else firstP q m (k + 1)
theorem firstP_hit {q : Nat → Bool} : ∀ {m k : Nat}, (∃ j, k ≤ j ∧ j < k + m ∧ q j = true) → k ≤ firstP q m k ∧ firstP q m k < k + m ∧ q (firstP q m k) = true ∧ ∀ j, k ≤ j → j < firstP q m k → q j = false
  | 0, k, ⟨j, h1, h2, _⟩ => by omega
  | m + 1, k, ⟨j, h1, h2, h3⟩ => by
    simp only [firstP]
    cases hq : q k
    · have hjk : j ≠ k := fun e => by rw [e, hq] at h3; cases h3
      obtain ⟨a, b, c, d⟩ := firstP_hit (q := q) (m := m) (k := k + 1) ⟨j, by omega, by omega, h3⟩
      refine ⟨by simp; omega, by simp; omega, by simpa using c, fun i hi hi2 => ?_⟩
      rcases Nat.lt_or_ge k i with hlt | hge
      · exact d i (by omega) (by simpa using hi2)
      · obtain rfl : i = k := by omega
        exact hq
    · exact ⟨by simp, by simp, by simpa using hq, fun i hi hi2 => by simp at hi2; omega⟩
def pickP (P : List PartV) (C : List (List Int)) (r : List Int) (N : List Nat) : Nat := firstP (fun k => withV P (fromF P C) r N k == fromF P (r :: C) N) P.length 0
/-- The first of the best divisions. -/
def divG (P : List PartV) : List (List Int) → List Nat → List Nat
  | [], _ => []
  | r :: C, N => pickP P C r N :: divG P C (incN N (pickP P C r N))
theorem pickP_hit {C : List (List Int)} {r : List Int} {N : List Nat} (h : fromF P (r :: C) N ≠ -1) : pickP P C r N < P.length ∧ withV P (fromF P C) r N (pickP P C r N) = fromF P (r :: C) N ∧ ∀ j, j < pickP P C r N → withV P (fromF P C) r N j ≠ fromF P (r :: C) N := by
  rcases maxT_hit (g := withV P (fromF P C) r N) P.length with h0 | ⟨p, hp, e⟩
  · exact absurd h0 h
  · obtain ⟨a, b, c, d⟩ := firstP_hit (q := fun k => withV P (fromF P C) r N k == fromF P (r :: C) N) (m := P.length) (k := 0) ⟨p, by omega, by omega, beq_iff_eq.2 e⟩
    refine ⟨by unfold pickP; omega, beq_iff_eq.1 c, fun j hj => ?_⟩
    exact fun e => by have := d j (by omega) hj; rw [beq_eq_false_iff_ne] at this; exact this e
/-- The parts of a best division, behind the first one. -/
def nextsL (P : List PartV) (C : List (List Int)) (r : List Int) (N : List Nat) : List (List Nat) :=
  (List.range P.length).flatMap fun p => if withV P (fromF P C) r N p = fromF P (r :: C) N then (bestL P C (incN N p)).map (p :: ·) else []
theorem filter_flat {α β : Type} (f : α → List β) (q : β → Bool) : ∀ l : List α, (l.flatMap f).filter q = l.flatMap fun a => (f a).filter q
  | [] => rfl
  | a :: l => by rw [List.flatMap_cons, List.filter_append, filter_flat f q l, List.flatMap_cons]
theorem flat_congr {α β : Type} {f g : α → List β} : ∀ {l : List α}, (∀ a ∈ l, f a = g a) → l.flatMap f = l.flatMap g
  | [], _ => rfl
  | a :: l, h => by rw [List.flatMap_cons, List.flatMap_cons, h a (List.mem_cons_self ..), flat_congr fun b hb => h b (List.mem_cons_of_mem _ hb)]
theorem best_flat {C : List (List Int)} {r : List Int} {N : List Nat} (h : fromF P (r :: C) N ≠ -1) : bestL P (r :: C) N = nextsL P C r N := by
  unfold bestL nextsL
  simp only [complL]
  rw [filter_flat]
  refine flat_congr fun p hp => ?_
  have hpl := List.mem_range.1 hp
  cases hb : barB P r N p
  · simp only [Bool.false_eq_true, if_false]
    by_cases hf : fromF P C (incN N p) = -1
    · have hno : complL P C (incN N p) = [] := by
        cases hc : complL P C (incN N p) with
        | nil => rfl
        | cons g l => exact absurd hf (compl_le C (incN N p) g (by rw [hc]; exact List.mem_cons_self ..)).2.2
      have hw : withV P (fromF P C) r N p = -1 := by unfold withV; rw [hb, hf]; simp
      rw [hno, hw, if_neg fun e => h e.symm]
      rfl
    · have hw : withV P (fromF P C) r N p = fromF P C (incN N p) + r.getD p (-1) := by unfold withV; rw [hb, if_neg hf]; simp
      have h5 := le_maxT (g := withV P (fromF P C) r N) hpl
      have h7 : maxT (withV P (fromF P C) r N) P.length = fromF P (r :: C) N := rfl
      rw [List.filter_map]
      by_cases he : withV P (fromF P C) r N p = fromF P (r :: C) N
      · rw [if_pos he]
        congr 1
        refine List.filter_congr fun g hg => ?_
        simp only [Function.comp_apply, sumG]
        rw [Bool.eq_iff_iff, beq_iff_eq, beq_iff_eq]
        omega
      · rw [if_neg he]
        rw [List.filter_eq_nil_iff.2 fun g hg => ?_]
        · rfl
        · have := (compl_le C (incN N p) g hg).2.1
          simp only [Function.comp_apply, sumG, beq_iff_eq]
          omega
  · have hw : withV P (fromF P C) r N p = -1 := by unfold withV; rw [hb]; simp
    simp only [if_true]
    rw [hw, if_neg fun e => h e.symm]
    rfl
/-- The first of the best ones. -/
theorem best_head : ∀ (C : List (List Int)) (N : List Nat), fromF P C N ≠ -1 → ∃ l, bestL P C N = divG P C N :: l
  | [], N, h => by
    unfold bestL
    simp only [fromF, complL, divG] at h ⊢
    cases ho : okEnd P N
    · rw [ho] at h; simp at h
    · exact ⟨[], by simp [sumG]⟩
  | r :: C, N, h => by
    obtain ⟨hp1, hp2, hp3⟩ := pickP_hit h
    obtain ⟨h1, h2, h3⟩ := withV_some (by rw [hp2]; exact h : withV P (fromF P C) r N (pickP P C r N) ≠ -1)
    obtain ⟨l, hl⟩ := best_head C (incN N (pickP P C r N)) h2
    rw [best_flat h]
    unfold nextsL
    simp only [divG]
    generalize pickP P C r N = k at *
    have e : List.range P.length = List.range k ++ (k :: (List.range' (k + 1) (P.length - (k + 1)))) := by
      rw [List.range_eq_range', List.range_eq_range', show k :: List.range' (k + 1) (P.length - (k + 1)) = List.range' k (P.length - k) by
        rw [show P.length - k = (P.length - (k + 1)) + 1 by omega]; rfl]
      have := List.range'_append_1 (s := 0) (m := k) (n := P.length - k)
      rw [Nat.zero_add] at this
      rw [this]
      congr 1
      omega
    rw [e, List.flatMap_append, List.flatMap_cons]
    have hno : ((List.range k).flatMap fun p => if withV P (fromF P C) r N p = fromF P (r :: C) N then (bestL P C (incN N p)).map (p :: ·) else []) = [] := by
      rw [List.flatMap_eq_nil_iff]
      intro p hp
      rw [if_neg (hp3 p (List.mem_range.1 hp))]
    rw [hno, if_pos hp2, hl]
    exact ⟨_, rfl⟩

/-! ### the states that best divisions reach -/
/-- The states behind i singers, when parts that are best are given. -/
def statesP (P : List PartV) (C : List (List Int)) (N0 : List Nat) : Nat → List Nat → Prop
  | 0, N => N = N0
  | i + 1, N => ∃ N' k, statesP P C N0 i N' ∧ k < P.length ∧ withV P (fromF P (C.drop (i + 1))) (C.getD i []) N' k = fromF P (C.drop i) N' ∧ N = incN N' k
def givenP (P : List PartV) (C : List (List Int)) (N0 : List Nat) (i k : Nat) : Prop := ∃ N, statesP P C N0 i N ∧ k < P.length ∧ withV P (fromF P (C.drop (i + 1))) (C.getD i []) N k = fromF P (C.drop i) N
theorem drop_at {C : List (List Int)} {i : Nat} (h : i < C.length) : C.drop i = C.getD i [] :: C.drop (i + 1) := by
  rw [List.drop_eq_getElem_cons h, List.getD_eq_getElem?_getD, List.getElem?_eq_getElem h]; rfl
theorem states_ok {C : List (List Int)} {N0 : List Nat} (h : fromF P C N0 ≠ -1) : ∀ i, i ≤ C.length → ∀ N, statesP P C N0 i N → fromF P (C.drop i) N ≠ -1 ∧ ∀ g ∈ bestL P (C.drop i) N, ∃ g0, g0.length = i ∧ g0 ++ g ∈ bestL P C N0
  | 0, _, N, hN => by
    obtain rfl : N = N0 := hN
    exact ⟨h, fun g hg => ⟨[], rfl, hg⟩⟩
  | i + 1, hi, N, ⟨N', k, hN', hk, hw, e⟩ => by
    subst e
    obtain ⟨h1, h2⟩ := states_ok h i (by omega) N' hN'
    have hd := drop_at (show i < C.length by omega)
    rw [hd] at h1 h2 hw
    obtain ⟨a1, a2, a3⟩ := withV_some (by rw [hw]; exact h1 : withV P (fromF P (C.drop (i + 1))) (C.getD i []) N' k ≠ -1)
    refine ⟨a2, fun g hg => ?_⟩
    obtain ⟨g0, hl, hm⟩ := h2 (k :: g) ((best_mem h1).2 ⟨k, g, rfl, hk, hw, hg⟩)
    exact ⟨g0 ++ [k], by simp [hl], by rw [List.append_assoc]; exact hm⟩
theorem states_all {C : List (List Int)} {N0 : List Nat} (h : fromF P C N0 ≠ -1) {g : List Nat} (hg : g ∈ bestL P C N0) : ∀ i, i ≤ C.length → ∃ N, statesP P C N0 i N ∧ g.drop i ∈ bestL P (C.drop i) N
  | 0, _ => ⟨N0, rfl, hg⟩
  | i + 1, hi => by
    obtain ⟨N, h1, h2⟩ := states_all h hg i (by omega)
    obtain ⟨h3, -⟩ := states_ok h i (by omega) N h1
    have hd := drop_at (show i < C.length by omega)
    rw [hd] at h2 h3
    obtain ⟨p, g', e, hp, hw, hg'⟩ := (best_mem h3).1 h2
    refine ⟨incN N p, ⟨N, p, h1, hp, by rw [hd]; exact hw, rfl⟩, ?_⟩
    have : g.drop (i + 1) = g' := by rw [← List.drop_drop, e]; rfl
    rw [this]
    exact hg'
theorem given_is {C : List (List Int)} {N0 : List Nat} (h : fromF P C N0 ≠ -1) {i k : Nat} (hi : i < C.length) : givenP P C N0 i k ↔ ∃ g ∈ bestL P C N0, g[i]? = some k := by
  have hd := drop_at hi
  constructor
  · rintro ⟨N, hN, hk, hw⟩
    obtain ⟨h1, h2⟩ := states_ok h i (by omega) N hN
    rw [hd] at h1 h2 hw
    obtain ⟨a1, a2, a3⟩ := withV_some (by rw [hw]; exact h1 : withV P (fromF P (C.drop (i + 1))) (C.getD i []) N k ≠ -1)
    obtain ⟨g, hg⟩ := best_some (C.drop (i + 1)) (incN N k) a2
    obtain ⟨g0, hl, hm⟩ := h2 (k :: g) ((best_mem h1).2 ⟨k, g, rfl, hk, hw, hg⟩)
    refine ⟨_, hm, ?_⟩
    rw [List.getElem?_append_right (by omega), hl, Nat.sub_self]; rfl
  · rintro ⟨g, hg, hgi⟩
    obtain ⟨N, h1, h2⟩ := states_all h hg i (by omega)
    obtain ⟨h3, -⟩ := states_ok h i (by omega) N h1
    rw [hd] at h2 h3
    obtain ⟨p, g', e, hp, hw, hg'⟩ := (best_mem h3).1 h2
    have hpk : p = k := by
      have := List.getElem?_drop (xs := g) (i := i) (j := 0)
      rw [e, Nat.add_zero, hgi] at this
      simpa using this
    subst hpk
    exact ⟨N, h1, hp, by rw [hd]; exact hw⟩
end
end Go.Proofs.YtcdjkgfdhngmeaaGreatDoor
