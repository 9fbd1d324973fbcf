/- Held melodies: what a stream makes is never too many; what can be reached is held. Plain mathematics. Conditions: as each theorem says. All ends by the document's text: plain mathematics. Conditions: as each theorem says. -/
import Derived.Test.YtapjekpjekdlkaaDoorQMeO
import Derived.Test.YtapjekpjekdlkaaDoorQMeM
import Derived.Test.YtapjekpjekdlkaaDoorQMeU
set_option linter.unusedSimpArgs false
set_option linter.unusedVariables false
namespace Go.Proofs.YtapjekpjekdlkaaDoor
open Go Go.RowKit

theorem base_at : ∀ m : Nat, ((stX0.map (·.cs)).getD m []).length = base9.getD m 0
  | 0 => rfl
  | 1 => rfl
  | 2 => rfl
  | 3 => rfl
  | 4 => rfl
  | 5 => rfl
  | 6 => rfl
  | 7 => rfl
  | 8 => rfl
  | _ + 9 => rfl
theorem stOne_cs (L : Src) (a : Nat) (x : StepV) : (stOne L a x).1.cs.length ≤ x.cs.length + 2 := by
  unfold stOne
  split
  · exact Nat.zero_le _
  · simp only [List.length_append, List.length_cons, List.length_nil]; omega
theorem getD_set_self {α : Type} {l : List α} {k : Nat} (h : k < l.length) (x d : α) : (l.set k x).getD k d = x := by
  rw [List.getD_eq_getElem?_getD, List.getElem?_set_self h]; rfl
theorem getD_set_ne {α : Type} {l : List α} {k m : Nat} (h : k ≠ m) (x d : α) : (l.set k x).getD m d = l.getD m d := by
  rw [List.getD_eq_getElem?_getD, List.getElem?_set_ne h, List.getD_eq_getElem?_getD]
theorem stF_base (L : Src) (a : Nat) : ∃ i, i < 9 ∧ ∀ m, (((stF L a).1.map (·.cs)).getD m []).length ≤ (base9.set i (base9.getD i 0 + 2)).getD m 0 := by
  have hb : base9.length = 9 := rfl
  unfold stF
  split
  · obtain ⟨k, hk⟩ : ∃ k, nxF L (a + 1) 9 = k := ⟨_, rfl⟩
    have hk9 : k < 9 := by rw [← hk]; exact nxF_lt L (a + 1) 9 (by decide)
    rw [hk]
    refine ⟨k, hk9, fun m => ?_⟩
    simp only
    rw [List.map_set]
    by_cases h : k = m
    · subst h
      rw [getD_set_self (by rw [List.length_map]; exact hk9), getD_set_self (by omega)]
      refine Nat.le_trans (stOne_cs _ _ _) ?_
      have h1 : (stX0.getD k ⟨0, []⟩).cs = (stX0.map (·.cs)).getD k [] := by
        rw [List.getD_eq_getElem?_getD, List.getD_eq_getElem?_getD, List.getElem?_map]
        cases stX0[k]? <;> rfl
      rw [h1, base_at]
      exact Nat.le_refl _
    · rw [getD_set_ne h, getD_set_ne h, base_at]
      exact Nat.le_refl _
  · refine ⟨0, by decide, fun m => ?_⟩
    simp only
    rw [base_at]
    by_cases h : 0 = m
    · subst h; rw [getD_set_self (by decide)]; omega
    · rw [getD_set_ne h]; exact Nat.le_refl _
theorem stF_nine (L : Src) (a : Nat) : (stF L a).1.length = 9 := by
  unfold stF
  split
  · rw [List.length_set]; rfl
  · rfl
theorem mel_rest {X : List StepV} {m : List Int} (h : melF X m = 0) : 0 < m.length ∧ m.length ≤ 400 ∧ (∀ x ∈ m, 0 ≤ x ∧ x ≤ 127) ∧ ∀ i, i < m.length - 1 → ∃ x, findX X (gapAt m i) = some x ∧ x ∈ X := by
  have hs := mel_steps h
  have hF : melF X m = if stepsF X ≠ 0 then stepsF X else if m.length = 0 then 8 else if 400 < m.length then 2 else if (∃ n ∈ m, outB n 0 127 = true) then 1 else scanF (m.length - 1) (kindF X m) := rfl
  rw [h, if_neg (by simp [hs])] at hF
  split at hF
  · cases hF
  · split at hF
    · cases hF
    · split at hF
      · cases hF
      · rename_i h1 h2 h3
        refine ⟨by omega, by omega, fun x hx => ?_, fun i hi => ?_⟩
        · have h4 : ¬ outB x 0 127 = true := fun h => h3 ⟨x, hx, h⟩
          unfold outB at h4
          simp at h4
          omega
        · have h5 := scan_all hF.symm hi
          unfold kindF at h5
          cases hf : findX X (gapAt m i) with
          | none => rw [hf] at h5; cases h5
          | some x => exact ⟨x, rfl, List.mem_of_find?_eq_some hf⟩
/-- The steps and notes of a stream have never too many ends. -/
theorem not_crowd (L : Src) (a : Nat) {m : List Int} (hm : m.length ≤ 10) (h : melF (stF L a).1 m = 0) : ¬ Crowd (melC (stF L a).1 m) := by
  rintro ⟨k, ks, hk, hn, hr, hc⟩
  have hX9 := stF_nine L a
  obtain ⟨i, hi, hv⟩ := stF_base L a
  generalize (stF L a).1 = X at *
  have hs := mel_steps h
  obtain ⟨-, -, -, hfd⟩ := mel_rest h
  have hCl := melC_len X m
  have hex : ∀ j, j < (melC X m).length → ∃ q, q < 9 ∧ (melC X m).getD j [] = (X.map (·.cs)).getD q [] := fun j hj => by
    obtain ⟨x, hf, hx⟩ := hfd j (by omega)
    obtain ⟨q, hq⟩ := List.mem_iff_getElem?.1 hx
    have hql := (List.getElem?_eq_some_iff.1 hq).1
    refine ⟨q, by omega, ?_⟩
    rw [List.getD_eq_getElem?_getD, melC_at (by omega) hf, List.getD_eq_getElem?_getD, List.getElem?_map, hq]
    rfl
  have hJ : ∃ J : List Nat, J.length = (melC X m).length ∧ (∀ j, j < (melC X m).length → (melC X m).getD j [] = (X.map (·.cs)).getD (J.getD j 0) []) ∧ ∀ j ∈ J, j < 9 := by
    have key : ∀ n, n ≤ (melC X m).length → ∃ J : List Nat, J.length = n ∧ (∀ j, j < n → (melC X m).getD j [] = (X.map (·.cs)).getD (J.getD j 0) []) ∧ ∀ j ∈ J, j < 9 := by
      intro n
      induction n with
      | zero => exact fun _ => ⟨[], rfl, fun j hj => by omega, fun j hj => by cases hj⟩
      | succ n ih =>
        intro hn
        obtain ⟨J, j1, j2, j3⟩ := ih (by omega)
        obtain ⟨q, q1, q2⟩ := hex n (by omega)
        refine ⟨J ++ [q], by rw [List.length_append, j1]; rfl, fun j hj => ?_, fun j hj => ?_⟩
        · rcases Nat.lt_or_ge j n with h1 | h1
          · rw [j2 j h1, List.getD_eq_getElem?_getD (l := J), List.getD_eq_getElem?_getD (l := J ++ [q]), List.getElem?_append_left (by omega)]
          · obtain rfl : j = n := by omega
            rw [q2, List.getD_eq_getElem?_getD (l := J ++ [q]), List.getElem?_append_right (by omega), j1, Nat.sub_self]
            rfl
        · rcases List.mem_append.1 hj with h1 | h1
          · exact j3 j h1
          · rw [List.mem_singleton.1 h1]; exact q1
    exact key _ (Nat.le_refl _)
  obtain ⟨J, j1, j2, j3⟩ := hJ
  have := rch_few (melC_right hs).1 j1 j2 j3 (by omega) hi hv hk hn hr
  omega
/-- Where one is while choices are followed. -/
structure Foll (e : I4) (C : List (List I4)) (H : List Nat) (many k : Nat) (at_ : I4) (few r : Nat) : Prop where
  hk : k ≤ C.length
  hr : rightB at_ = true
  hf : fewL e (C.drop k) at_ = some r
  hs : few + r = many
  hh : H.drop k = chooseL e (C.drop k) at_ r
theorem Foll.start {e : I4} {C : List (List I4)} {many : Nat} (h : fewL e C zeroI = some many) : Foll e C (chooseL e C zeroI many) many 0 zeroI 0 many :=
  ⟨Nat.zero_le _, right_zero, by rw [List.drop_zero]; exact h, by omega, by rw [List.drop_zero, List.drop_zero]⟩
theorem Foll.step {e : I4} {C : List (List I4)} {H : List Nat} {many k few r : Nat} {at_ : I4} (h : Foll e C H many k at_ few r) {cs : List I4} (hc : C[k]? = some cs) :
    ∃ n c r', H[k]? = some n ∧ cs[n]? = some c ∧ n < cs.length ∧ rightB (addI at_ c) = true ∧ few + min n 1 ≤ many ∧ Foll e C H many (k + 1) (addI at_ c) (few + min n 1) r' := by
  obtain ⟨hkl, hke⟩ := List.getElem?_eq_some_iff.1 hc
  have hd : C.drop k = cs :: C.drop (k + 1) := by rw [List.drop_eq_getElem_cons hkl, hke]
  have hf := h.hf
  have hh := h.hh
  rw [hd] at hf hh
  obtain ⟨n, r', h1, -, h2, h3, h4, -, h5⟩ := choose_step hf
  rw [h5] at hh
  obtain ⟨c, hcn⟩ : ∃ c, cs[n]? = some c := ⟨_, List.getElem?_eq_getElem h1⟩
  have hcd : cs.getD n zeroI = c := by rw [List.getD_eq_getElem?_getD, hcn]; rfl
  rw [hcd] at h2 h3 hh
  have hhk : H[k]? = some n := by
    have := congrArg (fun l => l[0]?) hh
    simp only [List.getElem?_drop, Nat.add_zero, List.getElem?_cons_zero] at this
    exact this
  have hs := h.hs
  refine ⟨n, c, r', hhk, hcn, h1, h2, by omega, by omega, h2, h3, by omega, ?_⟩
  have := congrArg List.tail hh
  rw [List.tail_drop] at this
  exact this
theorem Foll.done {e : I4} {C : List (List I4)} {H : List Nat} {many few r : Nat} {at_ : I4} (h : Foll e C H many C.length at_ few r) : at_ = e ∧ few = many := by
  have hf := h.hf
  have hs := h.hs
  rw [List.drop_length] at hf
  unfold fewL at hf
  split at hf
  · rename_i h1
    cases hf
    exact ⟨h1, by omega⟩
  · cases hf
end Go.Proofs.YtapjekpjekdlkaaDoor

namespace Go.Proofs.YtapjekpjekdlkaaDoor
open Go Go.RowKit

theorem rch_next {C : List (List I4)} {k : Nat} {cs R S : List I4} (hc : C[k]? = some cs) (hR : ∀ x, x ∈ R ↔ Rch C k x) (hS : ∀ x, x ∈ S ↔ rightB x = true ∧ ∃ j c, j ∈ R ∧ c ∈ cs ∧ x = addI j c) : ∀ x, x ∈ S ↔ Rch C (k + 1) x := fun x => by
  have hd : C.getD k [] = cs := by rw [List.getD_eq_getElem?_getD, hc]; rfl
  rw [hS]
  constructor
  · rintro ⟨h1, j, c, h2, h3, h4⟩
    exact ⟨h1, j, c, (hR j).1 h2, by rw [hd]; exact h3, h4⟩
  · rintro ⟨h1, j, c, h2, h3, h4⟩
    rw [hd] at h3
    exact ⟨h1, j, c, (hR j).2 h2, h3, h4⟩
/-- What is gathered so far is never too much. -/
theorem part_few {C : List (List I4)} {k : Nat} {cs R S : List I4} (hnc : ¬ Crowd C) (hk : k < C.length) (hc : C[k]? = some cs) (hR : ∀ x, x ∈ R ↔ Rch C k x) (hn : S.Nodup) (hS : ∀ x, x ∈ S → rightB x = true ∧ ∃ j c, j ∈ R ∧ c ∈ cs ∧ x = addI j c) : S.length ≤ 20000 := by
  refine Nat.le_of_not_lt fun hlt => hnc ⟨k + 1, S, by omega, hn, fun x hx => ?_, hlt⟩
  obtain ⟨h1, j, c, h2, h3, h4⟩ := hS x hx
  exact ⟨h1, j, c, (hR j).1 h2, by rw [List.getD_eq_getElem?_getD, hc]; exact h3, h4⟩
/-- The intervals gathered from the first a of a row, and from the next one with the first b choices. -/
def GatP (R cs : List I4) (a : Nat) (S : List I4) : Prop := ∀ x, x ∈ S ↔ rightB x = true ∧ ∃ j c, j ∈ R.take a ∧ c ∈ cs ∧ x = addI j c
def GatQ (R cs : List I4) (a b : Nat) (y : I4) (S : List I4) : Prop := ∀ x, x ∈ S ↔ rightB x = true ∧ ((∃ j c, j ∈ R.take a ∧ c ∈ cs ∧ x = addI j c) ∨ ∃ c, c ∈ cs.take b ∧ x = addI y c)
theorem GatP.start {R cs : List I4} : GatP R cs 0 [] := fun x => by simp
theorem GatP.q {R cs S : List I4} {a : Nat} {y : I4} (h : GatP R cs a S) : GatQ R cs a 0 y S := fun x => by
  rw [h x]
  simp
theorem GatQ.p {R cs S : List I4} {a : Nat} {y : I4} (h : GatQ R cs a cs.length y S) (hy : R[a]? = some y) : GatP R cs (a + 1) S := fun x => by
  rw [h x, List.take_length, take_snocI hy]
  constructor
  · rintro ⟨h1, ⟨j, c, h2, h3, h4⟩ | ⟨c, h3, h4⟩⟩
    · exact ⟨h1, j, c, List.mem_append_left _ h2, h3, h4⟩
    · exact ⟨h1, y, c, List.mem_append_right _ (List.mem_singleton.2 rfl), h3, h4⟩
  · rintro ⟨h1, j, c, h2, h3, h4⟩
    rcases List.mem_append.1 h2 with h5 | h5
    · exact ⟨h1, .inl ⟨j, c, h5, h3, h4⟩⟩
    · rw [List.mem_singleton.1 h5] at h4
      exact ⟨h1, .inr ⟨c, h3, h4⟩⟩
theorem GatQ.skip {R cs S : List I4} {a b : Nat} {y c : I4} (h : GatQ R cs a b y S) (hc : cs[b]? = some c) (hs : rightB (addI y c) = false ∨ addI y c ∈ S) : GatQ R cs a (b + 1) y S := fun x => by
  rw [h x, take_snocI hc]
  constructor
  · rintro ⟨h1, h2 | ⟨d, h3, h4⟩⟩
    · exact ⟨h1, .inl h2⟩
    · exact ⟨h1, .inr ⟨d, List.mem_append_left _ h3, h4⟩⟩
  · rintro ⟨h1, h2 | ⟨d, h3, h4⟩⟩
    · exact ⟨h1, .inl h2⟩
    · rcases List.mem_append.1 h3 with h5 | h5
      · exact ⟨h1, .inr ⟨d, h5, h4⟩⟩
      · rw [List.mem_singleton.1 h5] at h4
        rcases hs with hs | hs
        · rw [h4, hs] at h1; cases h1
        · rw [← h4] at hs; exact (h x).1 hs
theorem GatQ.put {R cs S : List I4} {a b : Nat} {y c : I4} (h : GatQ R cs a b y S) (hc : cs[b]? = some c) (hr : rightB (addI y c) = true) : GatQ R cs a (b + 1) y (S ++ [addI y c]) := fun x => by
  rw [List.mem_append, h x, take_snocI hc, List.mem_singleton]
  constructor
  · rintro (⟨h1, h2 | ⟨d, h3, h4⟩⟩ | rfl)
    · exact ⟨h1, .inl h2⟩
    · exact ⟨h1, .inr ⟨d, List.mem_append_left _ h3, h4⟩⟩
    · exact ⟨hr, .inr ⟨c, List.mem_append_right _ (List.mem_singleton.2 rfl), rfl⟩⟩
  · rintro ⟨h1, h2 | ⟨d, h3, h4⟩⟩
    · exact .inl ⟨h1, .inl h2⟩
    · rcases List.mem_append.1 h3 with h5 | h5
      · exact .inl ⟨h1, .inr ⟨d, h5, h4⟩⟩
      · rw [List.mem_singleton.1 h5] at h4
        exact .inr h4
theorem GatQ.in_ {R cs S : List I4} {a b : Nat} {y : I4} (h : GatQ R cs a b y S) (hy : R[a]? = some y) : ∀ x, x ∈ S → rightB x = true ∧ ∃ j c, j ∈ R ∧ c ∈ cs ∧ x = addI j c := fun x hx => by
  obtain ⟨h1, ⟨j, c, h2, h3, h4⟩ | ⟨c, h3, h4⟩⟩ := (h x).1 hx
  · exact ⟨h1, j, c, List.mem_of_mem_take h2, h3, h4⟩
  · exact ⟨h1, y, c, List.mem_of_getElem? hy, List.mem_of_mem_take h3, h4⟩
end Go.Proofs.YtapjekpjekdlkaaDoor
