/- Held melodies: which intervals each note can have, and how many. Plain mathematics. Conditions: as each theorem says. -/
import Derived.Test.YtapjekpjekdlkaaDoorQMeB
import Derived.Test.YtapjekpjekdlkaaDoorQJ5
set_option linter.unusedSimpArgs false
set_option linter.unusedVariables false
namespace Go.Proofs.YtapjekpjekdlkaaDoor
open Go Go.RowKit

/-- The k-th note can have an interval from the first one. -/
def Rch (C : List (List I4)) : Nat → I4 → Prop
  | 0, x => x = zeroI
  | k + 1, x => rightB x = true ∧ ∃ i c, Rch C k i ∧ c ∈ C.getD k [] ∧ x = addI i c
theorem right_zero : rightB zeroI = true := by decide
theorem rch_right {C : List (List I4)} : ∀ {k : Nat} {x : I4}, Rch C k x → rightB x = true
  | 0, _, h => by rw [show _ = zeroI from h]; exact right_zero
  | _ + 1, _, h => h.1
/-- All choices are right intervals. -/
def RightC (C : List (List I4)) : Prop := ∀ cs ∈ C, ∀ c ∈ cs, rightB c = true
theorem RightC.at_ {C : List (List I4)} (h : RightC C) {k : Nat} {c : I4} (hc : c ∈ C.getD k []) : rightB c = true := by
  rw [List.getD_eq_getElem?_getD] at hc
  cases e : C[k]? with
  | none => rw [e] at hc; cases hc
  | some cs => rw [e] at hc; exact h cs (List.mem_of_getElem? e) c hc
theorem add_plain {x y : I4} (hx : rightB x = true) (hy : rightB y = true) : addI x y = addP x y := by
  obtain ⟨a1, a2, a3, a4⟩ := right_bounds hx
  obtain ⟨b1, b2, b3, b4⟩ := right_bounds hy
  unfold addI addP
  rw [wrap64_small _ (by omega), wrap64_small _ (by omega), wrap64_small _ (by omega), wrap64_small _ (by omega)]
/-- A way to each note, with the kinds of its steps. -/
theorem rch_way {T C : List (List I4)} {J : List Nat} (hC : RightC C) (hJ : J.length = C.length) (hT : ∀ j, j < C.length → C.getD j [] = T.getD (J.getD j 0) []) :
    ∀ {k : Nat} {x : I4}, k ≤ C.length → Rch C k x → ∃ l : List (Nat × I4), l.map (·.1) = J.take k ∧ (∀ p ∈ l, p.2 ∈ T.getD p.1 []) ∧ x = sumP (l.map (·.2))
  | 0, x, _, h => ⟨[], rfl, (fun p hp => by cases hp), h⟩
  | k + 1, x, hk, ⟨h1, i, c, h2, h3, h4⟩ => by
    obtain ⟨l, a1, a2, a3⟩ := rch_way hC hJ hT (k := k) (by omega) h2
    refine ⟨l ++ [(J.getD k 0, c)], ?_, fun p hp => ?_, ?_⟩
    · rw [List.map_append, a1, List.take_succ_eq_append_getElem (by omega)]
      congr 1
      simp only [List.map_cons, List.map_nil, List.cons.injEq, and_true]
      rw [List.getD_eq_getElem?_getD, List.getElem?_eq_getElem (by omega)]; rfl
    · rcases List.mem_append.1 hp with h | h
      · exact a2 p h
      · rw [List.mem_singleton.1 h, ← hT k (by omega)]; exact h3
    · rw [h4, add_plain (rch_right h2) (hC.at_ h3), List.map_append, sumP_append, a3]
      show _ = addP _ (addP c zeroI)
      rw [addP_zero]
def cntJ (J : List Nat) (m : Nat) : Nat := (J.filter fun j => decide (j = m)).length
theorem cntK_map (l : List (Nat × I4)) : cntK l = cntJ (l.map (·.1)) := by
  funext m
  unfold cntK cntJ
  induction l with
  | nil => rfl
  | cons p l ih =>
    by_cases h : p.1 = m
    · rw [List.filter_cons_of_pos (by simpa using h), List.map_cons, List.filter_cons_of_pos (by simpa using h), List.length_cons, List.length_cons, ih]
    · rw [List.filter_cons_of_neg (by simpa using h), List.map_cons, List.filter_cons_of_neg (by simpa using h), ih]
theorem nodup_le {α : Type} [DecidableEq α] : ∀ {S M : List α}, S.Nodup → (∀ x ∈ S, x ∈ M) → S.length ≤ M.length
  | [], _, _, _ => Nat.zero_le _
  | a :: S, M, h, hs => by
    obtain ⟨h1, h2⟩ := List.nodup_cons.1 h
    have ha := hs a (List.mem_cons_self ..)
    have ih := nodup_le (M := M.erase a) h2 fun x hx => (List.mem_erase_of_ne (fun e => h1 (by rw [← e]; exact hx))).2 (hs x (List.mem_cons_of_mem _ hx))
    rw [List.length_erase_of_mem ha] at ih
    have := List.length_pos_of_mem ha
    rw [List.length_cons]; omega
/-- No note can have more than 20000 intervals, when there are at most nine steps of the nine kinds. -/
theorem rch_few {T C : List (List I4)} {J : List Nat} (hC : RightC C) (hJ : J.length = C.length) (hT : ∀ j, j < C.length → C.getD j [] = T.getD (J.getD j 0) []) (hJ9 : ∀ j ∈ J, j < 9) (h9 : C.length ≤ 9)
    {i : Nat} (hi : i < 9) (hv : ∀ m, (T.getD m []).length ≤ (base9.set i (base9.getD i 0 + 2)).getD m 0) {k : Nat} (hk : k ≤ C.length) {ks : List I4} (hn : ks.Nodup) (hr : ∀ x ∈ ks, Rch C k x) : ks.length ≤ 20000 := by
  have hm : ∀ x ∈ ks, x ∈ mAll T (cntJ (J.take k)) 9 := fun x hx => by
    obtain ⟨l, a1, a2, a3⟩ := rch_way hC hJ hT hk (hr x hx)
    have := mAll_mem a2 9
    rw [cntK_map, a1] at this
    have hf : l.filter (fun p => decide (p.1 < 9)) = l := List.filter_eq_self.2 fun p hp => by
      have h1 : p.1 ∈ l.map (·.1) := List.mem_map.2 ⟨p, hp, rfl⟩
      rw [a1] at h1
      exact decide_eq_true (hJ9 _ (List.mem_of_mem_take h1))
    rw [hf, ← a3] at this
    exact this
  refine Nat.le_trans (nodup_le hn hm) (Nat.le_trans (mAll_len hv _ 9) (prod_all hi _ ?_))
  have hs := cnt_sum ((J.take k).map fun j => (j, zeroI)) 9
  rw [cntK_map, List.map_map] at hs
  have e : ((fun p : Nat × I4 => p.1) ∘ fun j => (j, zeroI)) = id := rfl
  rw [e, List.map_id] at hs
  rw [hs]
  refine Nat.le_trans (List.length_filter_le _ _) ?_
  rw [List.length_map, List.length_take]
  omega
end Go.Proofs.YtapjekpjekdlkaaDoor
