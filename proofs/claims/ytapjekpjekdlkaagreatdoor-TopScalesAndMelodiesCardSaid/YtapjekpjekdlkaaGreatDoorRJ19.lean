/- Held melodies: which intervals each note can have, and how many. Plain mathematics. Conditions: as each theorem says. What can be reached is held. Plain mathematics. Conditions: as each theorem says. -/
import Derived.Test.YtapjekpjekdlkaaGreatDoorRMeB
import Derived.Test.YtapjekpjekdlkaaGreatDoorRJ5
import Derived.Test.YtapjekpjekdlkaaGreatDoorRMeA
set_option linter.unusedSimpArgs false
set_option linter.unusedVariables false
namespace Go.Proofs.YtapjekpjekdlkaaGreatDoor
open Go Go.RowKit

/-- The k-th note can have an interval from the first one. -/
def Rch (C : List (List I4)) : Nat → I4 → Prop
  | 0, x => x = zeroI
  | k + 1, x => rightB x = true ∧ ∃ i c, Rch C k i ∧ c ∈ C.getD k [] ∧ x = addI i c
theorem right_zero : rightB zeroI = true := by decide
theorem rch_right {C : List (List I4)} : ∀ {k : Nat} {x : I4}, Rch C k x → rightB x = true
  | 0, _, h => by rw [show _ = zeroI from h]; exact right_zero
  | _ + 1, _, h => h.1
/-- All choices are right intervals. -/
def RightC (C : List (List I4)) : Prop := ∀ cs ∈ C, ∀ c ∈ cs, rightB c = true
theorem RightC.at_ {C : List (List I4)} (h : RightC C) {k : Nat} {c : I4} (hc : c ∈ C.getD k []) : rightB c = true := by
  rw [List.getD_eq_getElem?_getD] at hc
  cases e : C[k]? with
  | none => rw [e] at hc; cases hc
  | some cs => rw [e] at hc; exact h cs (List.mem_of_getElem? e) c hc
theorem add_plain {x y : I4} (hx : rightB x = true) (hy : rightB y = true) : addI x y = addP x y := by
  obtain ⟨a1, a2, a3, a4⟩ := right_bounds hx
  obtain ⟨b1, b2, b3, b4⟩ := right_bounds hy
  unfold addI addP
  rw [wrap64_small _ (by omega), wrap64_small _ (by omega), wrap64_small _ (by omega), wrap64_small _ (by omega)]
theorem nodup_le {α : Type} [DecidableEq α] : ∀ {S M : List α}, S.Nodup → (∀ x ∈ S, x ∈ M) → S.length ≤ M.length
  | [], _, _, _ => Nat.zero_le _
  | a :: S, M, h, hs => by
    obtain ⟨h1, h2⟩ := List.nodup_cons.1 h
    have ha := hs a (List.mem_cons_self ..)
    have ih := nodup_le (M := M.erase a) h2 fun x hx => (List.mem_erase_of_ne (fun e => h1 (by rw [← e]; exact hx))).2 (hs x (List.mem_cons_of_mem _ hx))
    rw [List.length_erase_of_mem ha] at ih
    have := List.length_pos_of_mem ha
    rw [List.length_cons]; omega
/-- With few choices in all there are few intervals, too. -/
theorem rch_prod {C : List (List I4)} {ks : List I4} {k m : Nat} (hl : ∀ cs ∈ C, cs.length ≤ m) (hm : 1 ≤ m) (hn : ks.Nodup) (hr : ∀ x ∈ ks, Rch C k x) : ks.length ≤ m ^ k := by
  have key : ∀ k, ∃ A : List I4, A.length ≤ m ^ k ∧ ∀ x, Rch C k x → x ∈ A := by
    intro k
    induction k with
    | zero => exact ⟨[zeroI], Nat.le_refl _, fun x hx => by rw [show x = zeroI from hx]; exact List.mem_singleton.2 rfl⟩
    | succ k ih =>
      obtain ⟨A, a1, a2⟩ := ih
      refine ⟨A.flatMap fun i => (C.getD k []).map (addI i), ?_, fun x hx => ?_⟩
      · rw [flat_len_const _ (C.getD k []).length (fun a => by rw [List.length_map]), Nat.pow_succ]
        refine Nat.mul_le_mul a1 ?_
        rw [List.getD_eq_getElem?_getD]
        cases e : C[k]? with
        | none => exact Nat.zero_le _
        | some cs => exact hl cs (List.mem_of_getElem? e)
      · obtain ⟨_, i, c, h2, h3, h4⟩ := hx
        exact List.mem_flatMap.2 ⟨i, a2 i h2, List.mem_map.2 ⟨c, h3, h4.symm⟩⟩
  obtain ⟨A, a1, a2⟩ := key k
  exact Nat.le_trans (nodup_le hn fun x hx => a2 x (hr x hx)) a1
end Go.Proofs.YtapjekpjekdlkaaGreatDoor

namespace Go.Proofs.YtapjekpjekdlkaaGreatDoor
open Go Go.RowKit

/-- What can be reached is held. -/
theorem few_of_rch {C : List (List I4)} {e : I4} : ∀ {k : Nat} {i : I4}, k ≤ C.length → Rch C k i → fewL e (C.drop k) i ≠ none → fewL e C zeroI ≠ none
  | 0, i, _, h, hf => by
    rw [show i = zeroI from h, List.drop_zero] at hf
    exact hf
  | k + 1, i, hk, ⟨h1, i', c, h2, h3, h4⟩, hf => by
    refine few_of_rch (k := k) (i := i') (by omega) h2 ?_
    rw [List.drop_eq_getElem_cons (by omega : k < C.length)]
    intro hn
    rw [List.getD_eq_getElem?_getD, List.getElem?_eq_getElem (by omega)] at h3
    obtain ⟨j, hj⟩ := List.mem_iff_getElem?.1 h3
    have hjl := (List.getElem?_eq_some_iff.1 hj).1
    have hb := bestO_none (g := tryO (fewL e (C.drop (k + 1))) C[k] i') hn j hjl
    unfold tryO at hb
    have hjd : C[k].getD j zeroI = c := by rw [List.getD_eq_getElem?_getD]; simp only [Option.getD_some] at hj; rw [hj]; rfl
    rw [hjd, ← h4, if_pos h1] at hb
    cases hq : fewL e (C.drop (k + 1)) i with
    | none => exact hf hq
    | some r => rw [hq] at hb; cases hb
theorem few_end {C : List (List I4)} {e : I4} (h : Rch C C.length e) : ∃ many, fewL e C zeroI = some many := by
  have := few_of_rch (e := e) (Nat.le_refl C.length) h (by rw [List.drop_length]; unfold fewL; rw [if_pos rfl]; exact fun h => by cases h)
  cases hf : fewL e C zeroI with
  | none => exact absurd hf this
  | some r => exact ⟨r, rfl⟩
end Go.Proofs.YtapjekpjekdlkaaGreatDoor
