/- Held melodies: plain mathematics. The fewest choices that are not usual, the first way to them; the document's search finds the same. Conditions: as each theorem says. -/
import Derived.Test.YtapjekpjekdlkaaGreatDoorRJ5
set_option linter.unusedSimpArgs false
set_option linter.unusedVariables false
namespace Go.Proofs.YtapjekpjekdlkaaGreatDoor
open Go Go.RowKit

instance : DecidableEq I4 := fun x y => if h : x.a = y.a ∧ x.b = y.b ∧ x.c = y.c ∧ x.d = y.d then .isTrue (I4.eq h.1 h.2.1 h.2.2.1 h.2.2.2) else .isFalse fun e => h (by subst e; exact ⟨rfl, rfl, rfl, rfl⟩)

/-- The lesser of two answers; the first one, if they are alike. -/
def betO : Option Nat → Option Nat → Option Nat
  | none, b => b
  | some a, none => some a
  | some a, some b => if b < a then some b else some a
/-- How many choices behind an interval are not usual, with a choice tried. -/
def tryO (f : I4 → Option Nat) (c : List I4) (i : I4) (n : Nat) : Option Nat :=
  if rightB (addI i (c.getD n zeroI)) then (f (addI i (c.getD n zeroI))).map (· + min n 1) else none
def bestO (g : Nat → Option Nat) : Nat → Option Nat
  | 0 => none
  | n + 1 => betO (bestO g n) (g n)
/-- The fewest choices that are not usual from an interval to the end; none: there is no way. -/
def fewL (e : I4) : List (List I4) → I4 → Option Nat
  | [], i => if i = e then some 0 else none
  | c :: cs, i => bestO (tryO (fewL e cs) c i) c.length

theorem betO_none_right (a : Option Nat) : betO a none = a := by cases a <;> rfl
theorem betO_both (a b : Nat) : betO (some a) (some b) = if b < a then some b else some a := rfl
theorem betO_some {a b : Option Nat} {m : Nat} (h : betO a b = some m) : (a = some m ∧ ∀ x, b = some x → m ≤ x) ∨ (b = some m ∧ ∀ x, a = some x → m < x) := by
  cases a with
  | none => exact .inr ⟨h, fun x hx => by cases hx⟩
  | some a =>
    cases b with
    | none => exact .inl ⟨h, fun x hx => by cases hx⟩
    | some b =>
      rw [betO_both] at h
      split at h
      · cases h; exact .inr ⟨rfl, fun x hx => by cases hx; omega⟩
      · cases h; exact .inl ⟨rfl, fun x hx => by cases hx; omega⟩
theorem betO_is_none {a b : Option Nat} : betO a b = none ↔ a = none ∧ b = none := by
  cases a with
  | none => simp [betO]
  | some a =>
    cases b with
    | none => simp [betO]
    | some b => rw [betO_both]; split <;> simp
/-- The least of the first n, and where it stands first. -/
theorem bestO_some {g : Nat → Option Nat} : ∀ {n m : Nat}, bestO g n = some m → ∃ k, k < n ∧ g k = some m ∧ (∀ j x, j < n → g j = some x → m ≤ x) ∧ ∀ j, j < k → g j ≠ some m
  | 0, m, h => by cases h
  | n + 1, m, h => by
    rcases betO_some h with ⟨h1, h2⟩ | ⟨h1, h2⟩
    · obtain ⟨k, k1, k2, k3, k4⟩ := bestO_some h1
      refine ⟨k, by omega, k2, fun j x hj hx => ?_, k4⟩
      rcases Nat.lt_or_ge j n with h3 | h3
      · exact k3 j x h3 hx
      · obtain rfl : j = n := by omega
        exact h2 x hx
    · cases hb : bestO g n with
      | none =>
        have hno : ∀ n, bestO g n = none → ∀ j, j < n → g j = none := by
          intro n
          induction n with
          | zero => intro _ j hj; omega
          | succ n ih =>
            intro hn j hj
            obtain ⟨a1, a2⟩ := betO_is_none.1 hn
            rcases Nat.lt_or_ge j n with h3 | h3
            · exact ih a1 j h3
            · obtain rfl : j = n := by omega
              exact a2
        refine ⟨n, by omega, h1, fun j x hj hx => ?_, fun j hj e => ?_⟩
        · rcases Nat.lt_or_ge j n with h3 | h3
          · rw [hno n hb j h3] at hx; cases hx
          · obtain rfl : j = n := by omega
            rw [h1] at hx; cases hx; exact Nat.le_refl _
        · rw [hno n hb j hj] at e; cases e
      | some q =>
        have hq := h2 q hb
        obtain ⟨k, k1, k2, k3, k4⟩ := bestO_some hb
        refine ⟨n, by omega, h1, fun j x hj hx => ?_, fun j hj e => ?_⟩
        · rcases Nat.lt_or_ge j n with h3 | h3
          · have := k3 j x h3 hx; omega
          · obtain rfl : j = n := by omega
            rw [h1] at hx; cases hx; exact Nat.le_refl _
        · have := k3 j m hj e; omega
theorem bestO_none {g : Nat → Option Nat} : ∀ {n : Nat}, bestO g n = none → ∀ j, j < n → g j = none
  | 0, _, j, hj => by omega
  | n + 1, h, j, hj => by
    obtain ⟨a1, a2⟩ := betO_is_none.1 h
    rcases Nat.lt_or_ge j n with h3 | h3
    · exact bestO_none a1 j h3
    · obtain rfl : j = n := by omega
      exact a2
/-- The first number that something is so of. -/
def firstN (q : Nat → Bool) : Nat → Nat → Nat
  | 0, k => k
  | m + 1, k => if q k then k else firstN q m (k + 1)
theorem firstN_eq {q : Nat → Bool} : ∀ {m k j : Nat}, k ≤ j → j < k + m → q j = true → (∀ i, k ≤ i → i < j → q i = false) → firstN q m k = j
  | 0, k, j, h1, h2, _, _ => by omega
  | m + 1, k, j, h1, h2, h3, h4 => by
    unfold firstN
    by_cases h : k = j
    · subst h; rw [if_pos h3]
    · rw [if_neg (by rw [h4 k (Nat.le_refl _) (by omega)]; decide)]
      exact firstN_eq (by omega) (by omega) h3 fun i hi => h4 i (by omega)
/-- The first choices with which the melody ends, when so many may be not usual. -/
def chooseL (e : I4) : List (List I4) → I4 → Nat → List Nat
  | [], _, _ => []
  | c :: cs, i, left =>
    let n := firstN (fun n => decide (tryO (fewL e cs) c i n = some left)) c.length 0
    n :: chooseL e cs (addI i (c.getD n zeroI)) (left - min n 1)
theorem tryO_some {f : I4 → Option Nat} {c : List I4} {i : I4} {n m : Nat} (h : tryO f c i n = some m) : rightB (addI i (c.getD n zeroI)) = true ∧ ∃ r, f (addI i (c.getD n zeroI)) = some r ∧ m = r + min n 1 := by
  unfold tryO at h
  split at h
  · rename_i h1
    obtain ⟨r, hr, e⟩ := Option.map_eq_some_iff.1 h
    exact ⟨h1, r, hr, e.symm⟩
  · cases h
/-- One step of the first way. -/
theorem choose_step {e : I4} {c : List I4} {cs : List (List I4)} {i : I4} {left : Nat} (h : fewL e (c :: cs) i = some left) :
    ∃ n r, n < c.length ∧ firstN (fun n => decide (tryO (fewL e cs) c i n = some left)) c.length 0 = n ∧ rightB (addI i (c.getD n zeroI)) = true ∧ fewL e cs (addI i (c.getD n zeroI)) = some r ∧ left = r + min n 1 ∧ (∀ j, j < n → tryO (fewL e cs) c i j ≠ some left) ∧
      chooseL e (c :: cs) i left = n :: chooseL e cs (addI i (c.getD n zeroI)) r := by
  obtain ⟨n, h1, h2, h3, h4⟩ := bestO_some (g := tryO (fewL e cs) c i) h
  obtain ⟨h5, r, h6, h7⟩ := tryO_some h2
  have hf : firstN (fun n => decide (tryO (fewL e cs) c i n = some left)) c.length 0 = n := firstN_eq (Nat.zero_le _) (by omega) (by simp [h2]) fun j _ hj => by simp [h4 j hj]
  refine ⟨n, r, h1, hf, h5, h6, h7, h4, ?_⟩
  show _ :: _ = _
  rw [hf]
  congr 2
  omega
/-! ### the document's search -/
instance (e : I4) (i : I4) (n : Nat) (st : Option (List Nat × Nat)) : Decidable (i = e ∧ (∀ x, st.map (·.2) = some x → n < x)) :=
  match st with
  | none => if h : i = e then .isTrue ⟨h, fun x hx => by cases hx⟩ else .isFalse fun k => h k.1
  | some s => if h : i = e ∧ n < s.2 then .isTrue ⟨h.1, fun x hx => by cases hx; exact h.2⟩ else .isFalse fun k => h ⟨k.1, k.2 _ rfl⟩
end Go.Proofs.YtapjekpjekdlkaaGreatDoor
