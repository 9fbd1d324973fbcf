/- Held melodies: plain mathematics. The fewest choices that are not usual, the first way to them; the document's search finds the same. Conditions: as each theorem says. -/
import Derived.Test.YtapjekpjekdlkaaDoorQJ5
set_option linter.unusedSimpArgs false
set_option linter.unusedVariables false
namespace Go.Proofs.YtapjekpjekdlkaaDoor
open Go Go.RowKit

instance : DecidableEq I4 := fun x y => if h : x.a = y.a ∧ x.b = y.b ∧ x.c = y.c ∧ x.d = y.d then .isTrue (I4.eq h.1 h.2.1 h.2.2.1 h.2.2.2) else .isFalse fun e => h (by subst e; exact ⟨rfl, rfl, rfl, rfl⟩)

/-- The lesser of two answers; the first one, if they are alike. -/
def betO : Option Nat → Option Nat → Option Nat
  | none, b => b
  | some a, none => some a
  | some a, some b => if b < a then some b else some a
/-- How many choices behind an interval are not usual, with a choice tried. -/
def tryO (f : I4 → Option Nat) (c : List I4) (i : I4) (n : Nat) : Option Nat :=
  if rightB (addI i (c.getD n zeroI)) then (f (addI i (c.getD n zeroI))).map (· + min n 1) else none
def bestO (g : Nat → Option Nat) : Nat → Option Nat
  | 0 => none
  | n + 1 => betO (bestO g n) (g n)
/-- The fewest choices that are not usual from an interval to the end; none: there is no way. -/
def fewL (e : I4) : List (List I4) → I4 → Option Nat
  | [], i => if i = e then some 0 else none
  | c :: cs, i => bestO (tryO (fewL e cs) c i) c.length

theorem betO_none_left (b : Option Nat) : betO none b = b := rfl
theorem betO_none_right (a : Option Nat) : betO a none = a := by cases a <;> rfl
theorem betO_both (a b : Nat) : betO (some a) (some b) = if b < a then some b else some a := rfl
theorem betO_some {a b : Option Nat} {m : Nat} (h : betO a b = some m) : (a = some m ∧ ∀ x, b = some x → m ≤ x) ∨ (b = some m ∧ ∀ x, a = some x → m < x) := by
  cases a with
  | none => exact .inr ⟨h, fun x hx => by cases hx⟩
  | some a =>
    cases b with
    | none => exact .inl ⟨h, fun x hx => by cases hx⟩
    | some b =>
      rw [betO_both] at h
      split at h
      · cases h; exact .inr ⟨rfl, fun x hx => by cases hx; omega⟩
      · cases h; exact .inl ⟨rfl, fun x hx => by cases hx; omega⟩
theorem betO_is_none {a b : Option Nat} : betO a b = none ↔ a = none ∧ b = none := by
  cases a with
  | none => simp [betO]
  | some a =>
    cases b with
    | none => simp [betO]
    | some b => rw [betO_both]; split <;> simp
/-- The least of the first n, and where it stands first. -/
theorem bestO_some {g : Nat → Option Nat} : ∀ {n m : Nat}, bestO g n = some m → ∃ k, k < n ∧ g k = some m ∧ (∀ j x, j < n → g j = some x → m ≤ x) ∧ ∀ j, j < k → g j ≠ some m
  | 0, m, h => by cases h
  | n + 1, m, h => by
    rcases betO_some h with ⟨h1, h2⟩ | ⟨h1, h2⟩
    · obtain ⟨k, k1, k2, k3, k4⟩ := bestO_some h1
      refine ⟨k, by omega, k2, fun j x hj hx => ?_, k4⟩
      rcases Nat.lt_or_ge j n with h3 | h3
      · exact k3 j x h3 hx
      · obtain rfl : j = n := by omega
        exact h2 x hx
    · cases hb : bestO g n with
      | none =>
        have hno : ∀ n, bestO g n = none → ∀ j, j < n → g j = none := by
          intro n
          induction n with
          | zero => intro _ j hj; omega
          | succ n ih =>
            intro hn j hj
            obtain ⟨a1, a2⟩ := betO_is_none.1 hn
            rcases Nat.lt_or_ge j n with h3 | h3
            · exact ih a1 j h3
            · obtain rfl : j = n := by omega
              exact a2
        refine ⟨n, by omega, h1, fun j x hj hx => ?_, fun j hj e => ?_⟩
        · rcases Nat.lt_or_ge j n with h3 | h3
          · rw [hno n hb j h3] at hx; cases hx
          · obtain rfl : j = n := by omega
            rw [h1] at hx; cases hx; exact Nat.le_refl _
        · rw [hno n hb j hj] at e; cases e
      | some q =>
        have hq := h2 q hb
        obtain ⟨k, k1, k2, k3, k4⟩ := bestO_some hb
        refine ⟨n, by omega, h1, fun j x hj hx => ?_, fun j hj e => ?_⟩
        · rcases Nat.lt_or_ge j n with h3 | h3
          · have := k3 j x h3 hx; omega
          · obtain rfl : j = n := by omega
            rw [h1] at hx; cases hx; exact Nat.le_refl _
        · have := k3 j m hj e; omega
theorem bestO_none {g : Nat → Option Nat} : ∀ {n : Nat}, bestO g n = none → ∀ j, j < n → g j = none
  | 0, _, j, hj => by omega
  | n + 1, h, j, hj => by
    obtain ⟨a1, a2⟩ := betO_is_none.1 h
    rcases Nat.lt_or_ge j n with h3 | h3
    · exact bestO_none a1 j h3
    · obtain rfl : j = n := by omega
      exact a2
/-- The first number that something is so of. -/
def firstN (q : Nat → Bool) : Nat → Nat → Nat
  | 0, k => k
  | m + 1, k => if q k then k else firstN q m (k + 1)
theorem firstN_eq {q : Nat → Bool} : ∀ {m k j : Nat}, k ≤ j → j < k + m → q j = true → (∀ i, k ≤ i → i < j → q i = false) → firstN q m k = j
  | 0, k, j, h1, h2, _, _ => by omega
  | m + 1, k, j, h1, h2, h3, h4 => by
    unfold firstN
    by_cases h : k = j
    · subst h; rw [if_pos h3]
    · rw [if_neg (by rw [h4 k (Nat.le_refl _) (by omega)]; decide)]
      exact firstN_eq (by omega) (by omega) h3 fun i hi => h4 i (by omega)
/-- The first choices with which the melody ends, when so many may be not usual. -/
def chooseL (e : I4) : List (List I4) → I4 → Nat → List Nat
  | [], _, _ => []
  | c :: cs, i, left =>
    let n := firstN (fun n => decide (tryO (fewL e cs) c i n = some left)) c.length 0
    n :: chooseL e cs (addI i (c.getD n zeroI)) (left - min n 1)
theorem tryO_some {f : I4 → Option Nat} {c : List I4} {i : I4} {n m : Nat} (h : tryO f c i n = some m) : rightB (addI i (c.getD n zeroI)) = true ∧ ∃ r, f (addI i (c.getD n zeroI)) = some r ∧ m = r + min n 1 := by
  unfold tryO at h
  split at h
  · rename_i h1
    obtain ⟨r, hr, e⟩ := Option.map_eq_some_iff.1 h
    exact ⟨h1, r, hr, e.symm⟩
  · cases h
/-- One step of the first way. -/
theorem choose_step {e : I4} {c : List I4} {cs : List (List I4)} {i : I4} {left : Nat} (h : fewL e (c :: cs) i = some left) :
    ∃ n r, n < c.length ∧ firstN (fun n => decide (tryO (fewL e cs) c i n = some left)) c.length 0 = n ∧ rightB (addI i (c.getD n zeroI)) = true ∧ fewL e cs (addI i (c.getD n zeroI)) = some r ∧ left = r + min n 1 ∧ (∀ j, j < n → tryO (fewL e cs) c i j ≠ some left) ∧
      chooseL e (c :: cs) i left = n :: chooseL e cs (addI i (c.getD n zeroI)) r := by
  obtain ⟨n, h1, h2, h3, h4⟩ := bestO_some (g := tryO (fewL e cs) c i) h
  obtain ⟨h5, r, h6, h7⟩ := tryO_some h2
  have hf : firstN (fun n => decide (tryO (fewL e cs) c i n = some left)) c.length 0 = n := firstN_eq (Nat.zero_le _) (by omega) (by simp [h2]) fun j _ hj => by simp [h4 j hj]
  refine ⟨n, r, h1, hf, h5, h6, h7, h4, ?_⟩
  show _ :: _ = _
  rw [hf]
  congr 2
  omega
theorem choose_len (e : I4) : ∀ (cs : List (List I4)) (i : I4) (left : Nat), (chooseL e cs i left).length = cs.length
  | [], _, _ => rfl
  | c :: cs, i, left => by
    show (_ :: _).length = _
    rw [List.length_cons, List.length_cons, choose_len e cs]

/-! ### the document's search -/
/-- The document's search: all choices are tried, the first one with the fewest is kept. -/
def heldF (e : I4) : List (List I4) → List Nat → I4 → Nat → Option (List Nat × Nat) → Option (List Nat × Nat)
  | [], taken, i, n, st => if rightB i then (if i = e ∧ (∀ x, st.map (·.2) = some x → n < x) then some (taken, n) else st) else st
  | c :: cs, taken, i, n, st => if rightB i then (List.range c.length).foldl (fun st k => heldF e cs (taken ++ [k]) (addI i (c.getD k zeroI)) (n + min k 1) st) st else st
/-- A better answer takes the place of one. -/
def impF (st : Option (List Nat × Nat)) (o : Option Nat) (t : List Nat) (n : Nat) : Option (List Nat × Nat) :=
  match o with
  | none => st
  | some m => match st with
    | none => some (t, n + m)
    | some s => if n + m < s.2 then some (t, n + m) else some s
instance (e : I4) (i : I4) (n : Nat) (st : Option (List Nat × Nat)) : Decidable (i = e ∧ (∀ x, st.map (·.2) = some x → n < x)) :=
  match st with
  | none => if h : i = e then .isTrue ⟨h, fun x hx => by cases hx⟩ else .isFalse fun k => h k.1
  | some s => if h : i = e ∧ n < s.2 then .isTrue ⟨h.1, fun x hx => by cases hx; exact h.2⟩ else .isFalse fun k => h ⟨k.1, k.2 _ rfl⟩
theorem held_is (e : I4) : ∀ (cs : List (List I4)) (taken : List Nat) (i : I4) (n : Nat) (st : Option (List Nat × Nat)), rightB i = true →
    heldF e cs taken i n st = impF st (fewL e cs i) (taken ++ chooseL e cs i ((fewL e cs i).getD 0)) n
  | [], taken, i, n, st, hr => by
    unfold heldF fewL
    rw [if_pos hr]
    by_cases h : i = e
    · rw [if_pos h]
      show _ = impF st (some 0) (taken ++ []) n
      rw [List.append_nil]
      cases st with
      | none => rw [if_pos ⟨h, fun x hx => by cases hx⟩]; rfl
      | some s =>
        by_cases h2 : n < s.2
        · rw [if_pos ⟨h, fun x hx => by cases hx; exact h2⟩]
          unfold impF
          simp only [Nat.add_zero]
          rw [if_pos h2]
        · rw [if_neg fun k => h2 (k.2 _ rfl)]
          unfold impF
          simp only [Nat.add_zero]
          rw [if_neg h2]
    · rw [if_neg h, if_neg fun k => h k.1]
      rfl
  | c :: cs, taken, i, n, st, hr => by
    unfold heldF
    rw [if_pos hr]
    have step : ∀ k st, k < c.length → heldF e cs (taken ++ [k]) (addI i (c.getD k zeroI)) (n + min k 1) st = impF st (tryO (fewL e cs) c i k) (taken ++ k :: chooseL e cs (addI i (c.getD k zeroI)) ((tryO (fewL e cs) c i k).getD 0 - min k 1)) n := by
      intro k st hk
      by_cases h : rightB (addI i (c.getD k zeroI)) = true
      · rw [held_is e cs _ _ _ _ h]
        unfold tryO
        rw [if_pos h]
        cases fewL e cs (addI i (c.getD k zeroI)) with
        | none => rfl
        | some m =>
          have e1 : taken ++ [k] ++ chooseL e cs (addI i (c.getD k zeroI)) m = taken ++ k :: chooseL e cs (addI i (c.getD k zeroI)) m := by rw [List.append_assoc]; rfl
          have e2 : m + min k 1 - min k 1 = m := by omega
          have e3 : n + min k 1 + m = n + (m + min k 1) := by omega
          simp only [Option.map_some, Option.getD_some, e2]
          unfold impF
          simp only [e1, e3]
      · have h0 : tryO (fewL e cs) c i k = none := by unfold tryO; rw [if_neg h]
        rw [h0]
        cases cs with
        | nil => unfold heldF; rw [if_neg h]; rfl
        | cons c2 cs => unfold heldF; rw [if_neg h]; rfl
    have fold : ∀ m, m ≤ c.length → (List.range m).foldl (fun st k => heldF e cs (taken ++ [k]) (addI i (c.getD k zeroI)) (n + min k 1) st) st =
        impF st (bestO (tryO (fewL e cs) c i) m) (taken ++ (let k := firstN (fun j => decide (tryO (fewL e cs) c i j = bestO (tryO (fewL e cs) c i) m)) m 0; k :: chooseL e cs (addI i (c.getD k zeroI)) ((bestO (tryO (fewL e cs) c i) m).getD 0 - min k 1))) n := by
      intro m
      induction m with
      | zero => intro _; rfl
      | succ m ih =>
        intro hm
        rw [List.range_succ, List.foldl_append, ih (by omega)]
        show heldF e cs (taken ++ [m]) (addI i (c.getD m zeroI)) (n + min m 1) _ = _
        rw [step m _ (by omega)]
        have hs : bestO (tryO (fewL e cs) c i) (m + 1) = betO (bestO (tryO (fewL e cs) c i) m) (tryO (fewL e cs) c i m) := rfl
        rw [hs]
        clear hs ih step
        generalize tryO (fewL e cs) c i = g
        show impF (impF st (bestO g m) _ n) (g m) _ n = impF st (betO (bestO g m) (g m)) _ n
        cases ha : bestO g m with
        | none =>
          have hno := bestO_none ha
          rw [betO_none_left]
          cases hb : g m with
          | none => rfl
          | some y =>
            have hf : firstN (fun j => decide (g j = betO (bestO g m) (g m))) (m + 1) 0 = m := firstN_eq (Nat.zero_le _) (by omega) (by rw [ha, betO_none_left]; simp) fun j _ hj => by rw [ha, betO_none_left, hno j hj, hb]; simp
            rw [ha, betO_none_left, hb] at hf
            simp only [hf]
            rfl
        | some x =>
          obtain ⟨k, k1, k2, k3, k4⟩ := bestO_some ha
          have hfk : firstN (fun j => decide (g j = some x)) m 0 = k := firstN_eq (Nat.zero_le _) (by omega) (by simp [k2]) fun j _ hj => by simp [k4 j hj]
          cases hb : g m with
          | none =>
            rw [betO_none_right]
            have hf : firstN (fun j => decide (g j = some x)) (m + 1) 0 = k := firstN_eq (Nat.zero_le _) (by omega) (by simp [k2]) fun j _ hj => by simp [k4 j hj]
            simp only [hfk, hf]
            rfl
          | some y =>
            by_cases hyx : y < x
            · have e1 : betO (some x) (some y) = some y := by rw [betO_both, if_pos hyx]
              have hf : firstN (fun j => decide (g j = some y)) (m + 1) 0 = m := firstN_eq (Nat.zero_le _) (by omega) (by simp [hb]) fun j _ hj => by
                simp only [decide_eq_false_iff_not]
                intro hj2
                have := k3 j y hj hj2
                omega
              rw [e1]
              simp only [hfk, hf, Option.getD_some]
              cases st with
              | none =>
                unfold impF
                simp only
                rw [if_pos (by omega)]
              | some s =>
                unfold impF
                simp only
                by_cases h5 : n + x < s.2
                · rw [if_pos h5]
                  simp only
                  rw [if_pos (by omega), if_pos (by omega)]
                · rw [if_neg h5]
            · have e1 : betO (some x) (some y) = some x := by rw [betO_both, if_neg hyx]
              have hf : firstN (fun j => decide (g j = some x)) (m + 1) 0 = k := firstN_eq (Nat.zero_le _) (by omega) (by simp [k2]) fun j _ hj => by simp [k4 j hj]
              rw [e1]
              simp only [hfk, hf, Option.getD_some]
              cases st with
              | none =>
                unfold impF
                simp only
                rw [if_neg (by omega)]
              | some s =>
                unfold impF
                simp only
                by_cases h5 : n + x < s.2
                · rw [if_pos h5]
                  simp only
                  rw [if_neg (by omega)]
                · rw [if_neg h5]
                  simp only
                  rw [if_neg (by omega)]
    rw [fold c.length (Nat.le_refl _)]
    show impF st (bestO (tryO (fewL e cs) c i) c.length) _ n = impF st (fewL e (c :: cs) i) _ n
    have hfe : fewL e (c :: cs) i = bestO (tryO (fewL e cs) c i) c.length := rfl
    rw [hfe]
    cases hb : bestO (tryO (fewL e cs) c i) c.length with
    | none => rfl
    | some x => rfl
end Go.Proofs.YtapjekpjekdlkaaDoor
