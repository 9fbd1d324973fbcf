/- Plain mathematics of giving singers to parts: what a search for a place leaves, and why the number that lacks is the greatest need of a set of parts. Conditions: none. -/
import Derived.Test.YtdehmioobkneiaaGreatDoorVsJ1
set_option linter.unusedSimpArgs false
set_option linter.unusedVariables false
namespace Go.Proofs.YtdehmioobkneiaaGreatDoor

section
variable (can : Nat → Nat → Bool) (lst : Nat → Nat) (n : Nat)
/-- Rows of singers who can sing their part, no row longer than its need. -/
def RowsOK (G : List (List Nat)) : Prop := G.length = n ∧ ∀ p r, G[p]? = some r → r.length ≤ lst p ∧ ∀ s ∈ r, can s p = true
/-- Parts that are full, whose singers have no part outside. -/
def ClosedT (G : List (List Nat)) (T : Nat → Prop) : Prop := ∀ p, T p → ∀ r, G[p]? = some r → lst p ≤ r.length ∧ ∀ s ∈ r, ∀ q, q < n → can s q = true → T q
def SeenL (S : List Bool) (q : Nat) : Prop := S[q]? = some true
/-- What a search for a place for singer i leaves. -/
structure GiveOK (i : Nat) (G : List (List Nat)) (S : List Bool) (b : Bool) (G' : List (List Nat)) (S' : List Bool) : Prop where
  len : S'.length = S.length
  up : ∀ q, SeenL S q → SeenL S' q
  fails : b = false → G' = G ∧ (∀ q, q < n → can i q = true → SeenL S' q) ∧ ∀ q, SeenL S' q → ¬ SeenL S q → ∀ r, G[q]? = some r → lst q ≤ r.length ∧ ∀ s ∈ r, ∀ x, x < n → can s x = true → SeenL S' x
  gives : b = true → RowsOK can lst n G' ∧ G'.flatten.Perm (i :: G.flatten) ∧ ∀ q, SeenL S q → G'[q]? = G[q]?
  away : ∀ T, ClosedT can lst n G T → ((∀ q, q < n → can i q = true → T q) → b = false) ∧ (b = true → ∀ q, T q → G'[q]? = G[q]?)
/-- The search for singer i, when the parts ahead of p were looked at. -/
structure GiveAt (i p : Nat) (G : List (List Nat)) (S S1 : List Bool) : Prop where
  len : S1.length = S.length
  up : ∀ q, SeenL S q → SeenL S1 q
  front : ∀ q, q < p → q < n → can i q = true → SeenL S1 q
  shut : ∀ q, SeenL S1 q → ¬ SeenL S q → ∀ r, G[q]? = some r → lst q ≤ r.length ∧ ∀ s ∈ r, ∀ x, x < n → can s x = true → SeenL S1 x
/-- The search for singer i at part p, when the first k singers of the part were asked. -/
structure GiveIn (i p k : Nat) (G : List (List Nat)) (S S1 : List Bool) : Prop where
  len : S1.length = S.length
  up : ∀ q, SeenL S q → SeenL S1 q
  front : ∀ q, q < p → q < n → can i q = true → SeenL S1 q
  here : SeenL S1 p
  full : ∀ r, G[p]? = some r → lst p ≤ r.length ∧ ∀ j s, j < k → r[j]? = some s → ∀ x, x < n → can s x = true → SeenL S1 x
  shut : ∀ q, q ≠ p → SeenL S1 q → ¬ SeenL S q → ∀ r, G[q]? = some r → lst q ≤ r.length ∧ ∀ s ∈ r, ∀ x, x < n → can s x = true → SeenL S1 x
end
section
variable {can : Nat → Nat → Bool} {lst : Nat → Nat} {n : Nat} {i p k : Nat} {G : List (List Nat)} {S S1 : List Bool}
theorem seen_set {S : List Bool} {p q : Nat} (hp : p < S.length) : SeenL (S.set p true) q ↔ q = p ∨ SeenL S q := by
  unfold SeenL
  rw [List.getElem?_set]
  by_cases h : p = q
  · subst h
    rw [if_pos rfl, if_pos hp]; simp
  · rw [if_neg h]
    constructor
    · exact .inr
    · rintro (e | e)
      · exact absurd e.symm h
      · exact e
theorem GiveAt.start : GiveAt can lst n i 0 G S S := ⟨rfl, fun _ h => h, (fun q h => absurd h (Nat.not_lt_zero q)), fun q h h2 => absurd h h2⟩
theorem GiveAt.skip (h : GiveAt can lst n i p G S S1) (hs : SeenL S1 p ∨ can i p = false) : GiveAt can lst n i (p + 1) G S S1 :=
  ⟨h.len, h.up, (fun q hq hn hc => by
    rcases Nat.lt_or_ge q p with hlt | hge
    · exact h.front q hlt hn hc
    · obtain rfl : q = p := by omega
      rcases hs with hs | hs
      · exact hs
      · rw [hs] at hc; cases hc), h.shut⟩
theorem GiveAt.enter (h : GiveAt can lst n i p G S S1) (hp : p < S.length) (hf : ∀ r, G[p]? = some r → lst p ≤ r.length) : GiveIn can lst n i p 0 G S (S1.set p true) := by
  have e : ∀ q, SeenL (S1.set p true) q ↔ q = p ∨ SeenL S1 q := fun q => seen_set (by rw [h.len]; exact hp)
  refine ⟨by rw [List.length_set, h.len], fun q hq => (e q).2 (.inr (h.up q hq)), fun q h1 h2 h3 => (e q).2 (.inr (h.front q h1 h2 h3)), (e p).2 (.inl rfl), fun r hr => ⟨hf r hr, (fun j s hj => absurd hj (Nat.not_lt_zero j))⟩, fun q hqp hq hqs r hr => ?_⟩
  obtain ⟨h1, h2⟩ := h.shut q (((e q).1 hq).resolve_left hqp) hqs r hr
  exact ⟨h1, fun s hs x hx hc => (e x).2 (.inr (h2 s hs x hx hc))⟩
theorem GiveIn.next {S2 : List Bool} {o : Nat} {r : List Nat} (h : GiveIn can lst n i p k G S S1) (hr : G[p]? = some r) (ho : r[k]? = some o) {G' : List (List Nat)} (hg : GiveOK can lst n o G S1 false G' S2) : GiveIn can lst n i p (k + 1) G S S2 := by
  obtain ⟨-, f2, f3⟩ := hg.fails rfl
  refine ⟨by rw [hg.len, h.len], fun q hq => hg.up q (h.up q hq), fun q h1 h2 h3 => hg.up q (h.front q h1 h2 h3), hg.up p h.here, fun r' hr' => ?_, fun q hqp hq hqs r' hr' => ?_⟩
  · rw [hr] at hr'; cases hr'
    obtain ⟨h1, h2⟩ := h.full r hr
    refine ⟨h1, fun j s hj hs x hx hc => ?_⟩
    rcases Nat.lt_or_ge j k with hlt | hge
    · exact hg.up x (h2 j s hlt hs x hx hc)
    · obtain rfl : j = k := by omega
      rw [ho] at hs; cases hs
      exact f2 x hx hc
  · by_cases h1 : SeenL S1 q
    · obtain ⟨a1, a2⟩ := h.shut q hqp h1 hqs r' hr'
      exact ⟨a1, fun s hs x hx hc => hg.up x (a2 s hs x hx hc)⟩
    · exact f3 q hq h1 r' hr'
theorem GiveIn.leave {r : List Nat} (h : GiveIn can lst n i p k G S S1) (hr : G[p]? = some r) (hk : r.length ≤ k) : GiveAt can lst n i (p + 1) G S S1 := by
  refine ⟨h.len, h.up, fun q hq hn hc => ?_, fun q hq hqs r' hr' => ?_⟩
  · rcases Nat.lt_or_ge q p with hlt | hge
    · exact h.front q hlt hn hc
    · obtain rfl : q = p := by omega
      exact h.here
  · by_cases e : q = p
    · subst e
      rw [hr] at hr'; cases hr'
      obtain ⟨h1, h2⟩ := h.full r hr
      refine ⟨h1, fun s hs x hx hc => ?_⟩
      obtain ⟨j, hj⟩ := List.getElem?_of_mem hs
      have := (List.getElem?_eq_some_iff.1 hj).1
      exact h2 j s (by omega) hj x hx hc
    · exact h.shut q e hq hqs r' hr'
theorem GiveAt.fail (h : GiveAt can lst n i p G S S1) (hp : n ≤ p) : GiveOK can lst n i G S false G S1 :=
  ⟨h.len, h.up, fun _ => ⟨rfl, fun q hq hc => h.front q (by omega) hq hc, h.shut⟩, (fun e => by cases e), fun _ _ => ⟨fun _ => rfl, (fun e => by cases e)⟩⟩

theorem flatten_set_perm : ∀ {G : List (List Nat)} {p : Nat} {r r' : List Nat} {x y : Nat}, G[p]? = some r → (y :: r').Perm (x :: r) → (y :: (G.set p r').flatten).Perm (x :: G.flatten)
  | [], p, r, r', x, y, h, _ => by simp at h
  | g :: G, 0, r, r', x, y, h, hp => by
    obtain rfl : g = r := by simpa using h
    simp only [List.set_cons_zero, List.flatten_cons]
    exact hp.append_right G.flatten
  | g :: G, p + 1, r, r', x, y, h, hp => by
    have ih := flatten_set_perm (G := G) (p := p) (by simpa using h) hp
    simp only [List.set_cons_succ, List.flatten_cons]
    have e1 : (y :: (g ++ (G.set p r').flatten)).Perm (g ++ (y :: (G.set p r').flatten)) := List.perm_middle.symm
    have e2 : (x :: (g ++ G.flatten)).Perm (g ++ (x :: G.flatten)) := List.perm_middle.symm
    exact e1.trans ((ih.append_left g).trans e2.symm)
theorem flatten_snoc_perm {r : List Nat} (hr : G[p]? = some r) : (G.set p (r ++ [i])).flatten.Perm (i :: G.flatten) := by
  have h : ∀ {G : List (List Nat)} {p : Nat}, G[p]? = some r → (G.set p (r ++ [i])).flatten.Perm (i :: G.flatten) := by
    intro G
    induction G with
    | nil => intro p h; simp at h
    | cons g G ih =>
      intro p h
      cases p with
      | zero =>
        obtain rfl : g = r := by simpa using h
        simp only [List.set_cons_zero, List.flatten_cons, List.append_assoc]
        exact List.perm_middle
      | succ p =>
        simp only [List.set_cons_succ, List.flatten_cons]
        exact ((ih (by simpa using h)).append_left g).trans List.perm_middle
  exact h hr
theorem RowsOK.set (h : RowsOK can lst n G) {r : List Nat} (h1 : r.length ≤ lst p) (h2 : ∀ s ∈ r, can s p = true) : RowsOK can lst n (G.set p r) := by
  refine ⟨by rw [List.length_set]; exact h.1, fun q r' hq => ?_⟩
  rw [List.getElem?_set] at hq
  by_cases e : p = q
  · subst e
    rw [if_pos rfl] at hq
    split at hq
    · cases hq; exact ⟨h1, h2⟩
    · cases hq
  · rw [if_neg e] at hq
    exact h.2 q r' hq
/-- A place that is free. -/
theorem GiveAt.free (h : GiveAt can lst n i p G S S1) (hG : RowsOK can lst n G) (hp : p < S.length) (hs : ¬ SeenL S1 p) (hc : can i p = true) {r : List Nat} (hr : G[p]? = some r) (hl : r.length < lst p) : GiveOK can lst n i G S true (G.set p (r ++ [i])) (S1.set p true) := by
  have e : ∀ q, SeenL (S1.set p true) q ↔ q = p ∨ SeenL S1 q := fun q => seen_set (by rw [h.len]; exact hp)
  have hne : ∀ q, q ≠ p → (G.set p (r ++ [i]))[q]? = G[q]? := fun q hq => by rw [List.getElem?_set, if_neg (fun e => hq e.symm)]
  have hpn : p < n := by rw [← hG.1]; exact (List.getElem?_eq_some_iff.1 hr).1
  refine ⟨by rw [List.length_set, h.len], fun q hq => (e q).2 (.inr (h.up q hq)), (fun e => by cases e), fun _ => ⟨hG.set (by rw [List.length_append, List.length_singleton]; omega) (fun s hs => ?_), flatten_snoc_perm hr, fun q hq => hne q fun e => hs (e ▸ h.up q hq)⟩, fun T hT => ⟨fun h1 => ?_, fun _ q hq => hne q fun e => ?_⟩⟩
  · rcases List.mem_append.1 hs with h1 | h1
    · exact (hG.2 p r hr).2 s h1
    · obtain rfl : s = i := by simpa using h1
      exact hc
  · have := (hT p (h1 p hpn hc) r hr).1
    omega
  · subst e
    have := (hT q hq r hr).1
    omega
/-- A place that another singer leaves. -/
theorem GiveIn.moved {S2 : List Bool} {o : Nat} {r : List Nat} {G' : List (List Nat)} (h : GiveIn can lst n i p k G S S1) (hG : RowsOK can lst n G) (hs : ¬ SeenL S p) (hc : can i p = true) (hr : G[p]? = some r) (ho : r[k]? = some o)
    (hg : GiveOK can lst n o G S1 true G' S2) : G'[p]? = some r ∧ GiveOK can lst n i G S true (G'.set p (r.set k i)) S2 := by
  obtain ⟨g1, g2, g3⟩ := hg.gives rfl
  have hr' : G'[p]? = some r := by rw [g3 p h.here]; exact hr
  have hpn : p < n := by rw [← hG.1]; exact (List.getElem?_eq_some_iff.1 hr).1
  have hne : ∀ q, q ≠ p → (G'.set p (r.set k i))[q]? = G'[q]? := fun q hq => by rw [List.getElem?_set, if_neg (fun e => hq e.symm)]
  have hkl := (List.getElem?_eq_some_iff.1 ho).1
  have hT0 : ∀ T, ClosedT can lst n G T → ¬ T p := fun T hT h1 => by
    have := (hg.away T hT).1 fun q hq hcq => (hT p h1 r hr).2 o (List.mem_of_getElem? ho) q hq hcq
    cases this
  refine ⟨hr', by rw [hg.len, h.len], fun q hq => hg.up q (h.up q hq), (fun e => by cases e), fun _ => ⟨g1.set (by rw [List.length_set]; exact (g1.2 p r hr').1) (fun s hs => ?_), ?_, fun q hq => ?_⟩, fun T hT => ⟨fun h1 => absurd (h1 p hpn hc) (hT0 T hT), fun _ q hq => ?_⟩⟩
  · rcases List.mem_or_eq_of_mem_set hs with h1 | h1
    · exact (g1.2 p r hr').2 s h1
    · rw [h1]; exact hc
  · have h2 : (o :: r.set k i).Perm (i :: r) := by
      obtain ⟨hk, e⟩ := List.getElem?_eq_some_iff.1 ho
      have e1 : r = r.take k ++ (o :: r.drop (k + 1)) := by rw [← e, ← List.drop_eq_getElem_cons hk, List.take_append_drop]
      have e2 : r.set k i = r.take k ++ (i :: r.drop (k + 1)) := by rw [List.set_eq_take_append_cons_drop, if_pos hk]
      rw [e2]
      have e3 : (i :: r).Perm (i :: (r.take k ++ (o :: r.drop (k + 1)))) := by rw [← e1]
      refine List.Perm.trans ?_ e3.symm
      exact ((List.perm_middle (a := i)).cons o).trans ((List.Perm.swap i o _).trans ((List.perm_middle (a := o)).symm.cons i))
    have h3 := flatten_set_perm hr' h2
    have h4 : (o :: (G'.set p (r.set k i)).flatten).Perm (o :: (i :: G.flatten)) := h3.trans ((g2.cons i).trans (List.Perm.swap o i _))
    exact h4.cons_inv
  · have hqp : q ≠ p := fun e => hs (e ▸ hq)
    rw [hne q hqp, g3 q (h.up q hq)]
  · have hqp : q ≠ p := fun e => hT0 T hT (e ▸ hq)
    rw [hne q hqp]
    exact (hg.away T hT).2 rfl q hq
/-- How many parts are not seen. -/
def unseen (S : List Bool) : Nat := (S.filter (!·)).length
theorem unseen_up : ∀ {S S1 : List Bool}, S1.length = S.length → (∀ q, SeenL S q → SeenL S1 q) → unseen S1 ≤ unseen S
  | [], [], _, _ => Nat.le_refl _
  | [], _ :: _, h, _ => by simp at h
  | _ :: _, [], h, _ => by simp at h
  | a :: S, b :: S1, h, hu => by
    have ih := unseen_up (S := S) (S1 := S1) (by simpa using h) fun q hq => by have := hu (q + 1) (by simpa [SeenL] using hq); simpa [SeenL] using this
    have h0 := hu 0
    unfold unseen at ih ⊢
    simp only [SeenL, List.getElem?_cons_zero, Option.some.injEq] at h0
    cases a <;> cases b <;> simp at h0 ⊢ <;> omega
theorem unseen_set : ∀ {S : List Bool} {p : Nat}, S[p]? = some false → unseen (S.set p true) + 1 = unseen S
  | [], p, h => by simp at h
  | a :: S, 0, h => by
    obtain rfl : a = false := by simpa using h
    simp [unseen]
  | a :: S, p + 1, h => by
    have ih := unseen_set (S := S) (p := p) (by simpa using h)
    unfold unseen at ih ⊢
    cases a <;> simp at ih ⊢ <;> omega
theorem GiveIn.less (h : GiveIn can lst n i p k G S S1) (hs : S[p]? = some false) : unseen S1 < unseen S := by
  have hp := (List.getElem?_eq_some_iff.1 hs).1
  have h1 := unseen_set hs
  have h2 : unseen S1 ≤ unseen (S.set p true) := unseen_up (by rw [List.length_set]; exact h.len) fun q hq => by
    rcases (seen_set hp).1 hq with rfl | hq
    · exact h.here
    · exact h.up q hq
  omega
end
end Go.Proofs.YtdehmioobkneiaaGreatDoor
