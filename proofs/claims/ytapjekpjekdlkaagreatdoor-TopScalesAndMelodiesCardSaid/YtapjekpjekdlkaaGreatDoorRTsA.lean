/- A melody in a scale: its steps, plain. Conditions: as each theorem says. -/
import Derived.Test.YtapjekpjekdlkaaGreatDoorRJ19
import Derived.Test.YtapjekpjekdlkaaGreatDoorRMeL
import Derived.Test.YtapjekpjekdlkaaGreatDoorRJ39
set_option linter.unusedSimpArgs false
set_option linter.unusedVariables false
namespace Go.Proofs.YtapjekpjekdlkaaGreatDoor
open Go Go.RowKit

/-- The interval of two notes of a scale. -/
def bt (xs : List I4) (a b : Nat) : I4 := betI (xs.getD (a % 12) zeroI) (xs.getD (b % 12) zeroI) a b
theorem sc_at {xs : List I4} (h : ScaleOk xs) (n : Nat) : xs[n % 12]? = some (xs.getD (n % 12) zeroI) := by
  rw [List.getD_eq_getElem?_getD, List.getElem?_eq_getElem (by have := h.len; omega)]; rfl
theorem sc_right {xs : List I4} (h : ScaleOk xs) (n : Nat) : rightB (xs.getD (n % 12) zeroI) = true := h.right _ (List.mem_of_getElem? (sc_at h n))
theorem bt_sum {xs : List I4} (h : ScaleOk xs) {a b c : Nat} (ha : a ≤ 127) (hb : b ≤ 127) (hc : c ≤ 127) : addI (bt xs a b) (bt xs b c) = bt xs a c := bet_sum (sc_right h a) (sc_right h b) (sc_right h c) ha hb hc
theorem bt_base {xs : List I4} (h : ScaleOk xs) {q n : Nat} (hq : q ≤ 8) (h1 : q * 12 ≤ n) (h2 : n ≤ q * 12 + 11) : bt xs (q * 12) n = xs.getD (n % 12) zeroI := by
  unfold bt
  rw [bet_plain (sc_right h _) (sc_right h _) (by omega) (by omega)]
  have e0 : q * 12 % 12 = 0 := by omega
  have e1 : xs.getD (q * 12 % 12) zeroI = zeroI := by rw [e0, List.getD_eq_getElem?_getD, h.zero]; rfl
  rw [e1, show n / 12 = q by omega, show q * 12 / 12 = q by omega]
  generalize xs.getD (n % 12) zeroI = y
  unfold I4.up I4.sub_ zeroI
  refine I4.eq ?_ ?_ ?_ ?_ <;> (simp only; omega)
theorem bt_right {xs : List I4} (h : ScaleOk xs) {q n : Nat} (hq : q ≤ 8) (h1 : q * 12 ≤ n) (h2 : n ≤ q * 12 + 11) : rightB (bt xs (q * 12) n) = true := by
  rw [bt_base h hq h1 h2]; exact sc_right h n

/-- Notes of a scale, and the steps that lead from one to the next. -/
structure ScM (xs : List I4) (q : Nat) (N : List Nat) (X : List StepV) : Prop where
  base : N[0]? = some (q * 12)
  range : ∀ n ∈ N, q * 12 ≤ n ∧ n ≤ q * 12 + 11
  few : X.length + 1 ≤ N.length
  rise : X.Pairwise fun x y => x.size < y.size
  small : ∀ x ∈ X, -11 ≤ x.size ∧ x.size ≤ 11
  ch : ∀ x ∈ X, 1 ≤ x.cs.length ∧ x.cs.length ≤ 4 ∧ x.cs.Nodup ∧ ∀ c ∈ x.cs, rightB c = true
  gaps : ∀ (i a b : Nat), N[i]? = some a → N[i + 1]? = some b → ∃ x ∈ X, x.size = (b : Int) - a ∧ bt xs a b ∈ x.cs
theorem ScM.start (xs : List I4) (q : Nat) : ScM xs q [q * 12] [] :=
  ⟨rfl, fun n hn => by rw [List.mem_singleton.1 hn]; omega, Nat.le_refl _, List.Pairwise.nil, (fun x hx => by cases hx), (fun x hx => by cases hx), fun i a b _ hb => by simp at hb⟩
theorem ScM.next {xs : List I4} {q : Nat} {N : List Nat} {X X' : List StepV} (h : ScM xs q N X) {l n : Nat} (hl : N[N.length - 1]? = some l) (hn : q * 12 ≤ n ∧ n ≤ q * 12 + 11)
    (hf : X'.length ≤ X.length + 1) (hr : X'.Pairwise fun x y => x.size < y.size) (hs : ∀ x ∈ X', -11 ≤ x.size ∧ x.size ≤ 11) (hc : ∀ x ∈ X', 1 ≤ x.cs.length ∧ x.cs.length ≤ 4 ∧ x.cs.Nodup ∧ ∀ c ∈ x.cs, rightB c = true)
    (ho : ∀ x ∈ X, ∃ y ∈ X', y.size = x.size ∧ ∀ c ∈ x.cs, c ∈ y.cs) (hi : ∃ y ∈ X', y.size = (n : Int) - l ∧ bt xs l n ∈ y.cs) : ScM xs q (N ++ [n]) X' := by
  have hN := (List.getElem?_eq_some_iff.1 h.base).1
  refine ⟨by rw [List.getElem?_append_left hN]; exact h.base, fun m hm => ?_, by rw [List.length_append, List.length_singleton]; have := h.few; omega, hr, hs, hc, fun i a b ha hb => ?_⟩
  · rcases List.mem_append.1 hm with h1 | h1
    · exact h.range m h1
    · rw [List.mem_singleton.1 h1]; exact hn
  · have hb1 := (List.getElem?_eq_some_iff.1 hb).1
    rw [List.length_append, List.length_singleton] at hb1
    rw [List.getElem?_append_left (by omega)] at ha
    by_cases h1 : i + 1 < N.length
    · rw [List.getElem?_append_left h1] at hb
      obtain ⟨x, hx, e1, e2⟩ := h.gaps i a b ha hb
      obtain ⟨y, hy, e3, e4⟩ := ho x hx
      exact ⟨y, hy, e3.trans e1, e4 _ e2⟩
    · rw [List.getElem?_append_right (by omega), show i + 1 - N.length = 0 by omega] at hb
      cases hb
      rw [show i = N.length - 1 by omega, hl] at ha
      cases ha
      exact hi
/-- The first step that is not less. -/
theorem ScM.app {xs : List I4} {q : Nat} {N : List Nat} {X : List StepV} (h : ScM xs q N X) {l n : Nat} (hl : N[N.length - 1]? = some l) (hn : q * 12 ≤ n ∧ n ≤ q * 12 + 11) (hr : rightB (bt xs l n) = true)
    (hk : ∀ x ∈ X, x.size < (n : Int) - l) : ScM xs q (N ++ [n]) (X ++ [⟨(n : Int) - l, [bt xs l n]⟩]) := by
  have hlr := h.range l (List.mem_of_getElem? hl)
  refine h.next hl hn (by simp) (List.pairwise_append.2 ⟨h.rise, List.pairwise_singleton _ _, fun x hx y hy => by rw [List.mem_singleton.1 hy]; exact hk x hx⟩) (fun x hx => ?_) (fun x hx => ?_) (fun x hx => ⟨x, List.mem_append_left _ hx, rfl, fun c hc => hc⟩) ⟨_, List.mem_append_right _ (List.mem_singleton.2 rfl), rfl, List.mem_singleton.2 rfl⟩
  · rcases List.mem_append.1 hx with h1 | h1
    · exact h.small x h1
    · rw [List.mem_singleton.1 h1]; simp only; omega
  · rcases List.mem_append.1 hx with h1 | h1
    · exact h.ch x h1
    · rw [List.mem_singleton.1 h1]
      exact ⟨Nat.le_refl _, (show (1 : Nat) ≤ 4 by decide), by simp, fun c hc => by rw [List.mem_singleton.1 hc]; exact hr⟩
theorem ScM.ins {xs : List I4} {q : Nat} {N : List Nat} {X : List StepV} (h : ScM xs q N X) {l n k : Nat} (hl : N[N.length - 1]? = some l) (hn : q * 12 ≤ n ∧ n ≤ q * 12 + 11) (hr : rightB (bt xs l n) = true)
    {y : StepV} (hy : X[k]? = some y) (hlo : ∀ i x, i < k → X[i]? = some x → x.size < (n : Int) - l) (hge : (n : Int) - l ≤ y.size) (hne : y.size ≠ (n : Int) - l) : ScM xs q (N ++ [n]) (X.take k ++ ⟨(n : Int) - l, [bt xs l n]⟩ :: X.drop k) := by
  have hlr := h.range l (List.mem_of_getElem? hl)
  have hkl := (List.getElem?_eq_some_iff.1 hy).1
  have hmem : ∀ x, x ∈ X.take k ++ (⟨(n : Int) - l, [bt xs l n]⟩ : StepV) :: X.drop k → x ∈ X ∨ x = ⟨(n : Int) - l, [bt xs l n]⟩ := fun x hx => by
    rcases List.mem_append.1 hx with h1 | h1
    · exact .inl (List.mem_of_mem_take h1)
    · rcases List.mem_cons.1 h1 with h2 | h2
      · exact .inr h2
      · exact .inl (List.mem_of_mem_drop h2)
  have hlow : ∀ x ∈ X.take k, x.size < (n : Int) - l := fun x hx => by
    obtain ⟨i, hi⟩ := List.mem_iff_getElem?.1 hx
    rw [List.getElem?_take] at hi
    split at hi
    · rename_i h1; exact hlo i x h1 hi
    · cases hi
  have hup : ∀ x ∈ X.drop k, (n : Int) - l < x.size := fun x hx => by
    obtain ⟨i, hi⟩ := List.mem_iff_getElem?.1 hx
    rw [List.getElem?_drop] at hi
    rcases Nat.eq_zero_or_pos i with h0 | h0
    · subst h0
      rw [Nat.add_zero, hy] at hi
      cases hi; omega
    · obtain ⟨h1, e1⟩ := List.getElem?_eq_some_iff.1 hi
      obtain ⟨h2, e2⟩ := List.getElem?_eq_some_iff.1 hy
      have := List.pairwise_iff_getElem.1 h.rise k (k + i) h2 h1 (by omega)
      rw [e1, e2] at this
      omega
  have hs := h.rise
  rw [← List.take_append_drop k X] at hs
  obtain ⟨p1, p2, p3⟩ := List.pairwise_append.1 hs
  refine h.next hl hn (by simp only [List.length_append, List.length_take, List.length_cons, List.length_drop]; omega) (List.pairwise_append.2 ⟨p1, List.pairwise_cons.2 ⟨fun x hx => hup x hx, p2⟩, fun x hx y hy => ?_⟩) (fun x hx => ?_) (fun x hx => ?_) (fun x hx => ⟨x, ?_, rfl, fun c hc => hc⟩) ⟨_, List.mem_append_right _ (List.mem_cons_self), rfl, List.mem_singleton.2 rfl⟩
  · rcases List.mem_cons.1 hy with h2 | h2
    · rw [h2]; exact hlow x hx
    · exact p3 x hx y h2
  · rcases hmem x hx with h1 | h1
    · exact h.small x h1
    · rw [h1]; simp only; omega
  · rcases hmem x hx with h1 | h1
    · exact h.ch x h1
    · rw [h1]
      exact ⟨Nat.le_refl _, (show (1 : Nat) ≤ 4 by decide), by simp, fun c hc => by rw [List.mem_singleton.1 hc]; exact hr⟩
  · rw [← List.take_append_drop k X] at hx
    rcases List.mem_append.1 hx with h1 | h1
    · exact List.mem_append_left _ h1
    · exact List.mem_append_right _ (List.mem_cons_of_mem _ h1)
theorem ScM.same {xs : List I4} {q : Nat} {N : List Nat} {X : List StepV} (h : ScM xs q N X) {l n : Nat} (hl : N[N.length - 1]? = some l) (hn : q * 12 ≤ n ∧ n ≤ q * 12 + 11) {y : StepV} (hy : y ∈ X) (he : y.size = (n : Int) - l) (hc : bt xs l n ∈ y.cs) : ScM xs q (N ++ [n]) X :=
  h.next hl hn (by omega) h.rise h.small h.ch (fun x hx => ⟨x, hx, rfl, fun c hc => hc⟩) ⟨y, hy, he, hc⟩
theorem ScM.more {xs : List I4} {q : Nat} {N : List Nat} {X : List StepV} (h : ScM xs q N X) {l n k : Nat} (hl : N[N.length - 1]? = some l) (hn : q * 12 ≤ n ∧ n ≤ q * 12 + 11) (hr : rightB (bt xs l n) = true) {y : StepV} (hy : X[k]? = some y) (he : y.size = (n : Int) - l) (hc : bt xs l n ∉ y.cs) (h4 : y.cs.length ≠ 4) :
    ScM xs q (N ++ [n]) (X.set k ⟨y.size, y.cs ++ [bt xs l n]⟩) := by
  have hkl := (List.getElem?_eq_some_iff.1 hy).1
  obtain ⟨c1, c2, c3, c4⟩ := h.ch y (List.mem_of_getElem? hy)
  have hsz : ∀ i, i < X.length → ∀ x, (X.set k ⟨y.size, y.cs ++ [bt xs l n]⟩)[i]? = some x → ∃ z, X[i]? = some z ∧ x.size = z.size := fun i hi x hx => by
    rw [List.getElem?_set] at hx
    split at hx
    · rename_i e
      subst e
      cases hx
      exact ⟨y, hy, rfl⟩
    · exact ⟨x, hx, rfl⟩
  have hmem : ∀ x, x ∈ X.set k ⟨y.size, y.cs ++ [bt xs l n]⟩ → x ∈ X ∨ x = ⟨y.size, y.cs ++ [bt xs l n]⟩ := fun x hx => List.mem_or_eq_of_mem_set hx
  refine h.next hl hn (by rw [List.length_set]; omega) (List.pairwise_iff_getElem.2 fun i j hi hj hij => ?_) (fun x hx => ?_) (fun x hx => ?_) (fun x hx => ?_) ⟨⟨y.size, y.cs ++ [bt xs l n]⟩, List.mem_iff_getElem?.2 ⟨k, List.getElem?_set_self hkl⟩, he, List.mem_append_right _ (List.mem_singleton.2 rfl)⟩
  · rw [List.length_set] at hi hj
    obtain ⟨z1, a1, a2⟩ := hsz i hi _ (List.getElem?_eq_getElem (by rw [List.length_set]; exact hi))
    obtain ⟨z2, b1, b2⟩ := hsz j hj _ (List.getElem?_eq_getElem (by rw [List.length_set]; exact hj))
    rw [a2, b2]
    obtain ⟨g1, e1⟩ := List.getElem?_eq_some_iff.1 a1
    obtain ⟨g2, e2⟩ := List.getElem?_eq_some_iff.1 b1
    have := List.pairwise_iff_getElem.1 h.rise i j g1 g2 hij
    rw [e1, e2] at this
    exact this
  · rcases hmem x hx with h1 | h1
    · exact h.small x h1
    · rw [h1]; exact h.small y (List.mem_of_getElem? hy)
  · rcases hmem x hx with h1 | h1
    · exact h.ch x h1
    · rw [h1]
      refine ⟨by simp, by simp only [List.length_append, List.length_singleton]; omega, List.nodup_append.2 ⟨c3, by simp, fun a ha b hb e => by rw [List.mem_singleton] at hb; subst hb; subst e; exact hc ha⟩, fun c hc => ?_⟩
      rcases List.mem_append.1 hc with h2 | h2
      · exact c4 c h2
      · rw [List.mem_singleton.1 h2]; exact hr
  · obtain ⟨i, hi⟩ := List.mem_iff_getElem?.1 hx
    by_cases e : k = i
    · subst e
      rw [hy] at hi
      cases hi
      exact ⟨_, List.mem_iff_getElem?.2 ⟨k, List.getElem?_set_self hkl⟩, rfl, fun c hc => List.mem_append_left _ hc⟩
    · exact ⟨x, List.mem_iff_getElem?.2 ⟨i, by rw [List.getElem?_set, if_neg e]; exact hi⟩, rfl, fun c hc => hc⟩

/-! ### the end -/
def noteZ (N : List Nat) : List Int := N.map fun (n : Nat) => (n : Int)
theorem ScM.find {xs : List I4} {q : Nat} {N : List Nat} {X : List StepV} (h : ScM xs q N X) {i a b : Nat} (ha : N[i]? = some a) (hb : N[i + 1]? = some b) : ∃ x, findX X (gapAt (noteZ N) i) = some x ∧ bt xs a b ∈ x.cs := by
  have hg : gapAt (noteZ N) i = (b : Int) - a := by
    unfold gapAt noteZ
    rw [atL_of (x := (b : Int)) (by rw [List.getElem?_map, hb]; rfl), atL_of (x := (a : Int)) (by rw [List.getElem?_map, ha]; rfl)]
  rw [hg]
  obtain ⟨x, hx, e1, e2⟩ := h.gaps i a b ha hb
  obtain ⟨z, hz⟩ : ∃ z, findX X ((b : Int) - a) = some z := by
    unfold findX
    cases hf : X.find? fun s => decide (s.size = (b : Int) - a) with
    | some z => exact ⟨z, rfl⟩
    | none => have := List.find?_eq_none.1 hf x hx; simp [e1] at this
  have hzm := List.mem_of_find?_eq_some hz
  have hze : z.size = (b : Int) - a := by simpa using List.find?_some hz
  obtain ⟨i1, h1⟩ := List.mem_iff_getElem.1 hx
  obtain ⟨i2, h2⟩ := List.mem_iff_getElem.1 hzm
  obtain ⟨h1, g1⟩ := h1
  obtain ⟨h2, g2⟩ := h2
  have hxz : x = z := by
    rcases Nat.lt_trichotomy i1 i2 with hh | hh | hh
    · have := List.pairwise_iff_getElem.1 h.rise i1 i2 h1 h2 hh
      rw [g1, g2] at this; omega
    · subst hh; rw [← g1, ← g2]
    · have := List.pairwise_iff_getElem.1 h.rise i2 i1 h2 h1 hh
      rw [g1, g2] at this; omega
  exact ⟨z, hz, hxz ▸ e2⟩
theorem ScM.steps {xs : List I4} {q : Nat} {N : List Nat} {X : List StepV} (h : ScM xs q N X) (hN : N.length ≤ 20) : stepsF X = 0 := by
  unfold stepsF
  rw [if_neg (by have := h.few; omega)]
  refine scan_zero fun i hi => ?_
  obtain ⟨x, hx⟩ := getD_some (rfl : X.length = X.length) hi
  have hsa : sizeAt X i = x.size := by unfold sizeAt; rw [atL_of hx]
  have hca : choicesAt X i = x.cs := by unfold choicesAt; rw [atL_of hx]
  have hxm := List.mem_of_getElem? hx
  have hs := h.small x hxm
  obtain ⟨c1, c2, c3, c4⟩ := h.ch x hxm
  unfold stepF
  rw [hsa, hca, if_neg (by unfold outB; simp; omega), if_neg ?_]
  · unfold choicesF
    rw [if_neg (by omega), if_neg (by omega)]
    refine scan_zero fun j hj => ?_
    obtain ⟨c, hc⟩ := getD_some (rfl : x.cs.length = x.cs.length) hj
    unfold choiceF
    rw [atL_of hc, if_pos (c4 c (List.mem_of_getElem? hc)), if_neg]
    intro hm
    obtain ⟨t, ht⟩ := List.mem_iff_getElem?.1 hm
    rw [List.getElem?_take] at ht
    split at ht
    · rename_i htj
      obtain ⟨u1, e1⟩ := List.getElem?_eq_some_iff.1 ht
      obtain ⟨u2, e2⟩ := List.getElem?_eq_some_iff.1 hc
      exact List.pairwise_iff_getElem.1 c3 t j u1 u2 htj (e1.trans e2.symm)
    · cases ht
  · rintro ⟨h0, h1⟩
    obtain ⟨z, hz⟩ := getD_some (rfl : X.length = X.length) (show i - 1 < X.length by omega)
    rw [show sizeAt X (i - 1) = z.size by unfold sizeAt; rw [atL_of hz]] at h1
    obtain ⟨u1, e1⟩ := List.getElem?_eq_some_iff.1 hx
    obtain ⟨u2, e2⟩ := List.getElem?_eq_some_iff.1 hz
    have := List.pairwise_iff_getElem.1 h.rise (i - 1) i u2 u1 (by omega)
    rw [e1, e2] at this
    omega
theorem ScM.mel {xs : List I4} {q : Nat} {N : List Nat} {X : List StepV} (h : ScM xs q N X) (hq : q ≤ 8) (hN : N.length ≤ 20) : melF X (noteZ N) = 0 := by
  have hlen : (noteZ N).length = N.length := by unfold noteZ; rw [List.length_map]
  have hN0 := (List.getElem?_eq_some_iff.1 h.base).1
  have hs := h.steps hN
  unfold melF
  rw [if_neg (fun hne => hne hs), if_neg (by omega), if_neg (by omega), if_neg ?_, hlen]
  · refine scan_zero fun i hi => ?_
    obtain ⟨a, ha⟩ := getD_some (rfl : N.length = N.length) (show i < N.length by omega)
    obtain ⟨b, hb⟩ := getD_some (rfl : N.length = N.length) (show i + 1 < N.length by omega)
    obtain ⟨x, hx, -⟩ := h.find ha hb
    unfold kindF
    rw [hx]; rfl
  · rintro ⟨n, hn, ho⟩
    unfold noteZ at hn
    obtain ⟨k, hk, rfl⟩ := List.mem_map.1 hn
    have := h.range k hk
    unfold outB at ho
    simp at ho
    omega
theorem ScM.reach {xs : List I4} {q : Nat} {N : List Nat} {X : List StepV} (h : ScM xs q N X) (hx : ScaleOk xs) (hq : q ≤ 8) : ∀ i n, N[i]? = some n → Rch (melC X (noteZ N)) i (bt xs (q * 12) n) := by
  have hlen : (noteZ N).length = N.length := by unfold noteZ; rw [List.length_map]
  intro i
  induction i with
  | zero =>
    intro n hn
    rw [h.base] at hn
    cases hn
    show bt xs (q * 12) (q * 12) = zeroI
    rw [bt_base hx hq (Nat.le_refl _) (by omega), show q * 12 % 12 = 0 by omega, List.getD_eq_getElem?_getD, hx.zero]; rfl
  | succ i ih =>
    intro n hn
    have hi := (List.getElem?_eq_some_iff.1 hn).1
    obtain ⟨a, ha⟩ := getD_some (rfl : N.length = N.length) (show i < N.length by omega)
    obtain ⟨x, hf, hm⟩ := h.find ha hn
    have hra := h.range a (List.mem_of_getElem? ha)
    have hrn := h.range n (List.mem_of_getElem? hn)
    refine ⟨bt_right hx hq hrn.1 hrn.2, bt xs (q * 12) a, bt xs a n, ih a ha, ?_, (bt_sum hx (by omega) (by omega) (by omega)).symm⟩
    rw [List.getD_eq_getElem?_getD, melC_at (by rw [hlen]; omega) hf]
    exact hm
/-- Not too many. -/
theorem ScM.free {xs : List I4} {q : Nat} {N : List Nat} {X : List StepV} (h : ScM xs q N X) (hN : N.length ≤ 6) : ¬ Crowd (melC X (noteZ N)) := by
  have hlen : (noteZ N).length = N.length := by unfold noteZ; rw [List.length_map]
  rintro ⟨k, ks, hk, hn, hr, hl⟩
  have h4 := (melC_right (m := noteZ N) (h.steps (by omega))).2
  have := rch_prod h4 (by decide : 1 ≤ 4) hn hr
  have hk5 : k ≤ 5 := by rw [melC_len, hlen] at hk; omega
  have h6 : 4 ^ k ≤ 4 ^ 5 := Nat.pow_le_pow_right (by decide) hk5
  have h7 : (4 : Nat) ^ 5 = 1024 := by decide
  omega
theorem ScM.held {xs : List I4} {q : Nat} {N : List Nat} {X : List StepV} (h : ScM xs q N X) (hx : ScaleOk xs) (hq : q ≤ 8) {l : Nat} (hl : N[N.length - 1]? = some l) : ∃ many, fewL (bt xs (q * 12) l) (melC X (noteZ N)) zeroI = some many := by
  have hlen : (noteZ N).length = N.length := by unfold noteZ; rw [List.length_map]
  have hr := h.reach hx hq _ l hl
  refine few_end ?_
  rw [melC_len, hlen]
  exact hr
end Go.Proofs.YtapjekpjekdlkaaGreatDoor
