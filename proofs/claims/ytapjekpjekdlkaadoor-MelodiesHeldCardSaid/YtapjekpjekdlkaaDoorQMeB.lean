/- Held melodies: how many intervals they can reach. Plain mathematics. Conditions: as each theorem says. -/
import Derived.Test.YtapjekpjekdlkaaDoorQMeA
set_option linter.unusedSimpArgs false
set_option linter.unusedVariables false
namespace Go.Proofs.YtapjekpjekdlkaaDoor
open Go Go.RowKit

def addP (x y : I4) : I4 := ⟨x.a + y.a, x.b + y.b, x.c + y.c, x.d + y.d⟩
def mulP (j : Nat) (x : I4) : I4 := ⟨j * x.a, j * x.b, j * x.c, j * x.d⟩
def sumP (l : List I4) : I4 := l.foldr addP zeroI
theorem addP_comm (x y : I4) : addP x y = addP y x := I4.eq (Int.add_comm _ _) (Int.add_comm _ _) (Int.add_comm _ _) (Int.add_comm _ _)
theorem addP_assoc (x y z : I4) : addP (addP x y) z = addP x (addP y z) := I4.eq (Int.add_assoc _ _ _) (Int.add_assoc _ _ _) (Int.add_assoc _ _ _) (Int.add_assoc _ _ _)
theorem addP_zero (x : I4) : addP x zeroI = x := I4.eq (Int.add_zero _) (Int.add_zero _) (Int.add_zero _) (Int.add_zero _)
theorem zero_addP (x : I4) : addP zeroI x = x := I4.eq (Int.zero_add _) (Int.zero_add _) (Int.zero_add _) (Int.zero_add _)
theorem mulP_succ (j : Nat) (x : I4) : mulP (j + 1) x = addP x (mulP j x) := by
  refine I4.eq ?_ ?_ ?_ ?_ <;> simp only [mulP, addP] <;> rw [show ((j + 1 : Nat) : Int) = (j : Int) + 1 by omega, Int.add_mul, Int.one_mul, Int.add_comm]
theorem mulP_zero (x : I4) : mulP 0 x = zeroI := by
  refine I4.eq ?_ ?_ ?_ ?_ <;> simp [mulP, zeroI]
theorem sumP_append (l r : List I4) : sumP (l ++ r) = addP (sumP l) (sumP r) := by
  induction l with
  | nil => exact (zero_addP _).symm
  | cons x l ih =>
    show addP x (sumP (l ++ r)) = addP (addP x (sumP l)) (sumP r)
    rw [ih, addP_assoc]
/-- The sums of n choices. -/
def multi : List I4 → Nat → List I4
  | [], 0 => [zeroI]
  | [], _ + 1 => []
  | x :: A, n => (List.range (n + 1)).flatMap fun j => (multi A (n - j)).map (addP (mulP j x))
theorem split_sum (x : I4) : ∀ l : List I4, sumP l = addP (mulP (l.filter (fun c => decide (c = x))).length x) (sumP (l.filter fun c => !decide (c = x))) ∧ (l.filter (fun c => decide (c = x))).length + (l.filter fun c => !decide (c = x)).length = l.length
  | [] => by
    refine ⟨?_, rfl⟩
    show zeroI = addP (mulP 0 x) zeroI
    rw [mulP_zero, addP_zero]
  | c :: l => by
    obtain ⟨h1, h2⟩ := split_sum x l
    by_cases h : c = x
    · subst h
      simp only [List.filter_cons, decide_true, Bool.not_true, if_true, Bool.false_eq_true, if_false, List.length_cons]
      refine ⟨?_, by omega⟩
      show addP c (sumP l) = _
      rw [h1, mulP_succ, addP_assoc]
    · simp only [List.filter_cons, decide_eq_false h, Bool.not_false, if_true, Bool.false_eq_true, if_false, List.length_cons]
      refine ⟨?_, by omega⟩
      show addP c (sumP l) = addP _ (addP c _)
      rw [h1, ← addP_assoc, addP_comm c, addP_assoc]
      rfl
theorem multi_mem : ∀ (A l : List I4), (∀ c ∈ l, c ∈ A) → sumP l ∈ multi A l.length
  | [], [], _ => by simp [multi, sumP]
  | [], c :: l, h => by cases h c (List.mem_cons_self ..)
  | x :: A, l, h => by
    obtain ⟨h1, h2⟩ := split_sum x l
    have ih := multi_mem A (l.filter fun c => !decide (c = x)) fun c hc => by
      obtain ⟨h3, h4⟩ := List.mem_filter.1 hc
      rcases List.mem_cons.1 (h c h3) with e | e
      · rw [e] at h4; simp at h4
      · exact e
    show sumP l ∈ (List.range (l.length + 1)).flatMap _
    refine List.mem_flatMap.2 ⟨(l.filter (fun c => decide (c = x))).length, List.mem_range.2 (by omega), List.mem_map.2 ⟨_, ?_, h1.symm⟩⟩
    rw [show l.length - (l.filter (fun c => decide (c = x))).length = (l.filter fun c => !decide (c = x)).length by omega]
    exact ih
/-- How many sums there are at most. -/
def sumTo (f : Nat → Nat) : Nat → Nat
  | 0 => 0
  | n + 1 => sumTo f n + f n
def Lm : Nat → Nat → Nat
  | 0, 0 => 1
  | 0, _ + 1 => 0
  | a + 1, n => sumTo (fun j => Lm a (n - j)) (n + 1)
theorem flat_len_sum {α β : Type} (f : Nat → List β) (g : Nat → Nat) (h : ∀ j, (f j).length = g j) : ∀ n, ((List.range n).flatMap f).length = sumTo g n
  | 0 => rfl
  | n + 1 => by
    rw [List.range_succ, List.flatMap_append, List.length_append, flat_len_sum (α := α) f g h n]
    simp [sumTo, h]
theorem multi_len : ∀ (A : List I4) (n : Nat), (multi A n).length = Lm A.length n
  | [], 0 => rfl
  | [], _ + 1 => rfl
  | x :: A, n => by
    show ((List.range (n + 1)).flatMap _).length = _
    rw [flat_len_sum (α := I4) _ (fun j => Lm A.length (n - j)) (fun j => by rw [List.length_map, multi_len A])]
    rfl
theorem le_sumTo {f : Nat → Nat} : ∀ {n j : Nat}, j < n → f j ≤ sumTo f n
  | n + 1, j, h => by
    show f j ≤ sumTo f n + f n
    rcases Nat.lt_or_ge j n with h1 | h1
    · have := le_sumTo (f := f) h1; omega
    · obtain rfl : j = n := by omega
      omega
theorem Lm_step (a n : Nat) : Lm a n ≤ Lm (a + 1) n := by
  show _ ≤ sumTo (fun j => Lm a (n - j)) (n + 1)
  have := le_sumTo (f := fun j => Lm a (n - j)) (show 0 < n + 1 by omega)
  simpa using this
theorem Lm_mono {a b : Nat} (h : a ≤ b) (n : Nat) : Lm a n ≤ Lm b n := by
  induction h with
  | refl => exact Nat.le_refl _
  | step _ ih => exact Nat.le_trans ih (Lm_step _ n)
/-! ### steps of several kinds -/
def mAll (T : List (List I4)) (cnt : Nat → Nat) : Nat → List I4
  | 0 => [zeroI]
  | m + 1 => (mAll T cnt m).flatMap fun x => (multi (T.getD m []) (cnt m)).map (addP x)
def cntK (l : List (Nat × I4)) (m : Nat) : Nat := (l.filter fun p => decide (p.1 = m)).length
theorem sum_less (l : List (Nat × I4)) (m : Nat) : sumP ((l.filter fun p => decide (p.1 < m + 1)).map (·.2)) = addP (sumP ((l.filter fun p => decide (p.1 < m)).map (·.2))) (sumP ((l.filter fun p => decide (p.1 = m)).map (·.2))) := by
  induction l with
  | nil => exact (addP_zero _).symm
  | cons p l ih =>
    rcases Nat.lt_trichotomy p.1 m with h | h | h
    · rw [List.filter_cons_of_pos (by simp; omega), List.filter_cons_of_pos (by simpa using h), List.filter_cons_of_neg (by simp; omega)]
      show addP p.2 (sumP _) = addP (addP p.2 (sumP _)) _
      rw [ih, addP_assoc]
    · rw [List.filter_cons_of_pos (by simp; omega), List.filter_cons_of_neg (by simp; omega), List.filter_cons_of_pos (by simpa using h)]
      show addP p.2 (sumP _) = addP _ (addP p.2 (sumP _))
      rw [ih, ← addP_assoc, addP_comm p.2, addP_assoc]
    · rw [List.filter_cons_of_neg (by simp; omega), List.filter_cons_of_neg (by simp; omega), List.filter_cons_of_neg (by simp; omega)]
      exact ih
theorem mAll_mem {T : List (List I4)} {l : List (Nat × I4)} (h : ∀ p ∈ l, p.2 ∈ T.getD p.1 []) : ∀ m, sumP ((l.filter fun p => decide (p.1 < m)).map (·.2)) ∈ mAll T (cntK l) m
  | 0 => by
    have : (l.filter fun p => decide (p.1 < 0)) = [] := List.filter_eq_nil_iff.2 fun p _ => by simp
    rw [this]
    simp [mAll, sumP]
  | m + 1 => by
    rw [sum_less]
    refine List.mem_flatMap.2 ⟨_, mAll_mem h m, List.mem_map.2 ⟨_, ?_, rfl⟩⟩
    have := multi_mem (T.getD m []) ((l.filter fun p => decide (p.1 = m)).map (·.2)) fun c hc => by
      obtain ⟨p, hp, rfl⟩ := List.mem_map.1 hc
      obtain ⟨h1, h2⟩ := List.mem_filter.1 hp
      have h3 : p.1 = m := of_decide_eq_true h2
      rw [← h3]; exact h p h1
    rw [List.length_map] at this
    exact this
def prodL (v : List Nat) (cnt : Nat → Nat) : Nat → Nat
  | 0 => 1
  | m + 1 => prodL v cnt m * Lm (v.getD m 0) (cnt m)
theorem flat_len_const {α β : Type} (f : α → List β) (k : Nat) (h : ∀ a, (f a).length = k) : ∀ l : List α, (l.flatMap f).length = l.length * k
  | [] => by simp
  | a :: l => by rw [List.flatMap_cons, List.length_append, h, flat_len_const f k h l, List.length_cons, Nat.add_mul]; omega
theorem mAll_len {T : List (List I4)} {v : List Nat} (hv : ∀ m, (T.getD m []).length ≤ v.getD m 0) (cnt : Nat → Nat) : ∀ m, (mAll T cnt m).length ≤ prodL v cnt m
  | 0 => Nat.le_refl _
  | m + 1 => by
    show ((mAll T cnt m).flatMap _).length ≤ prodL v cnt m * _
    rw [flat_len_const _ (Lm (T.getD m []).length (cnt m)) (fun a => by rw [List.length_map, multi_len])]
    exact Nat.mul_le_mul (mAll_len hv cnt m) (Lm_mono (hv m) _)
theorem cnt_sum (l : List (Nat × I4)) : ∀ m, sumTo (cntK l) m = (l.filter fun p => decide (p.1 < m)).length
  | 0 => by
    have : (l.filter fun p => decide (p.1 < 0)) = [] := List.filter_eq_nil_iff.2 fun p _ => by simp
    rw [this]; rfl
  | m + 1 => by
    show sumTo (cntK l) m + cntK l m = _
    rw [cnt_sum l m]
    unfold cntK
    induction l with
    | nil => rfl
    | cons p l ih =>
      rcases Nat.lt_trichotomy p.1 m with h | h | h
      · rw [List.filter_cons_of_pos (by simpa using h), List.filter_cons_of_neg (by simp; omega), List.filter_cons_of_pos (by simp; omega), List.length_cons, List.length_cons]
        omega
      · rw [List.filter_cons_of_neg (by simp; omega), List.filter_cons_of_pos (by simpa using h), List.filter_cons_of_pos (by simp; omega), List.length_cons, List.length_cons]
        omega
      · rw [List.filter_cons_of_neg (by simp; omega), List.filter_cons_of_neg (by simp; omega), List.filter_cons_of_neg (by simp; omega)]
        exact ih
/-- How many choices the nine kinds of steps have. -/
def base9 : List Nat := [1, 1, 2, 1, 1, 1, 2, 2, 1]
theorem lm_one : ∀ n, Lm 1 n = 1 := by
  have h : ∀ n k, k ≤ n + 1 → sumTo (fun j => Lm 0 (n - j)) k = if k = n + 1 then 1 else 0 := by
    intro n k
    induction k with
    | zero => intro _; rfl
    | succ k ih =>
      intro hk
      show sumTo _ k + Lm 0 (n - k) = _
      rw [ih (by omega), if_neg (by omega)]
      by_cases e : k = n
      · subst e; rw [Nat.sub_self, if_pos rfl]; rfl
      · rw [if_neg (by omega)]
        obtain ⟨d, hd⟩ : ∃ d, n - k = d + 1 := ⟨n - k - 1, by omega⟩
        rw [hd]; rfl
  intro n
  show sumTo (fun j => Lm 0 (n - j)) (n + 1) = 1
  rw [h n (n + 1) (Nat.le_refl _), if_pos rfl]
theorem chk4 : ∀ x y z : Fin 10, x.val + y.val + z.val ≤ 9 → Lm 4 x.val * Lm 2 y.val * Lm 2 z.val ≤ 20000 := by decide +kernel
theorem chk3 : ∀ x y z u : Fin 10, x.val + y.val + z.val + u.val ≤ 9 → Lm 3 x.val * Lm 2 y.val * Lm 2 z.val * Lm 2 u.val ≤ 20000 := by decide +kernel
theorem le4 {x y z : Nat} (h : x + y + z ≤ 9) : Lm 4 x * Lm 2 y * Lm 2 z ≤ 20000 := chk4 ⟨x, by omega⟩ ⟨y, by omega⟩ ⟨z, by omega⟩ h
theorem le3 {x y z u : Nat} (h : x + y + z + u ≤ 9) : Lm 3 x * Lm 2 y * Lm 2 z * Lm 2 u ≤ 20000 := chk3 ⟨x, by omega⟩ ⟨y, by omega⟩ ⟨z, by omega⟩ ⟨u, by omega⟩ h
theorem prod_all {i : Nat} (hi : i < 9) (cnt : Nat → Nat) (h : sumTo cnt 9 ≤ 9) : prodL (base9.set i (base9.getD i 0 + 2)) cnt 9 ≤ 20000 := by
  have hs : cnt 0 + cnt 1 + cnt 2 + cnt 3 + cnt 4 + cnt 5 + cnt 6 + cnt 7 + cnt 8 ≤ 9 := by
    have e : sumTo cnt 9 = 0 + cnt 0 + cnt 1 + cnt 2 + cnt 3 + cnt 4 + cnt 5 + cnt 6 + cnt 7 + cnt 8 := rfl
    omega
  obtain rfl | rfl | rfl | rfl | rfl | rfl | rfl | rfl | rfl : i = 0 ∨ i = 1 ∨ i = 2 ∨ i = 3 ∨ i = 4 ∨ i = 5 ∨ i = 6 ∨ i = 7 ∨ i = 8 := by omega
  · show 1 * Lm 3 (cnt 0) * Lm 1 (cnt 1) * Lm 2 (cnt 2) * Lm 1 (cnt 3) * Lm 1 (cnt 4) * Lm 1 (cnt 5) * Lm 2 (cnt 6) * Lm 2 (cnt 7) * Lm 1 (cnt 8) ≤ 20000
    simp only [lm_one, Nat.mul_one, Nat.one_mul]
    exact le3 (by omega)
  · show 1 * Lm 1 (cnt 0) * Lm 3 (cnt 1) * Lm 2 (cnt 2) * Lm 1 (cnt 3) * Lm 1 (cnt 4) * Lm 1 (cnt 5) * Lm 2 (cnt 6) * Lm 2 (cnt 7) * Lm 1 (cnt 8) ≤ 20000
    simp only [lm_one, Nat.mul_one, Nat.one_mul]
    exact le3 (by omega)
  · show 1 * Lm 1 (cnt 0) * Lm 1 (cnt 1) * Lm 4 (cnt 2) * Lm 1 (cnt 3) * Lm 1 (cnt 4) * Lm 1 (cnt 5) * Lm 2 (cnt 6) * Lm 2 (cnt 7) * Lm 1 (cnt 8) ≤ 20000
    simp only [lm_one, Nat.mul_one, Nat.one_mul]
    exact le4 (by omega)
  · show 1 * Lm 1 (cnt 0) * Lm 1 (cnt 1) * Lm 2 (cnt 2) * Lm 3 (cnt 3) * Lm 1 (cnt 4) * Lm 1 (cnt 5) * Lm 2 (cnt 6) * Lm 2 (cnt 7) * Lm 1 (cnt 8) ≤ 20000
    simp only [lm_one, Nat.mul_one, Nat.one_mul]
    rw [Nat.mul_comm (Lm 2 (cnt 2))]
    exact le3 (by omega)
  · show 1 * Lm 1 (cnt 0) * Lm 1 (cnt 1) * Lm 2 (cnt 2) * Lm 1 (cnt 3) * Lm 3 (cnt 4) * Lm 1 (cnt 5) * Lm 2 (cnt 6) * Lm 2 (cnt 7) * Lm 1 (cnt 8) ≤ 20000
    simp only [lm_one, Nat.mul_one, Nat.one_mul]
    rw [Nat.mul_comm (Lm 2 (cnt 2))]
    exact le3 (by omega)
  · show 1 * Lm 1 (cnt 0) * Lm 1 (cnt 1) * Lm 2 (cnt 2) * Lm 1 (cnt 3) * Lm 1 (cnt 4) * Lm 3 (cnt 5) * Lm 2 (cnt 6) * Lm 2 (cnt 7) * Lm 1 (cnt 8) ≤ 20000
    simp only [lm_one, Nat.mul_one, Nat.one_mul]
    rw [Nat.mul_comm (Lm 2 (cnt 2))]
    exact le3 (by omega)
  · show 1 * Lm 1 (cnt 0) * Lm 1 (cnt 1) * Lm 2 (cnt 2) * Lm 1 (cnt 3) * Lm 1 (cnt 4) * Lm 1 (cnt 5) * Lm 4 (cnt 6) * Lm 2 (cnt 7) * Lm 1 (cnt 8) ≤ 20000
    simp only [lm_one, Nat.mul_one, Nat.one_mul]
    rw [Nat.mul_comm (Lm 2 (cnt 2))]
    exact le4 (by omega)
  · show 1 * Lm 1 (cnt 0) * Lm 1 (cnt 1) * Lm 2 (cnt 2) * Lm 1 (cnt 3) * Lm 1 (cnt 4) * Lm 1 (cnt 5) * Lm 2 (cnt 6) * Lm 4 (cnt 7) * Lm 1 (cnt 8) ≤ 20000
    simp only [lm_one, Nat.mul_one, Nat.one_mul]
    rw [Nat.mul_comm]
    rw [← Nat.mul_assoc]
    exact le4 (by omega)
  · show 1 * Lm 1 (cnt 0) * Lm 1 (cnt 1) * Lm 2 (cnt 2) * Lm 1 (cnt 3) * Lm 1 (cnt 4) * Lm 1 (cnt 5) * Lm 2 (cnt 6) * Lm 2 (cnt 7) * Lm 3 (cnt 8) ≤ 20000
    simp only [lm_one, Nat.mul_one, Nat.one_mul]
    rw [Nat.mul_comm]
    rw [← Nat.mul_assoc, ← Nat.mul_assoc]
    exact le3 (by omega)
end Go.Proofs.YtapjekpjekdlkaaDoor
