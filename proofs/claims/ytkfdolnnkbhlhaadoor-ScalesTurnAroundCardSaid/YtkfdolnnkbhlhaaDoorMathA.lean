/- How often a prime is in a number; quotients of intervals: plain numbers. Conditions: as each theorem says. -/
namespace Go.Proofs.YtkfdolnnkbhlhaaDoor

def vp (p : Nat) : Nat → Nat → Nat → Nat × Nat
  | 0, n, k => (k, n)
  | f + 1, n, k => if n % p = 0 then vp p f (n / p) (k + 1) else (k, n)
/-- How often p is in n (from k on), and what is left. -/
def V (p n k : Nat) : Nat × Nat := vp p n n k

theorem vp_more (p : Nat) (hp : 2 ≤ p) : ∀ (f g n k : Nat), 1 ≤ n → n ≤ f → n ≤ g → vp p f n k = vp p g n k
  | 0, _, n, k, h1, h2, _ => by omega
  | _ + 1, 0, n, k, h1, _, h3 => by omega
  | f + 1, g + 1, n, k, h1, h2, h3 => by
    unfold vp
    by_cases h : n % p = 0
    · rw [if_pos h, if_pos h]
      have h4 : n / p < n := Nat.div_lt_self (by omega) hp
      have h5 : 1 ≤ n / p := by
        have := Nat.div_add_mod n p
        rcases Nat.eq_zero_or_pos (n / p) with h0 | h0
        · rw [h0, h] at this; simp at this; omega
        · omega
      exact vp_more p hp f g (n / p) (k + 1) h5 (by omega) (by omega)
    · rw [if_neg h, if_neg h]

theorem div_pos_of_dvd {p n : Nat} (h1 : 1 ≤ n) (h : n % p = 0) : 1 ≤ n / p := by
  have := Nat.div_add_mod n p
  rcases Nat.eq_zero_or_pos (n / p) with h0 | h0
  · rw [h0, h] at this; simp at this; omega
  · omega

theorem V_step {p n k : Nat} (hp : 2 ≤ p) (h1 : 1 ≤ n) (h : n % p = 0) : V p (n / p) (k + 1) = V p n k := by
  have h4 : n / p < n := Nat.div_lt_self (by omega) hp
  have h5 := div_pos_of_dvd h1 h
  show vp p (n / p) (n / p) (k + 1) = vp p n n k
  obtain ⟨m, rfl⟩ : ∃ m, n = m + 1 := ⟨n - 1, by omega⟩
  rw [show vp p (m + 1) (m + 1) k = vp p m ((m + 1) / p) (k + 1) from by rw [vp, if_pos h]]
  exact vp_more p hp _ _ _ _ h5 (Nat.le_refl _) (by omega)

theorem V_end {p n k : Nat} (h1 : 1 ≤ n) (h : n % p ≠ 0) : V p n k = (k, n) := by
  obtain ⟨m, rfl⟩ : ∃ m, n = m + 1 := ⟨n - 1, by omega⟩
  show vp p (m + 1) (m + 1) k = _
  rw [vp, if_neg h]

theorem vp_spec (p : Nat) (hp : 2 ≤ p) : ∀ (f n k : Nat), 1 ≤ n → n ≤ f → ∃ d, (vp p f n k).1 = k + d ∧ p ^ d * (vp p f n k).2 = n ∧ (vp p f n k).2 % p ≠ 0 ∧ 1 ≤ (vp p f n k).2
  | 0, n, k, h1, h2 => by omega
  | f + 1, n, k, h1, h2 => by
    unfold vp
    by_cases h : n % p = 0
    · rw [if_pos h]
      have h4 : n / p < n := Nat.div_lt_self (by omega) hp
      obtain ⟨d, e1, e2, e3, e4⟩ := vp_spec p hp f (n / p) (k + 1) (div_pos_of_dvd h1 h) (by omega)
      refine ⟨d + 1, by omega, ?_, e3, e4⟩
      rw [Nat.pow_succ, Nat.mul_comm (p ^ d) p, Nat.mul_assoc, e2]
      have := Nat.div_add_mod n p
      omega
    · rw [if_neg h]
      exact ⟨0, rfl, by simp, h, h1⟩

theorem V_spec {p n : Nat} (hp : 2 ≤ p) (h1 : 1 ≤ n) : p ^ (V p n 0).1 * (V p n 0).2 = n ∧ (V p n 0).2 % p ≠ 0 ∧ 1 ≤ (V p n 0).2 := by
  obtain ⟨d, e1, e2, e3, e4⟩ := vp_spec p hp n n 0 h1 (Nat.le_refl _)
  have e1' : (V p n 0).1 = d := by rw [show (V p n 0).1 = 0 + d from e1]; omega
  rw [e1']
  exact ⟨e2, e3, e4⟩

theorem V_le {p n : Nat} (hp : 2 ≤ p) (h1 : 1 ≤ n) : (V p n 0).2 ≤ n := by
  obtain ⟨e1, _, e3⟩ := V_spec hp h1
  have : 1 ≤ p ^ (V p n 0).1 := Nat.pow_pos (by omega)
  calc (V p n 0).2 = 1 * (V p n 0).2 := by omega
    _ ≤ p ^ (V p n 0).1 * (V p n 0).2 := Nat.mul_le_mul_right _ this
    _ = n := e1

theorem V_exp {p n : Nat} (hp : 2 ≤ p) (h1 : 1 ≤ n) (h : n ≤ 9223372036854775807) : (V p n 0).1 < 64 := by
  obtain ⟨e1, _, e3⟩ := V_spec hp h1
  rcases Nat.lt_or_ge (V p n 0).1 64 with hlt | hge
  · exact hlt
  · have h2 : 2 ^ 64 ≤ p ^ (V p n 0).1 := Nat.le_trans (Nat.pow_le_pow_right (by omega) hge) (Nat.pow_le_pow_left hp _)
    have h3 : p ^ (V p n 0).1 * 1 ≤ p ^ (V p n 0).1 * (V p n 0).2 := Nat.mul_le_mul_left _ e3
    omega

/-- How often a prime power is there, said of the whole: it is told by the number. -/
theorem V_unique {p n d m : Nat} (hp : 2 ≤ p) (h : p ^ d * m = n) (hm : m % p ≠ 0) : V p n 0 = (d, m) := by
  have hm1 : 1 ≤ m := by
    rcases Nat.eq_zero_or_pos m with h0 | h0
    · subst h0; simp at hm
    · exact h0
  have key : ∀ d k n, p ^ d * m = n → V p n k = (k + d, m) := by
    intro d
    induction d with
    | zero => intro k n h; simp at h; subst h; simpa using V_end hm1 hm
    | succ d ih =>
      intro k n h
      have hn : n = p * (p ^ d * m) := by rw [← h, Nat.pow_succ, Nat.mul_comm (p ^ d) p, Nat.mul_assoc]
      have hpos : 1 ≤ p ^ d * m := Nat.mul_pos (Nat.pow_pos (by omega)) hm1
      have h0 : n % p = 0 := by rw [hn]; exact Nat.mul_mod_right _ _
      have h1 : n / p = p ^ d * m := by rw [hn]; exact Nat.mul_div_cancel_left _ (by omega)
      have hn1 : 1 ≤ n := by rw [hn]; exact Nat.mul_pos (by omega) hpos
      rw [← V_step hp hn1 h0, h1, ih (k + 1) _ rfl]
      congr 1; omega
  have := key d 0 n h
  simpa using this

def pr (k : Nat) : Nat := match k with | 0 => 2 | 1 => 3 | 2 => 5 | _ => 7
theorem pr_ge (k : Nat) : 2 ≤ pr k := by unfold pr; split <;> omega
def numK (n : Nat) : Nat → Nat
  | 0 => n
  | k + 1 => (V (pr k) (numK n k) 0).2
def expK (n k : Nat) : Nat := (V (pr k) (numK n k) 0).1
theorem numK_pos {n : Nat} (h : 1 ≤ n) : ∀ k, 1 ≤ numK n k
  | 0 => h
  | k + 1 => (V_spec (pr_ge k) (numK_pos h k)).2.2
theorem numK_le {n : Nat} (h : 1 ≤ n) : ∀ k, numK n k ≤ n
  | 0 => Nat.le_refl _
  | k + 1 => Nat.le_trans (V_le (pr_ge k) (numK_pos h k)) (numK_le h k)
theorem expK_lt {n : Nat} (h : 1 ≤ n) (h2 : n ≤ 9223372036854775807) (k : Nat) : expK n k < 64 := V_exp (pr_ge k) (numK_pos h k) (Nat.le_trans (numK_le h k) h2)
/-- The k-th cell behind j rounds. -/
def mK (n d j k : Nat) : Int := if k < j then (expK n k : Int) - expK d k else 0

end Go.Proofs.YtkfdolnnkbhlhaaDoor
