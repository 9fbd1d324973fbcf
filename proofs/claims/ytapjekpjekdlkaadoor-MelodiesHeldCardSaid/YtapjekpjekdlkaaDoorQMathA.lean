/- How often a prime is in a number; quotients of intervals: plain numbers. Conditions: as each theorem says. -/
set_option linter.unusedSimpArgs false
set_option linter.unusedVariables false
namespace Go.Proofs.YtapjekpjekdlkaaDoor

def vp (p : Nat) : Nat → Nat → Nat → Nat × Nat
  | 0, n, k => (k, n)
  | f + 1, n, k => if n % p = 0 then vp p f (n / p) (k + 1) else (k, n)
/-- How often p is in n (from k on), and what is left. -/
def V (p n k : Nat) : Nat × Nat := vp p n n k

theorem vp_more (p : Nat) (hp : 2 ≤ p) : ∀ (f g n k : Nat), 1 ≤ n → n ≤ f → n ≤ g → vp p f n k = vp p g n k
  | 0, _, n, k, h1, h2, _ => by omega
  | _ + 1, 0, n, k, h1, _, h3 => by omega
  | f + 1, g + 1, n, k, h1, h2, h3 => by
    unfold vp
    by_cases h : n % p = 0
    · rw [if_pos h, if_pos h]
      have h4 : n / p < n := Nat.div_lt_self (by omega) hp
      have h5 : 1 ≤ n / p := by
        have := Nat.div_add_mod n p
        rcases Nat.eq_zero_or_pos (n / p) with h0 | h0
        · rw [h0, h] at this; simp at this; omega
        · omega
      exact vp_more p hp f g (n / p) (k + 1) h5 (by omega) (by omega)
    · rw [if_neg h, if_neg h]

theorem div_pos_of_dvd {p n : Nat} (h1 : 1 ≤ n) (h : n % p = 0) : 1 ≤ n / p := by
  have := Nat.div_add_mod n p
  rcases Nat.eq_zero_or_pos (n / p) with h0 | h0
  · rw [h0, h] at this; simp at this; omega
  · omega

theorem V_step {p n k : Nat} (hp : 2 ≤ p) (h1 : 1 ≤ n) (h : n % p = 0) : V p (n / p) (k + 1) = V p n k := by
  have h4 : n / p < n := Nat.div_lt_self (by omega) hp
  have h5 := div_pos_of_dvd h1 h
  show vp p (n / p) (n / p) (k + 1) = vp p n n k
  obtain ⟨m, rfl⟩ : ∃ m, n = m + 1 := ⟨n - 1, by omega⟩
  rw [show vp p (m + 1) (m + 1) k = vp p m ((m + 1) / p) (k + 1) from by rw [vp, if_pos h]]
  exact vp_more p hp _ _ _ _ h5 (Nat.le_refl _) (by omega)

theorem V_end {p n k : Nat} (h1 : 1 ≤ n) (h : n % p ≠ 0) : V p n k = (k, n) := by
  obtain ⟨m, rfl⟩ : ∃ m, n = m + 1 := ⟨n - 1, by omega⟩
  show vp p (m + 1) (m + 1) k = _
  rw [vp, if_neg h]

/-- How often a prime power is there, said of the whole: it is told by the number. -/
theorem V_unique {p n d m : Nat} (hp : 2 ≤ p) (h : p ^ d * m = n) (hm : m % p ≠ 0) : V p n 0 = (d, m) := by
  have hm1 : 1 ≤ m := by
    rcases Nat.eq_zero_or_pos m with h0 | h0
    · subst h0; simp at hm
    · exact h0
  have key : ∀ d k n, p ^ d * m = n → V p n k = (k + d, m) := by
    intro d
    induction d with
    | zero => intro k n h; simp at h; subst h; simpa using V_end hm1 hm
    | succ d ih =>
      intro k n h
      have hn : n = p * (p ^ d * m) := by rw [← h, Nat.pow_succ, Nat.mul_comm (p ^ d) p, Nat.mul_assoc]
      have hpos : 1 ≤ p ^ d * m := Nat.mul_pos (Nat.pow_pos (by omega)) hm1
      have h0 : n % p = 0 := by rw [hn]; exact Nat.mul_mod_right _ _
      have h1 : n / p = p ^ d * m := by rw [hn]; exact Nat.mul_div_cancel_left _ (by omega)
      have hn1 : 1 ≤ n := by rw [hn]; exact Nat.mul_pos (by omega) hpos
      rw [← V_step hp hn1 h0, h1, ih (k + 1) _ rfl]
      congr 1; omega
  have := key d 0 n h
  simpa using this

def pr (k : Nat) : Nat := match k with | 0 => 2 | 1 => 3 | 2 => 5 | _ => 7
theorem pr_ge (k : Nat) : 2 ≤ pr k := by unfold pr; split <;> omega
def numK (n : Nat) : Nat → Nat
  | 0 => n
  | k + 1 => (V (pr k) (numK n k) 0).2
def expK (n k : Nat) : Nat := (V (pr k) (numK n k) 0).1
end Go.Proofs.YtapjekpjekdlkaaDoor
