/- How many octaves a quotient spans: plain numbers. Conditions: as each theorem says. -/
import Derived.Test.YtebhjmknlhmmdaaGreatDoorMathB
namespace Go.Proofs.YtebhjmknlhmmdaaGreatDoor

/-- A quotient n/d lies t octaves up. -/
def IsOct (n d : Nat) (t : Int) : Prop := ∃ k j : Nat, t = (k : Int) - j ∧ d * 2 ^ k ≤ n * 2 ^ j ∧ n * 2 ^ j < d * 2 ^ (k + 1)

theorem oct_le {n d k j k' j' : Nat} (h1 : d * 2 ^ k ≤ n * 2 ^ j) (h2 : n * 2 ^ j' < d * 2 ^ (k' + 1)) : k + j' ≤ k' + j := by
  rcases Nat.lt_or_ge (k' + j) (k + j') with h | h
  · exfalso
    have a1 : d * 2 ^ k * 2 ^ j' ≤ n * 2 ^ j * 2 ^ j' := Nat.mul_le_mul_right _ h1
    have a2 : n * 2 ^ j' * 2 ^ j < d * 2 ^ (k' + 1) * 2 ^ j := Nat.mul_lt_mul_of_pos_right h2 (Nat.pow_pos (by omega))
    have a3 : d * 2 ^ (k' + 1) * 2 ^ j ≤ d * 2 ^ k * 2 ^ j' := by
      rw [Nat.mul_assoc, Nat.mul_assoc, ← Nat.pow_add, ← Nat.pow_add]
      exact Nat.mul_le_mul_left _ (Nat.pow_le_pow_right (by omega) (by omega))
    have a4 : n * 2 ^ j * 2 ^ j' = n * 2 ^ j' * 2 ^ j := by rw [Nat.mul_assoc, Nat.mul_comm (2 ^ j), ← Nat.mul_assoc]
    omega
  · exact h

theorem IsOct.unique {n d : Nat} {t t' : Int} (h : IsOct n d t) (h' : IsOct n d t') : t = t' := by
  obtain ⟨k, j, rfl, h1, h2⟩ := h
  obtain ⟨k', j', rfl, h3, h4⟩ := h'
  have := oct_le h1 h4
  have := oct_le h3 h2
  omega

def upN : Nat → Nat → Nat → Nat
  | 0, _, _ => 0
  | f + 1, n, d => if d * 2 ≤ n then upN f n (d * 2) + 1 else 0
def octN (n d : Nat) : Int := if d ≤ n then (upN n n d : Int) else -((upN d (d - 1) n : Int) + 1)

theorem upN_spec : ∀ (f n d : Nat), 1 ≤ d → d ≤ n → n < d + f → d * 2 ^ upN f n d ≤ n ∧ n < d * 2 ^ (upN f n d + 1)
  | 0, n, d, h1, h2, h3 => by omega
  | f + 1, n, d, h1, h2, h3 => by
    unfold upN
    by_cases h : d * 2 ≤ n
    · rw [if_pos h]
      obtain ⟨e1, e2⟩ := upN_spec f n (d * 2) (by omega) h (by omega)
      rw [Nat.mul_assoc, ← Nat.pow_succ'] at e1 e2
      exact ⟨e1, e2⟩
    · rw [if_neg h]
      simp
      omega

theorem octN_is {n d : Nat} (hn : 1 ≤ n) (hd : 1 ≤ d) : IsOct n d (octN n d) := by
  unfold octN
  by_cases h : d ≤ n
  · rw [if_pos h]
    obtain ⟨e1, e2⟩ := upN_spec n n d hd h (by omega)
    exact ⟨upN n n d, 0, by omega, by omega, by omega⟩
  · rw [if_neg h]
    obtain ⟨e1, e2⟩ := upN_spec d (d - 1) n hn (by omega) (by omega)
    refine ⟨0, upN d (d - 1) n + 1, by omega, by omega, ?_⟩
    have : n * 2 ^ (upN d (d - 1) n + 1) = n * 2 ^ upN d (d - 1) n * 2 := by rw [Nat.pow_succ, Nat.mul_assoc]
    omega

theorem octN_eq {n d : Nat} {t : Int} (hn : 1 ≤ n) (hd : 1 ≤ d) (h : IsOct n d t) : octN n d = t := (octN_is hn hd).unique h

/-- An octave more above or below the line. -/
theorem IsOct.shift {n d u v : Nat} {t : Int} (h : IsOct n d t) : IsOct (n * 2 ^ u) (d * 2 ^ v) (t + u - v) := by
  obtain ⟨k, j, rfl, h1, h2⟩ := h
  refine ⟨k + u, j + v, by omega, ?_, ?_⟩
  · have : d * 2 ^ v * 2 ^ (k + u) = d * 2 ^ k * (2 ^ v * 2 ^ u) := by rw [Nat.pow_add]; simp only [Nat.mul_assoc, Nat.mul_left_comm, Nat.mul_comm]
    have : n * 2 ^ u * 2 ^ (j + v) = n * 2 ^ j * (2 ^ v * 2 ^ u) := by rw [Nat.pow_add]; simp only [Nat.mul_assoc, Nat.mul_left_comm, Nat.mul_comm]
    have := Nat.mul_le_mul_right (2 ^ v * 2 ^ u) h1
    omega
  · have : d * 2 ^ v * 2 ^ (k + u + 1) = d * 2 ^ (k + 1) * (2 ^ v * 2 ^ u) := by rw [Nat.add_right_comm, Nat.pow_add]; simp only [Nat.mul_assoc, Nat.mul_left_comm, Nat.mul_comm]
    have : n * 2 ^ u * 2 ^ (j + v) = n * 2 ^ j * (2 ^ v * 2 ^ u) := by rw [Nat.pow_add]; simp only [Nat.mul_assoc, Nat.mul_left_comm, Nat.mul_comm]
    have := Nat.mul_lt_mul_of_pos_right h2 (Nat.mul_pos (Nat.pow_pos (by omega) : 0 < 2 ^ v) (Nat.pow_pos (by omega) : 0 < 2 ^ u))
    omega

def octI (x : I4) : Int := octN (qn x 4) (qd x 4)
/-- The interval without its octaves. -/
def I4.plain (x : I4) : I4 := ⟨0, x.b, x.c, x.d⟩
theorem qn_split (x : I4) : qn x 4 = qn x.plain 4 * 2 ^ x.a.toNat := by
  show 1 * 2 ^ x.a.toNat * 3 ^ x.b.toNat * 5 ^ x.c.toNat * 7 ^ x.d.toNat = 1 * 2 ^ (0 : Int).toNat * 3 ^ x.b.toNat * 5 ^ x.c.toNat * 7 ^ x.d.toNat * 2 ^ x.a.toNat
  simp [Nat.mul_assoc, Nat.mul_left_comm, Nat.mul_comm]
theorem octI_plain (x : I4) : octI x = octI x.plain + x.a := by
  have h := octN_is (qn_pos x.plain 4) (qn_pos x.plain.neg_ 4)
  have h2 := h.shift (u := x.a.toNat) (v := (-x.a).toNat)
  have e1 : qn x.plain 4 * 2 ^ x.a.toNat = qn x 4 := (qn_split x).symm
  have e2 : qn x.plain.neg_ 4 * 2 ^ (-x.a).toNat = qn x.neg_ 4 := (qn_split x.neg_).symm
  rw [e1, e2] at h2
  show octN (qn x 4) (qn x.neg_ 4) = octN (qn x.plain 4) (qn x.plain.neg_ 4) + x.a
  rw [octN_eq (qn_pos _ _) (qn_pos _ _) h2]
  omega
theorem octN_range {n d : Nat} (hn : 1 ≤ n) (hd : 1 ≤ d) (hn' : n ≤ 1061882796441600000) (hd' : d ≤ 1061882796441600000) : -60 ≤ octN n d ∧ octN n d ≤ 60 := by
  obtain ⟨k, j, e, h1, h2⟩ := octN_is hn hd
  have a : d * 2 ^ 0 ≤ n * 2 ^ 60 := by omega
  have b : n * 2 ^ 0 < d * 2 ^ (59 + 1) := by omega
  have := oct_le h1 b
  have := oct_le a h2
  omega

end Go.Proofs.YtebhjmknlhmmdaaGreatDoor
