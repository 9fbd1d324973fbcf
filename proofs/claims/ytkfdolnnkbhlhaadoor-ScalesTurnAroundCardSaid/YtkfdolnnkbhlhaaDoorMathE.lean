/- Comparing intervals is comparing their difference with none; scales and turned scales: plain numbers. Conditions: as each theorem says. -/
import Derived.Test.YtkfdolnnkbhlhaaDoorMathD
namespace Go.Proofs.YtkfdolnnkbhlhaaDoor

/-- The difference, without a wrap. -/
def I4.sub_ (x y : I4) : I4 := ⟨x.a - y.a, x.b - y.b, x.c - y.c, x.d - y.d⟩
def I4.up (x : I4) (n : Int) : I4 := ⟨x.a + n, x.b, x.c, x.d⟩
def sgI (u : I4) : Int := cmpN (qn u 4) (qd u 4)

theorem pow_three {p i k : Nat} {x y : Int} (hi : (x - y).toNat + (-x).toNat + y.toNat = i) (hk : x.toNat + (-y).toNat + (-(x - y)).toNat = k) :
    p ^ (x - y).toNat * p ^ (-x).toNat * p ^ y.toNat = p ^ x.toNat * p ^ (-y).toNat * p ^ (-(x - y)).toNat := by
  rw [← Nat.pow_add, ← Nat.pow_add, ← Nat.pow_add, ← Nat.pow_add, hi, hk]
  congr 1
  omega
theorem sub_q (x y : I4) : qn (x.sub_ y) 4 * qd x 4 * qn y 4 = qn x 4 * qd y 4 * qd (x.sub_ y) 4 := by
  have e : ∀ a b c d a' b' c' d' a'' b'' c'' d'' : Nat, (a * (b * (c * d))) * (a' * (b' * (c' * d'))) * (a'' * (b'' * (c'' * d''))) = (a * a' * a'') * ((b * b' * b'') * ((c * c' * c'') * (d * d' * d''))) := by
    intros; simp only [Nat.mul_assoc, Nat.mul_left_comm, Nat.mul_comm]
  rw [qn_flat, qd_flat, qn_flat, qn_flat, qd_flat, qd_flat, e, e]
  show 2 ^ (x.a - y.a).toNat * 2 ^ (-x.a).toNat * 2 ^ y.a.toNat * (3 ^ (x.b - y.b).toNat * 3 ^ (-x.b).toNat * 3 ^ y.b.toNat * (5 ^ (x.c - y.c).toNat * 5 ^ (-x.c).toNat * 5 ^ y.c.toNat * (7 ^ (x.d - y.d).toNat * 7 ^ (-x.d).toNat * 7 ^ y.d.toNat)))
    = 2 ^ x.a.toNat * 2 ^ (-y.a).toNat * 2 ^ (-(x.a - y.a)).toNat * (3 ^ x.b.toNat * 3 ^ (-y.b).toNat * 3 ^ (-(x.b - y.b)).toNat * (5 ^ x.c.toNat * 5 ^ (-y.c).toNat * 5 ^ (-(x.c - y.c)).toNat * (7 ^ x.d.toNat * 7 ^ (-y.d).toNat * 7 ^ (-(x.d - y.d)).toNat)))
  rw [pow_three (p := 2) (x := x.a) (y := x.a) rfl rfl |> fun _ => pow_three (p := 2) (x := x.a) (y := y.a) rfl rfl, pow_three (p := 3) (x := x.b) (y := y.b) rfl rfl, pow_three (p := 5) (x := x.c) (y := y.c) rfl rfl, pow_three (p := 7) (x := x.d) (y := y.d) rfl rfl]

/-- Two fractions that are one are compared alike. -/
theorem cmpN_cross {a b n d : Nat} (hb : 0 < b) (hd : 0 < d) (h : n * b = a * d) : cmpN a b = cmpN n d := by
  have hl : a < b ↔ n < d := by
    constructor
    · intro hlt
      have h1 : n * b < d * b := by rw [h, Nat.mul_comm d b]; exact Nat.mul_lt_mul_of_pos_right hlt hd
      exact Nat.lt_of_mul_lt_mul_right h1
    · intro hlt
      have h1 : a * d < b * d := by rw [← h, Nat.mul_comm b d]; exact Nat.mul_lt_mul_of_pos_right hlt hb
      exact Nat.lt_of_mul_lt_mul_right h1
  have he : a = b ↔ n = d := by
    constructor
    · intro e; subst e; rw [Nat.mul_comm a d] at h; exact Nat.eq_of_mul_eq_mul_right hb h
    · intro e; subst e; rw [Nat.mul_comm n b] at h; exact (Nat.eq_of_mul_eq_mul_right hd h).symm
  unfold cmpN
  by_cases h1 : a < b
  · rw [if_pos h1, if_pos (hl.1 h1)]
  · rw [if_neg h1, if_neg (fun k => h1 (hl.2 k))]
    by_cases h2 : a = b
    · rw [if_pos h2, if_pos (he.1 h2)]
    · rw [if_neg h2, if_neg (fun k => h2 (he.2 k))]

theorem cmpI_sub (x y : I4) : cmpI x y = sgI (x.sub_ y) := by
  have h := sub_q x y
  unfold cmpI sgI
  refine cmpN_cross (Nat.mul_pos (qn_pos y 4) (qn_pos x.neg_ 4)) (qn_pos (x.sub_ y).neg_ 4) ?_
  rw [← h, Nat.mul_assoc, Nat.mul_comm (qd x 4)]

theorem cmpI_congr {x y u v : I4} (h : x.sub_ y = u.sub_ v) : cmpI x y = cmpI u v := by rw [cmpI_sub, cmpI_sub, h]
end Go.Proofs.YtkfdolnnkbhlhaaDoor
