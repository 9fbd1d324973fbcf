/- Intervals and their quotients: each tells the other; plain numbers. Conditions: the interval is right where that is said. -/
import Derived.Test.YtkfdolnnkbhlhaaDoorTuneD
import Derived.Test.YtkfdolnnkbhlhaaDoorTuneH
namespace Go.Proofs.YtkfdolnnkbhlhaaDoor

theorem cop_mod {p m : Nat} (hp : 2 ≤ p) (h : Nat.Coprime p m) : m % p ≠ 0 := by
  intro h0
  have hd : p ∣ m := Nat.dvd_of_mod_eq_zero h0
  have hg : Nat.gcd p m = p := Nat.gcd_eq_left hd
  have h1 : Nat.gcd p m = 1 := h
  omega
theorem cop_pow {p q : Nat} (i : Nat) (h : Nat.Coprime p q) : Nat.Coprime p (q ^ i) := Nat.Coprime.pow_right i h
theorem V_pow {p d m n : Nat} (hp : 2 ≤ p) (h : Nat.Coprime p m) (e : n = p ^ d * m) : V p n 0 = (d, m) := V_unique hp e.symm (cop_mod hp h)

theorem numE {n a b c d : Nat} (h : n = 2 ^ a * (3 ^ b * (5 ^ c * 7 ^ d))) : expK n 0 = a ∧ expK n 1 = b ∧ expK n 2 = c ∧ expK n 3 = d ∧ numK n 4 = 1 := by
  have v0 : V 2 n 0 = (a, 3 ^ b * (5 ^ c * 7 ^ d)) := V_pow (by omega) (Nat.Coprime.mul_right (cop_pow _ (by decide)) (Nat.Coprime.mul_right (cop_pow _ (by decide)) (cop_pow _ (by decide)))) h
  have n1 : numK n 1 = 3 ^ b * (5 ^ c * 7 ^ d) := by show (V 2 n 0).2 = _; rw [v0]
  have v1 : V 3 (numK n 1) 0 = (b, 5 ^ c * 7 ^ d) := V_pow (by omega) (Nat.Coprime.mul_right (cop_pow _ (by decide)) (cop_pow _ (by decide))) n1
  have n2 : numK n 2 = 5 ^ c * 7 ^ d := by show (V 3 (numK n 1) 0).2 = _; rw [v1]
  have v2 : V 5 (numK n 2) 0 = (c, 7 ^ d) := V_pow (by omega) (cop_pow _ (by decide)) n2
  have n3 : numK n 3 = 7 ^ d := by show (V 5 (numK n 2) 0).2 = _; rw [v2]
  have v3 : V 7 (numK n 3) 0 = (d, 1) := V_pow (by omega) (Nat.coprime_one_right 7) (by rw [n3, Nat.mul_one])
  refine ⟨?_, ?_, ?_, ?_, ?_⟩
  · show (V 2 n 0).1 = _; rw [v0]
  · show (V 3 (numK n 1) 0).1 = _; rw [v1]
  · show (V 5 (numK n 2) 0).1 = _; rw [v2]
  · show (V 7 (numK n 3) 0).1 = _; rw [v3]
  · show (V 7 (numK n 3) 0).2 = _; rw [v3]

theorem qn_flat (x : I4) : qn x 4 = 2 ^ x.a.toNat * (3 ^ x.b.toNat * (5 ^ x.c.toNat * 7 ^ x.d.toNat)) := by
  show 1 * 2 ^ x.a.toNat * 3 ^ x.b.toNat * 5 ^ x.c.toNat * 7 ^ x.d.toNat = _
  simp [Nat.mul_assoc]
theorem qd_flat (x : I4) : qd x 4 = 2 ^ (-x.a).toNat * (3 ^ (-x.b).toNat * (5 ^ (-x.c).toNat * 7 ^ (-x.d).toNat)) := qn_flat x.neg_

theorem ofI_q (x : I4) : ofI (qn x 4) (qd x 4) = x := by
  obtain ⟨a1, b1, c1, d1, _⟩ := numE (qn_flat x)
  obtain ⟨a2, b2, c2, d2, _⟩ := numE (qd_flat x)
  refine I4.eq ?_ ?_ ?_ ?_
  · show (expK (qn x 4) 0 : Int) - expK (qd x 4) 0 = x.a; rw [a1, a2]; omega
  · show (expK (qn x 4) 1 : Int) - expK (qd x 4) 1 = x.b; rw [b1, b2]; omega
  · show (expK (qn x 4) 2 : Int) - expK (qd x 4) 2 = x.c; rw [c1, c2]; omega
  · show (expK (qn x 4) 3 : Int) - expK (qd x 4) 3 = x.d; rw [d1, d2]; omega
theorem ofOK_q (x : I4) : ofOK (qn x 4) (qd x 4) = true := by
  obtain ⟨_, _, _, _, n1⟩ := numE (qn_flat x)
  obtain ⟨_, _, _, _, n2⟩ := numE (qd_flat x)
  unfold ofOK
  rw [n1, n2]
  rfl

theorem cop_self (p : Nat) (i : Int) : Nat.Coprime (p ^ i.toNat) (p ^ (-i).toNat) := by
  rcases Int.le_total 0 i with h | h
  · rw [show (-i).toNat = 0 by omega]; exact Nat.coprime_one_right _
  · rw [show i.toNat = 0 by omega]; exact Nat.coprime_one_left _
theorem cop_two {p q : Nat} (i j : Nat) (h : Nat.Coprime p q) : Nat.Coprime (p ^ i) (q ^ j) := Nat.Coprime.pow i j h
theorem cop_q (x : I4) : Nat.gcd (qn x 4) (qd x 4) = 1 := by
  rw [qn_flat, qd_flat]
  have c : ∀ {k m n : Nat}, Nat.Coprime k m → Nat.Coprime k n → Nat.Coprime k (m * n) := Nat.Coprime.mul_right
  have c' : ∀ {k m n : Nat}, Nat.Coprime m k → Nat.Coprime n k → Nat.Coprime (m * n) k := fun h1 h2 => (c h1.symm h2.symm).symm
  exact c' (c (cop_self _ _) (c (cop_two _ _ (by decide)) (c (cop_two _ _ (by decide)) (cop_two _ _ (by decide)))))
    (c' (c (cop_two _ _ (by decide)) (c (cop_self _ _) (c (cop_two _ _ (by decide)) (cop_two _ _ (by decide)))))
      (c' (c (cop_two _ _ (by decide)) (c (cop_two _ _ (by decide)) (c (cop_self _ _) (cop_two _ _ (by decide)))))
        (c (cop_two _ _ (by decide)) (c (cop_two _ _ (by decide)) (c (cop_two _ _ (by decide)) (cop_self _ _))))))

theorem ofR_q {x : I4} (h : rightB x = true) : ofR (qn x 4) (qd x 4) = x := by
  unfold ofR
  rw [cop_q, ofOK_q, ofI_q]
  unfold okI
  rw [h]
  rfl
theorem ofE_q {x : I4} (h : rightB x = true) : ofE (qn x 4) (qd x 4) = 0 := by
  unfold ofE
  rw [cop_q, ofOK_q, ofI_q]
  unfold faultI
  rw [h]
  rfl

theorem cmpN_neg (x y : Nat) : cmpN x y = -cmpN y x := by
  unfold cmpN
  split
  · rw [if_neg (by omega), if_neg (by omega)]
  · split
    · rw [if_neg (by omega), if_pos (by omega)]; rfl
    · rw [if_pos (by omega)]; rfl
theorem cmpI_neg (x y : I4) : cmpI x y = -cmpI y x := cmpN_neg _ _
theorem cmpN_zero (x y : Nat) : cmpN x y = 0 ↔ x = y := by
  unfold cmpN
  split
  · constructor
    · intro h; cases h
    · omega
  · split
    · constructor
      · intro _; assumption
      · intro _; rfl
    · constructor
      · intro h; cases h
      · intro h; contradiction
theorem q_inj {x y : I4} (hn : qn x 4 = qn y 4) (hd : qd x 4 = qd y 4) : x = y := by
  rw [← ofI_q x, ← ofI_q y, hn, hd]
theorem cmpI_zero (x y : I4) : cmpI x y = 0 ↔ x = y := by
  unfold cmpI
  rw [cmpN_zero]
  constructor
  · intro h
    have hx := cop_q x
    have hy := cop_q y
    have d1 : qn x 4 ∣ qn y 4 := Nat.Coprime.dvd_of_dvd_mul_right (show Nat.Coprime (qn x 4) (qd x 4) from hx) ⟨qd y 4, h.symm⟩
    have d2 : qn y 4 ∣ qn x 4 := Nat.Coprime.dvd_of_dvd_mul_right (show Nat.Coprime (qn y 4) (qd y 4) from hy) ⟨qd x 4, h⟩
    have e := Nat.dvd_antisymm d1 d2
    rw [e] at h
    exact q_inj e (Nat.eq_of_mul_eq_mul_left (qn_pos y 4) h).symm
  · intro h
    subst h
    rfl

end Go.Proofs.YtkfdolnnkbhlhaaDoor
