/- Intervals and their quotients: each tells the other; plain numbers. Conditions: the interval is right where that is said. Intervals sorted by height, by both texts. Conditions: all are right, and each there once. -/
import Derived.Test.YtapjekpjekdlkaaDoorQJ8
import Derived.Test.YtapjekpjekdlkaaDoorQTuneH
import Derived.Test.YtapjekpjekdlkaaDoorQJ13
import Derived.Test.YtapjekpjekdlkaaDoorQJ34
import Derived.Test.YtapjekpjekdlkaaDoorQTuneI
import Derived.Shelf.SlSortCmp.NoneTotal
set_option linter.unusedSimpArgs false
set_option linter.unusedVariables false
namespace Go.Proofs.YtapjekpjekdlkaaDoor

theorem cop_mod {p m : Nat} (hp : 2 ≤ p) (h : Nat.Coprime p m) : m % p ≠ 0 := by
  intro h0
  have hd : p ∣ m := Nat.dvd_of_mod_eq_zero h0
  have hg : Nat.gcd p m = p := Nat.gcd_eq_left hd
  have h1 : Nat.gcd p m = 1 := h
  omega
theorem cop_pow {p q : Nat} (i : Nat) (h : Nat.Coprime p q) : Nat.Coprime p (q ^ i) := Nat.Coprime.pow_right i h
theorem V_pow {p d m n : Nat} (hp : 2 ≤ p) (h : Nat.Coprime p m) (e : n = p ^ d * m) : V p n 0 = (d, m) := V_unique hp e.symm (cop_mod hp h)

theorem numE {n a b c d : Nat} (h : n = 2 ^ a * (3 ^ b * (5 ^ c * 7 ^ d))) : expK n 0 = a ∧ expK n 1 = b ∧ expK n 2 = c ∧ expK n 3 = d ∧ numK n 4 = 1 := by
  have v0 : V 2 n 0 = (a, 3 ^ b * (5 ^ c * 7 ^ d)) := V_pow (by omega) (Nat.Coprime.mul_right (cop_pow _ (by decide)) (Nat.Coprime.mul_right (cop_pow _ (by decide)) (cop_pow _ (by decide)))) h
  have n1 : numK n 1 = 3 ^ b * (5 ^ c * 7 ^ d) := by show (V 2 n 0).2 = _; rw [v0]
  have v1 : V 3 (numK n 1) 0 = (b, 5 ^ c * 7 ^ d) := V_pow (by omega) (Nat.Coprime.mul_right (cop_pow _ (by decide)) (cop_pow _ (by decide))) n1
  have n2 : numK n 2 = 5 ^ c * 7 ^ d := by show (V 3 (numK n 1) 0).2 = _; rw [v1]
  have v2 : V 5 (numK n 2) 0 = (c, 7 ^ d) := V_pow (by omega) (cop_pow _ (by decide)) n2
  have n3 : numK n 3 = 7 ^ d := by show (V 5 (numK n 2) 0).2 = _; rw [v2]
  have v3 : V 7 (numK n 3) 0 = (d, 1) := V_pow (by omega) (Nat.coprime_one_right 7) (by rw [n3, Nat.mul_one])
  refine ⟨?_, ?_, ?_, ?_, ?_⟩
  · show (V 2 n 0).1 = _; rw [v0]
  · show (V 3 (numK n 1) 0).1 = _; rw [v1]
  · show (V 5 (numK n 2) 0).1 = _; rw [v2]
  · show (V 7 (numK n 3) 0).1 = _; rw [v3]
  · show (V 7 (numK n 3) 0).2 = _; rw [v3]

theorem qn_flat (x : I4) : qn x 4 = 2 ^ x.a.toNat * (3 ^ x.b.toNat * (5 ^ x.c.toNat * 7 ^ x.d.toNat)) := by
  show 1 * 2 ^ x.a.toNat * 3 ^ x.b.toNat * 5 ^ x.c.toNat * 7 ^ x.d.toNat = _
  simp [Nat.mul_assoc]
theorem qd_flat (x : I4) : qd x 4 = 2 ^ (-x.a).toNat * (3 ^ (-x.b).toNat * (5 ^ (-x.c).toNat * 7 ^ (-x.d).toNat)) := qn_flat x.neg_

theorem ofI_q (x : I4) : ofI (qn x 4) (qd x 4) = x := by
  obtain ⟨a1, b1, c1, d1, _⟩ := numE (qn_flat x)
  obtain ⟨a2, b2, c2, d2, _⟩ := numE (qd_flat x)
  refine I4.eq ?_ ?_ ?_ ?_
  · show (expK (qn x 4) 0 : Int) - expK (qd x 4) 0 = x.a; rw [a1, a2]; omega
  · show (expK (qn x 4) 1 : Int) - expK (qd x 4) 1 = x.b; rw [b1, b2]; omega
  · show (expK (qn x 4) 2 : Int) - expK (qd x 4) 2 = x.c; rw [c1, c2]; omega
  · show (expK (qn x 4) 3 : Int) - expK (qd x 4) 3 = x.d; rw [d1, d2]; omega
theorem cop_self (p : Nat) (i : Int) : Nat.Coprime (p ^ i.toNat) (p ^ (-i).toNat) := by
  rcases Int.le_total 0 i with h | h
  · rw [show (-i).toNat = 0 by omega]; exact Nat.coprime_one_right _
  · rw [show i.toNat = 0 by omega]; exact Nat.coprime_one_left _
theorem cop_two {p q : Nat} (i j : Nat) (h : Nat.Coprime p q) : Nat.Coprime (p ^ i) (q ^ j) := Nat.Coprime.pow i j h
theorem cop_q (x : I4) : Nat.gcd (qn x 4) (qd x 4) = 1 := by
  rw [qn_flat, qd_flat]
  have c : ∀ {k m n : Nat}, Nat.Coprime k m → Nat.Coprime k n → Nat.Coprime k (m * n) := Nat.Coprime.mul_right
  have c' : ∀ {k m n : Nat}, Nat.Coprime m k → Nat.Coprime n k → Nat.Coprime (m * n) k := fun h1 h2 => (c h1.symm h2.symm).symm
  exact c' (c (cop_self _ _) (c (cop_two _ _ (by decide)) (c (cop_two _ _ (by decide)) (cop_two _ _ (by decide)))))
    (c' (c (cop_two _ _ (by decide)) (c (cop_self _ _) (c (cop_two _ _ (by decide)) (cop_two _ _ (by decide)))))
      (c' (c (cop_two _ _ (by decide)) (c (cop_two _ _ (by decide)) (c (cop_self _ _) (cop_two _ _ (by decide)))))
        (c (cop_two _ _ (by decide)) (c (cop_two _ _ (by decide)) (c (cop_two _ _ (by decide)) (cop_self _ _))))))

theorem cmpN_neg (x y : Nat) : cmpN x y = -cmpN y x := by
  unfold cmpN
  split
  · rw [if_neg (by omega), if_neg (by omega)]
  · split
    · rw [if_neg (by omega), if_pos (by omega)]; rfl
    · rw [if_pos (by omega)]; rfl
theorem cmpI_neg (x y : I4) : cmpI x y = -cmpI y x := cmpN_neg _ _
theorem cmpN_zero (x y : Nat) : cmpN x y = 0 ↔ x = y := by
  unfold cmpN
  split
  · constructor
    · intro h; cases h
    · omega
  · split
    · constructor
      · intro _; assumption
      · intro _; rfl
    · constructor
      · intro h; cases h
      · intro h; contradiction
theorem q_inj {x y : I4} (hn : qn x 4 = qn y 4) (hd : qd x 4 = qd y 4) : x = y := by
  rw [← ofI_q x, ← ofI_q y, hn, hd]
theorem cmpI_zero (x y : I4) : cmpI x y = 0 ↔ x = y := by
  unfold cmpI
  rw [cmpN_zero]
  constructor
  · intro h
    have hx := cop_q x
    have hy := cop_q y
    have d1 : qn x 4 ∣ qn y 4 := Nat.Coprime.dvd_of_dvd_mul_right (show Nat.Coprime (qn x 4) (qd x 4) from hx) ⟨qd y 4, h.symm⟩
    have d2 : qn y 4 ∣ qn x 4 := Nat.Coprime.dvd_of_dvd_mul_right (show Nat.Coprime (qn y 4) (qd y 4) from hy) ⟨qd x 4, h⟩
    have e := Nat.dvd_antisymm d1 d2
    rw [e] at h
    exact q_inj e (Nat.eq_of_mul_eq_mul_left (qn_pos y 4) h).symm
  · intro h
    subst h
    rfl

end Go.Proofs.YtapjekpjekdlkaaDoor

namespace Go.Proofs.YtapjekpjekdlkaaDoor
open Go Go.RowKit Go.Sort

/-- A list that rises in height. -/
def RiseI (l : List I4) : Prop := l.Pairwise fun x y => cmpI x y < 0
theorem cmpN_lt {x y : Nat} : cmpN x y < 0 ↔ x < y := by unfold cmpN; split <;> (try split) <;> omega
theorem cmpI_lt {x y : I4} : cmpI x y < 0 ↔ qn x 4 * qd y 4 < qn y 4 * qd x 4 := cmpN_lt
theorem cross_lt {a b c d e f : Nat} (hd : 0 < d) (h1 : a * d < c * b) (h2 : c * f ≤ e * d) (hf : 0 < f) : a * f < e * b := by
  refine Nat.lt_of_mul_lt_mul_right (a := d) ?_
  calc a * f * d = a * d * f := by rw [Nat.mul_assoc, Nat.mul_comm f, ← Nat.mul_assoc]
    _ < c * b * f := Nat.mul_lt_mul_of_pos_right h1 hf
    _ = c * f * b := by rw [Nat.mul_assoc, Nat.mul_comm b, ← Nat.mul_assoc]
    _ ≤ e * d * b := Nat.mul_le_mul_right _ h2
    _ = e * b * d := by rw [Nat.mul_assoc, Nat.mul_comm d, ← Nat.mul_assoc]
theorem cross_le {a b c d e f : Nat} (hd : 0 < d) (h1 : a * d ≤ c * b) (h2 : c * f ≤ e * d) : a * f ≤ e * b := by
  refine Nat.le_of_mul_le_mul_right (c := d) ?_ hd
  calc a * f * d = a * d * f := by rw [Nat.mul_assoc, Nat.mul_comm f, ← Nat.mul_assoc]
    _ ≤ c * b * f := Nat.mul_le_mul_right _ h1
    _ = c * f * b := by rw [Nat.mul_assoc, Nat.mul_comm b, ← Nat.mul_assoc]
    _ ≤ e * d * b := Nat.mul_le_mul_right _ h2
    _ = e * b * d := by rw [Nat.mul_assoc, Nat.mul_comm d, ← Nat.mul_assoc]
theorem qd_pos (x : I4) : 0 < qd x 4 := qn_pos x.neg_ 4
theorem ltI_trans {x y z : I4} (h : cmpI x y < 0) (k : cmpI y z < 0) : cmpI x z < 0 := by
  rw [cmpI_lt] at *
  exact cross_lt (qd_pos y) h (Nat.le_of_lt k) (qd_pos z)
theorem ltI_irrefl (x : I4) : ¬ cmpI x x < 0 := by rw [cmpI_lt]; exact Nat.lt_irrefl _
theorem ltI_asym {x y : I4} (h : cmpI x y < 0) (k : cmpI y x < 0) : False := ltI_irrefl x (ltI_trans h k)
theorem ltI_not {x y z : I4} (h : ¬ cmpI x y < 0) (k : ¬ cmpI y z < 0) : ¬ cmpI x z < 0 := by
  rw [cmpI_lt, Nat.not_lt] at *
  exact cross_le (qd_pos y) k h
/-- A right interval. -/
structure RI where
  val : I4
  property : rightB val = true
instance : Inhabited RI := ⟨⟨zeroI, right_zero⟩⟩
def riC (x : RI) : List Value := i4C x.1
def cmpR (x y : RI) : Int := cmpI x.1 y.1
theorem cmpR_swo : SWO (ltOf cmpR) where
  irrefl x := by unfold ltOf; exact decide_eq_false (ltI_irrefl x.1)
  trans x y z h1 h2 := by unfold ltOf at *; exact decide_eq_true (ltI_trans (of_decide_eq_true h1) (of_decide_eq_true h2))
  ntrans x y z h1 h2 := by unfold ltOf at *; exact decide_eq_false (ltI_not (of_decide_eq_false h1) (of_decide_eq_false h2))
theorem ri_of {l : List I4} (h : ∀ x ∈ l, rightB x = true) : ∃ r : List RI, r.map (·.1) = l := by
  induction l with
  | nil => exact ⟨[], rfl⟩
  | cons x l ih =>
    obtain ⟨r, hr⟩ := ih fun y hy => h y (List.mem_cons_of_mem _ hy)
    exact ⟨⟨x, h x (List.mem_cons_self ..)⟩ :: r, by rw [List.map_cons, hr]⟩
theorem ri_flat (r : List RI) : r.flatMap riC = (r.map (·.1)).flatMap i4C := by
  induction r with
  | nil => rfl
  | cons x r ih => rw [List.flatMap_cons, List.map_cons, List.flatMap_cons, ih]; rfl
/-- The only list of the same intervals that rises. -/
theorem riseI_uniq {S T : List I4} (h : RiseI S) (k : RiseI T) (hm : ∀ x, x ∈ S ↔ x ∈ T) : S = T := by
  induction S generalizing T with
  | nil =>
    cases T with
    | nil => rfl
    | cons b T => exact absurd ((hm b).2 (List.mem_cons_self ..)) (by simp)
  | cons a S ih =>
    cases T with
    | nil => exact absurd ((hm a).1 (List.mem_cons_self ..)) (by simp)
    | cons b T =>
      obtain ⟨p1, q1⟩ := List.pairwise_cons.1 h
      obtain ⟨p2, q2⟩ := List.pairwise_cons.1 k
      have e : a = b := by
        rcases List.mem_cons.1 ((hm a).1 (List.mem_cons_self ..)) with e | e
        · exact e
        · rcases List.mem_cons.1 ((hm b).2 (List.mem_cons_self ..)) with e2 | e2
          · exact e2.symm
          · exact (ltI_asym (p1 b e2) (p2 a e)).elim
      subst e
      congr 1
      refine ih q1 q2 fun x => ?_
      constructor
      · intro hx
        rcases List.mem_cons.1 ((hm x).1 (List.mem_cons_of_mem _ hx)) with e | e
        · subst e; exact (ltI_irrefl _ (p1 x hx)).elim
        · exact e
      · intro hx
        rcases List.mem_cons.1 ((hm x).2 (List.mem_cons_of_mem _ hx)) with e | e
        · subst e; exact (ltI_irrefl _ (p2 x hx)).elim
        · exact e
theorem rise_of {P : List RI} (hdis : P.Pairwise fun a b => a.1 ≠ b.1) {d : Array RI} (hp : PermIn 0 P.length P.toArray d) (hs : SortedIn (ltOf cmpR) 0 P.length d) : RiseI (d.toList.map (·.1)) ∧ d.toList.Perm P := by
  have hsz : d.size = P.length := by have := hp.1; simpa using this
  have hperm : d.toList.Perm P := by
    have h9 := hp.2.2
    have e2 : d.extract 0 P.length = d := by simp [← hsz]
    rw [e2] at h9
    simpa using h9
  refine ⟨?_, hperm⟩
  have hdd := (hperm.symm.pairwise_iff (fun {x y} h k => h k.symm)).1 hdis
  unfold RiseI
  rw [List.pairwise_map, List.pairwise_iff_getElem]
  rw [List.pairwise_iff_getElem] at hdd
  intro i j hi hj hij
  have h1 := hdd i j hi hj hij
  have h9 := hs i j (Nat.zero_le _) hij (by simp at hj; omega)
  simp at hi hj
  rw [getElem!_pos d j hj, getElem!_pos d i hi] at h9
  have h10 : ¬ cmpI (d[j]'hj).1 (d[i]'hi).1 < 0 := of_decide_eq_false h9
  have h11 : cmpI (d[i]'hi).1 (d[j]'hj).1 ≠ 0 := fun e => h1 (by simpa using (cmpI_zero _ _).1 e)
  have h12 := cmpI_neg (d[i]'hi).1 (d[j]'hj).1
  simp only [Array.getElem_toList]
  omega
set_option maxRecDepth 100000 in
theorem sortI_any {w : World} {base g n cap : Nat} {L : List I4} (h : w.ownsRow base 30 4 (.slice (some ⟨g, 0, none⟩) n cap) n (L.flatMap i4C)) (hn : L.length = n) (hn1 : n ≤ 1000000) (hr : ∀ x ∈ L, rightB x = true) (hok : L.Nodup) :
    Calls Tryd.prog 29 #[.slice (some ⟨g, 0, none⟩) n cap, .func (.func 38) #[] #[]] w fun e w' => e = .returned (.tuple #[]) ∧ ∃ M : List I4, M.Perm L ∧ RiseI M ∧ w'.ownsRow base 30 4 (.slice (some ⟨g, 0, none⟩) n cap) n (M.flatMap i4C) ∧ ∀ a : World, Ext a w → a.heap.size ≤ g → Ext a w' := by
  obtain ⟨R, hR⟩ := ri_of hr
  subst hR
  have hgl := (h.lt g rfl).2
  rw [← ri_flat] at h
  rw [List.length_map] at hn
  subst hn
  have hdis : R.Pairwise fun a b => a.1 ≠ b.1 := List.pairwise_map.1 hok
  have hs := AnyQ.slices_SortFunc Tryd.lsfIv 4 Tryd.isAgg30 Tryd.sizeOf30 riC (fun _ => rfl) (fun x => i4C_one x.1) cmpR cmpR_swo 38 #[] g 0 cap R.toArray w (fun args u => by rfl) (fun m os dk _ x y => (compareD_any x.1 y.1 _ x.2 y.2).mono fun e w' k => ⟨k.1, k.2.grow⟩) (holdsK_own (enc := riC) (fun _ => rfl) h) hgl (by simp; omega)
  refine hs.mono fun e w' ⟨he, d', q, os, hp, hso, hw⟩ => ?_
  obtain ⟨r1, r2⟩ := rise_of hdis (by simpa using hp) (by simpa using hso)
  refine ⟨he, d'.toList.map (·.1), r2.map _, r1, ?_, ?_⟩
  · rw [hw, ← ri_flat]
    exact own_sortK (enc := riC) (fun _ => rfl) h r2.length_eq
  · intro a ha hg
    rw [hw]
    exact ext_sortK ha hg
set_option maxRecDepth 100000 in
theorem sortH_any {w : World} {base g n cap : Nat} {L : List I4} (h : w.ownsRow base 30 4 (.slice (some ⟨g, 0, none⟩) n cap) n (L.flatMap i4C)) (hn : L.length = n) (hn1 : n ≤ 1000000) (hr : ∀ x ∈ L, rightB x = true) (hok : L.Nodup) :
    Calls Tryd.prog 29 #[.slice (some ⟨g, 0, none⟩) n cap, .func (.func 30) #[] #[]] w fun e w' => e = .returned (.tuple #[]) ∧ ∃ M : List I4, M.Perm L ∧ RiseI M ∧ w'.ownsRow base 30 4 (.slice (some ⟨g, 0, none⟩) n cap) n (M.flatMap i4C) ∧ ∀ a : World, Ext a w → a.heap.size ≤ g → Ext a w' := by
  obtain ⟨R, hR⟩ := ri_of hr
  subst hR
  have hgl := (h.lt g rfl).2
  rw [← ri_flat] at h
  rw [List.length_map] at hn
  subst hn
  have hdis : R.Pairwise fun a b => a.1 ≠ b.1 := List.pairwise_map.1 hok
  have hs := AnyQ.slices_SortFunc Tryd.lsfIv 4 Tryd.isAgg30 Tryd.sizeOf30 riC (fun _ => rfl) (fun x => i4C_one x.1) cmpR cmpR_swo 30 #[] g 0 cap R.toArray w (fun args u => by rfl) (fun m os dk _ x y => (byHeightD_any x.1 y.1 _ x.2 y.2).mono fun e w' k => ⟨k.1, k.2.grow⟩) (holdsK_own (enc := riC) (fun _ => rfl) h) hgl (by simp; omega)
  refine hs.mono fun e w' ⟨he, d', q, os, hp, hso, hw⟩ => ?_
  obtain ⟨r1, r2⟩ := rise_of hdis (by simpa using hp) (by simpa using hso)
  refine ⟨he, d'.toList.map (·.1), r2.map _, r1, ?_, ?_⟩
  · rw [hw, ← ri_flat]
    exact own_sortK (enc := riC) (fun _ => rfl) h r2.length_eq
  · intro a ha hg
    rw [hw]
    exact ext_sortK ha hg
theorem sortNone_any (p : Option Addr) (cap : Nat) (fv : Value) (w : World) :
    Calls Tryd.prog 29 #[.slice p 0 cap, fv] w fun e w' => e = .returned (.tuple #[]) ∧ w = w' := (AnyF.slices_SortFunc_none Tryd.lsfIv _ _ _ _).mono (fun _ _ h => And.intro h.1 h.2.symm)
end Go.Proofs.YtapjekpjekdlkaaDoor
