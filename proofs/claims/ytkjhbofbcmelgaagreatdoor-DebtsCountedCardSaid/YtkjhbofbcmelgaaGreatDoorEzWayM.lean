/- Legs, walks along them, and the shortest ones: plain mathematics. Conditions: as each theorem says. -/
import Derived.Test.YtkjhbofbcmelgaaGreatDoorEzJ2
import Derived.Lib.Bytealg
set_option linter.unusedSimpArgs false
set_option linter.unusedVariables false
namespace Go.Proofs.YtkjhbofbcmelgaaGreatDoor
open Go
structure LegV where
 fr : ByteArray
 to : ByteArray
 m : Int
instance : Inhabited LegV := ⟨⟨⟨#[]⟩, ⟨#[]⟩, 0⟩⟩
/-! ### the order of strings -/
theorem cb_refl : ∀ a : List UInt8, Lib.compareBytes a a = 0
 | [] => rfl
 | a :: l => by
   unfold Lib.compareBytes
   rw [if_neg (by exact Nat.lt_irrefl _), if_neg (by exact Nat.lt_irrefl _)]
   exact cb_refl l
theorem cb_three : ∀ a b : List UInt8, Lib.compareBytes a b = -1 ∨ Lib.compareBytes a b = 0 ∨ Lib.compareBytes a b = 1
 | [],[] => .inr (.inl rfl)
 | [], _ :: _ => .inl rfl
 | _ :: _, [] => .inr (.inr rfl)
 | a :: l, b :: r => by
   unfold Lib.compareBytes
   split
   ·exact .inl rfl
   ·split
    ·exact .inr (.inr rfl)
    ·exact cb_three l r
theorem u8_tri {a b : UInt8} (h1 : ¬ a < b) (h2 : ¬ b < a) : a = b := by
 have h3 : ¬ a.toNat < b.toNat := h1
 have h4 : ¬ b.toNat < a.toNat := h2
 exact UInt8.toNat_inj.1 (by omega)
theorem cb_zero : ∀ {a b : List UInt8}, Lib.compareBytes a b = 0 → a = b
 | [],[], _ => rfl
 | [], _ :: _, h => by cases h
 | _ :: _, [], h => by cases h
 | a :: l, b :: r, h => by
   unfold Lib.compareBytes at h
   split at h
   ·cases h
   ·split at h
    ·cases h
    ·rename_i h1 h2
     rw [u8_tri h1 h2, cb_zero h]
theorem cb_trans : ∀ {a b c : List UInt8}, Lib.compareBytes a b = -1 → Lib.compareBytes b c = -1 → Lib.compareBytes a c = -1
 | [], _, [], h1, h2 => by
   rename_i b
   cases b with
   | nil => cases h1
   | cons x l => cases h2
 | [], _, _ :: _, _, _ => rfl
 | _ :: _, [], _, h1, _ => by cases h1
 | _ :: _, _ :: _, [], _, h2 => by cases h2
 | a :: l, b :: r, c :: q, h1, h2 => by
   unfold Lib.compareBytes at h1 h2 ⊢
   have e1 : a < b ∨ (a = b ∧ Lib.compareBytes l r = -1) := by
    split at h1
    ·exact .inl (by assumption)
    ·split at h1
     ·cases h1
     ·rename_i k1 k2
      exact .inr ⟨u8_tri k1 k2, h1⟩
   have e2 : b < c ∨ (b = c ∧ Lib.compareBytes r q = -1) := by
    split at h2
    ·exact .inl (by assumption)
    ·split at h2
     ·cases h2
     ·rename_i k1 k2
      exact .inr ⟨u8_tri k1 k2, h2⟩
   rcases e1 with e1 | ⟨rfl, e1⟩
   ·have hac : a < c := by
     rcases e2 with e2 | ⟨rfl, _⟩
     ·have h3 : a.toNat < b.toNat := e1
      have h4 : b.toNat < c.toNat := e2
      show a.toNat < c.toNat
      omega
     ·exact e1
    rw [if_pos hac]
   ·rcases e2 with e2 | ⟨rfl, e2⟩
    ·rw [if_pos e2]
    ·rw [if_neg (by exact Nat.lt_irrefl _), if_neg (by exact Nat.lt_irrefl _)]
     exact cb_trans e1 e2
def cmpS (a b : ByteArray) : Int := Lib.compareBytes a.data.toList b.data.toList
theorem cmpS_three (a b : ByteArray) : cmpS a b = -1 ∨ cmpS a b = 0 ∨ cmpS a b = 1 := cb_three _ _
theorem cmpS_refl (a : ByteArray) : cmpS a a = 0 := cb_refl _
theorem cmpS_zero {a b : ByteArray} (h : cmpS a b = 0) : a = b := by
 have := cb_zero h
 cases a; cases b
 simp only at this
 congr 1
 exact Array.toList_inj.1 this
theorem cmpS_trans {a b c : ByteArray} (h1 : cmpS a b = -1) (h2 : cmpS b c = -1) : cmpS a c = -1 := cb_trans h1 h2
/-- How two legs are ordered. -/
def legC_ (x y : LegV) : Int := orF [cmpS x.fr y.fr, cmpS x.to y.to]
/-- Legs rise strictly. -/
def Rising (L : List LegV) : Prop := ∀ i x y, L[i]? = some x → L[i + 1]? = some y → legC_ x y = -1
/-! ### walks -/
inductive Walk (L : List LegV) : ByteArray → ByteArray → Int → Int → Prop
 | nil (p) : Walk L p p 0 0
 | cons {x q m k} (hx : x ∈ L) (h : Walk L x.to q m k) : Walk L x.fr q (m + x.m) (k + 1)
theorem Walk.nonneg {L : List LegV} (hL : ∀ x ∈ L, 1 ≤ x.m) {p q : ByteArray} {m k : Int} (h : Walk L p q m k) : 0 ≤ k ∧ k ≤ m := by
 induction h with
 | nil p => omega
 | cons hx h ih => have := hL _ hx; omega
theorem Walk.append {L : List LegV} {p q r : ByteArray} {m k m' k' : Int} (h : Walk L p q m k) (h' : Walk L q r m' k') : Walk L p r (m + m') (k + k') := by
 induction h with
 | nil p => simpa using h'
 | cons hx h ih => rename_i x q m k; have := Walk.cons hx (ih h'); rw [show m + m' + x.m = m + x.m + m' by omega, show k + k' + 1 = k + 1 + k' by omega] at this; exact this
def lessW (a b : Int × Int) : Bool := decide (a.1 < b.1) || (decide (a.1 = b.1) && decide (a.2 < b.2))
theorem lessW_iff {a b : Int × Int} : lessW a b = true ↔ a.1 < b.1 ∨ (a.1 = b.1 ∧ a.2 < b.2) := by simp [lessW]
def byW (a : Int × Int) (x : LegV) : Int × Int := (a.1 + x.m, a.2 + 1)
abbrev St := ByteArray → Option (Int × Int)
def St.upd (f : St) (p : ByteArray) (v : Int × Int) : St := fun q => if q = p then some v else f q
theorem St.upd_same (f : St) (p : ByteArray) (v : Int × Int) : f.upd p v p = some v := by simp [St.upd]
theorem St.upd_other (f : St) {p q : ByteArray} (v : Int × Int) (h : q ≠ p) : f.upd p v q = f q := by simp [St.upd, h]
def placesL (L : List LegV) : List ByteArray := L.flatMap fun x => [x.fr, x.to]
theorem places_fr {L : List LegV} {x : LegV} (h : x ∈ L) : x.fr ∈ placesL L := List.mem_flatMap.2 ⟨x, h, by simp⟩
def absent (f : St) : List ByteArray → Nat
 | [] => 0
 | p :: l => absent f l + if (f p).isSome then 0 else 1
theorem absent_le (f : St) : ∀ l, absent f l ≤ l.length
 | [] => Nat.le_refl _
 | p :: l => by have := absent_le f l; simp only [absent, List.length_cons]; split <;> omega
theorem absent_mono (f : St) (p : ByteArray) (v : Int × Int) : ∀ l, absent (f.upd p v) l ≤ absent f l
 | [] => Nat.le_refl _
 | q :: l => by
   have ih := absent_mono f p v l
   simp only [absent]
   by_cases e : q = p
   ·subst e; rw [St.upd_same]; simp; split <;> omega
   ·rw [St.upd_other f v e]; omega
theorem absent_new (f : St) (p : ByteArray) (v : Int × Int) (hp : f p = none) : ∀ l, p ∈ l → absent (f.upd p v) l + 1 ≤ absent f l
 | [], h => by cases h
 | q :: l, h => by
   simp only [absent]
   by_cases e : q = p
   ·subst e
    have := absent_mono f q v l
    rw [St.upd_same, hp]
    simp
    omega
   ·have hl : p ∈ l := by
     rcases List.mem_cons.1 h with h1 | h1
     ·exact absurd h1.symm e
     ·exact h1
    have ih := absent_new f p v hp l hl
    rw [St.upd_other f v e]
    omega
def rank (B : Nat) : Option (Int × Int) → Nat
 | none => B * B
 | some (m, k) => m.toNat * B + k.toNat
def total (B : Nat) (f : St) : List ByteArray → Nat
 | [] => 0
 | p :: l => total B f l + rank B (f p)
theorem total_le {B : Nat} {f g : St} : ∀ (l : List ByteArray), (∀ p ∈ l, rank B (g p) ≤ rank B (f p)) → total B g l ≤ total B f l
 | [], _ => Nat.le_refl _
 | p :: l, h => by
   have h1 := h p (by simp)
   have h2 := total_le l fun q hq => h q (by simp [hq])
   simp only [total]
   omega
theorem total_lt {B : Nat} {f g : St} {p : ByteArray} : ∀ (l : List ByteArray), (∀ q ∈ l, rank B (g q) ≤ rank B (f q)) → p ∈ l → rank B (g p) < rank B (f p) → total B g l < total B f l
 | [], _, hp, _ => by cases hp
 | q :: l, h, hp, hlt => by
   have h1 := h q (by simp)
   have h2 := fun r (hr : r ∈ l) => h r (by simp [hr])
   simp only [total]
   rcases List.mem_cons.1 hp with e | hp
   ·subst e
    have := total_le l h2
    omega
   ·have := total_lt l h2 hp hlt
    omega
/-- What holds of the map at each moment. -/
structure Inv (L : List LegV) (t : ByteArray) (f : St) : Prop where
 zero : f t = some (0,0)
 walk : ∀ p m k, f p = some (m, k) → Walk L p t m k
 low : ∀ p m k, f p = some (m, k) → m ≤ 100000000 * ((placesL L).length - absent f (placesL L) : Nat)
structure LegsOk (L : List LegV) : Prop where
 len : L.length ≤ 400
 one : ∀ x ∈ L, 1 ≤ x.m ∧ x.m ≤ 100000000
 rise : Rising L
def bigB (L : List LegV) : Nat := 100000000 * (placesL L).length + 1
theorem Inv.bound {L : List LegV} (hL : LegsOk L) {t : ByteArray} {f : St} (h : Inv L t f) {p : ByteArray} {m k : Int} (hp : f p = some (m, k)) : 0 ≤ k ∧ k ≤ m ∧ m.toNat < bigB L := by
 have h1 := (h.walk p m k hp).nonneg fun x hx => (hL.one x hx).1
 have h2 := h.low p m k hp
 unfold bigB
 omega
theorem rank_some {L : List LegV} (hL : LegsOk L) {t : ByteArray} {f : St} (h : Inv L t f) {p : ByteArray} {v : Int × Int} (hp : f p = some v) : rank (bigB L) (some v) < bigB L * bigB L := by
 obtain ⟨m, k⟩ := v
 obtain ⟨h1, h2, h3⟩ := h.bound hL hp
 have h4 : (m.toNat + 1) * bigB L ≤ bigB L * bigB L := Nat.mul_le_mul_right _ h3
 rw [Nat.add_mul] at h4
 show m.toNat * bigB L + k.toNat < _
 omega
theorem rank_less {B : Nat} {a b : Int × Int} (ha : 0 ≤ a.1) (ha2 : 0 ≤ a.2) (hk : a.2.toNat < B) (h : lessW a b = true) : rank B (some a) < rank B (some b) := by
 obtain ⟨m, k⟩ := a
 obtain ⟨m', k'⟩ := b
 rw [lessW_iff] at h
 simp only at h ha ha2 hk
 show m.toNat * B + k.toNat < m'.toNat * B + k'.toNat
 rcases h with h | ⟨rfl, h⟩
 ·have h4 : (m.toNat + 1) * B ≤ m'.toNat * B := Nat.mul_le_mul_right _ (by omega)
  rw [Nat.add_mul] at h4
  omega
 ·omega
/-- A leg that is better: the map is one again, and nearer to the end. -/
theorem Inv.better {L : List LegV} (hL : LegsOk L) {t : ByteArray} {f : St} (h : Inv L t f) {x : LegV} (hx : x ∈ L) {r : Int × Int} (hr : f x.to = some r) (hb : ∀ o, f x.fr = some o → lessW (byW r x) o = true) :
 Inv L t (f.upd x.fr (byW r x)) ∧ total (bigB L) (f.upd x.fr (byW r x)) (placesL L) < total (bigB L) f (placesL L) := by
 obtain ⟨rm, rk⟩ := r
 have hw := h.walk _ _ _ hr
 have hn := hw.nonneg fun x hx => (hL.one x hx).1
 have h1 := (hL.one x hx).1
 have h2 := (hL.one x hx).2
 have hlow := h.low _ _ _ hr
 have hal := absent_le f (placesL L)
 have hne : x.fr ≠ t := fun e => by
  have := hb _ (e ▸ h.zero)
  rw [lessW_iff] at this
  simp only [byW] at this
  omega
 have hI : Inv L t (f.upd x.fr (byW (rm, rk) x)) := by
  refine ⟨by rw [St.upd_other _ _ (Ne.symm hne)]; exact h.zero, fun p m k hp => ?_, fun p m k hp => ?_⟩
  ·by_cases e : p = x.fr
   ·subst e
    rw [St.upd_same] at hp
    cases hp
    exact .cons hx hw
   ·rw [St.upd_other _ _ e] at hp
    exact h.walk p m k hp
  ·have hmo := absent_mono f x.fr (byW (rm, rk) x) (placesL L)
   by_cases e : p = x.fr
   ·subst e
    rw [St.upd_same] at hp
    cases hf : f x.fr with
    | none =>
      have := absent_new f x.fr (byW (rm, rk) x) hf _ (places_fr hx)
      cases hp
      omega
    | some o =>
      have h3 := hb o hf
      rw [lessW_iff] at h3
      obtain ⟨om, ok⟩ := o
      have h4 := h.low _ _ _ hf
      cases hp
      simp only [byW] at h3
      omega
   ·rw [St.upd_other _ _ e] at hp
    have := h.low p m k hp
    omega
 refine ⟨hI, ?_⟩
 have hlt : rank (bigB L) ((f.upd x.fr (byW (rm, rk) x)) x.fr) < rank (bigB L) (f x.fr) := by
  rw [St.upd_same]
  have hbd := hI.bound hL (St.upd_same f x.fr (byW (rm, rk) x))
  cases hf : f x.fr with
  | none => exact rank_some hL hI (St.upd_same _ _ _)
  | some o => exact rank_less (by simp only [byW]; omega) (by simp only [byW]; omega) (by simp only [byW] at hbd ⊢; omega) (hb o hf)
 refine total_lt (p := x.fr) _ (fun q _ => ?_) (places_fr hx) hlt
 by_cases e : q = x.fr
 ·subst e; exact Nat.le_of_lt hlt
 ·rw [St.upd_other _ _ e]; exact Nat.le_refl _
/-- No leg is better, up to the i-th one. -/
def Settled (L : List LegV) (f : St) (i : Nat) : Prop := ∀ j x, j < i → L[j]? = some x → ∀ r, f x.to = some r → ∃ o, f x.fr = some o ∧ lessW (byW r x) o = false
theorem Settled.all {L : List LegV} {f : St} (h : Settled L f L.length) {x : LegV} (hx : x ∈ L) {r : Int × Int} (hr : f x.to = some r) : ∃ o, f x.fr = some o ∧ lessW (byW r x) o = false := by
 obtain ⟨j, hj, e⟩ := List.getElem_of_mem hx
 exact h j x hj (by rw [List.getElem?_eq_getElem hj, e]) r hr
end Go.Proofs.YtkjhbofbcmelgaaGreatDoor
