/- A shortest way has no more steps than there are places: plain mathematics. Conditions: the map is settled. -/
import Derived.Test.YtlmbpgjdepmlcaaDoorWayL
namespace Go.Proofs.YtlmbpgjdepmlcaaDoor
open Go

def cntW (f : St) (m : Int) : List ByteArray → Nat
  | [] => 0
  | p :: l => cntW f m l + (match f p with | some v => if v.1 ≤ m then 1 else 0 | none => 0)
theorem cntW_le (f : St) (m : Int) : ∀ l, cntW f m l ≤ l.length
  | [] => Nat.le_refl _
  | p :: l => by
    have := cntW_le f m l
    simp only [cntW, List.length_cons]
    cases f p with
    | none => simp only; omega
    | some v => simp only; split <;> omega
theorem cntW_mono (f : St) {m m' : Int} (h : m ≤ m') : ∀ l, cntW f m l ≤ cntW f m' l
  | [] => Nat.le_refl _
  | p :: l => by
    have := cntW_mono f h l
    simp only [cntW]
    cases f p with
    | none => simp only; omega
    | some v => simp only; split <;> split <;> omega
theorem cntW_new (f : St) {m m' : Int} {p : ByteArray} {v : Int × Int} (hp : f p = some v) (h1 : m < v.1) (h2 : v.1 ≤ m') : ∀ l, p ∈ l → cntW f m l + 1 ≤ cntW f m' l
  | [], h => by cases h
  | q :: l, h => by
    simp only [cntW]
    rcases List.mem_cons.1 h with e | h
    · subst e
      have := cntW_mono f (show m ≤ m' by omega) l
      rw [hp]
      simp only
      rw [if_neg (by omega), if_pos h2]
      omega
    · have := cntW_new f hp h1 h2 l h
      cases f q with
      | none => simp only; omega
      | some u => simp only; split <;> split <;> omega
theorem steps_cnt {L : List LegV} (hL : LegsOk L) {t : ByteArray} {f : St} (hI : Inv L t f) (hS : Settled L f L.length) : ∀ (k : Nat) (p : ByteArray) (m : Int), f p = some (m, (k : Int)) → k ≤ cntW f m (placesL L)
  | 0, _, _, _ => Nat.zero_le _
  | k + 1, p, m, h => by
    obtain ⟨x, hx, hf, r, hr, e⟩ := settled_leg hL hI hS h (by simp only; omega)
    obtain ⟨r1, r2⟩ := r
    have hone := (hL.one x hx).1
    simp only [byW, Prod.mk.injEq] at e
    obtain ⟨e1, e2⟩ := e
    have hk : r2 = (k : Int) := by omega
    subst hk
    have ih := steps_cnt hL hI hS k x.to r1 hr
    have := cntW_new f (m := r1) (m' := m) h (by simp only; omega) (by simp only; omega) (placesL L) (hf ▸ places_fr hx)
    omega
/-- The steps of a shortest way. -/
theorem steps_le {L : List LegV} (hL : LegsOk L) {t : ByteArray} {f : St} (hI : Inv L t f) (hS : Settled L f L.length) {p : ByteArray} {m k : Int} (h : f p = some (m, k)) : 0 ≤ k ∧ k ≤ 800 := by
  have hn := (hI.walk p m k h).nonneg fun x hx => (hL.one x hx).1
  obtain ⟨j, rfl⟩ : ∃ j : Nat, k = j := ⟨k.toNat, by omega⟩
  have h1 := steps_cnt hL hI hS j p m h
  have h2 := cntW_le f m (placesL L)
  rw [places_len] at h2
  have h3 := hL.len
  omega
theorem walk_none {L : List LegV} (hL : LegsOk L) {p q : ByteArray} {m : Int} (h : Walk L p q m 0) : p = q ∧ m = 0 := by
  have key : ∀ {p q m k}, Walk L p q m k → k = 0 → p = q ∧ m = 0 := by
    intro p q m k h hk
    cases h with
    | nil => exact ⟨rfl, rfl⟩
    | cons hx h' =>
      have := h'.nonneg fun x hx => (hL.one x hx).1
      omega
  exact key h rfl
end Go.Proofs.YtlmbpgjdepmlcaaDoor
