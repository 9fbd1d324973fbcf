/- Sorting by a number and then by a name; the stable sort by the number alone of what stands by names. Plain. Conditions: as each theorem says. -/
import Derived.Test.YtjfmpgohkjoneaaGreatDoorPsSrtA
set_option linter.unusedSimpArgs false
set_option linter.unusedVariables false
namespace Go.Proofs.YtjfmpgohkjoneaaGreatDoor
open Go Go.RowKit Go.Sort

section
variable {α : Type} (f : α → Int) (g : α → ByteArray)
def cmpK (a b : α) : Int := orF [cmpZ (f a) (f b), cmpS (g a) (g b)]
def cmpF (a b : α) : Int := cmpZ (f a) (f b)
/-- Strictly ahead. -/
def LtK (a b : α) : Prop := f a < f b ∨ (f a = f b ∧ cmpS (g a) (g b) = -1)
theorem ltK_iff (a b : α) : ltOf (cmpK f g) a b = true ↔ LtK f g a b := by
  unfold ltOf cmpK orF orF LtK orF
  rw [decide_eq_true_iff]
  by_cases h : cmpZ (f a) (f b) = 0
  · rw [if_pos h]
    have h' := cmpZ_zero.1 h
    by_cases h2 : cmpS (g a) (g b) = 0
    · rw [if_pos h2]
      constructor
      · intro h; omega
      · rintro (h | ⟨-, h⟩) <;> omega
    · rw [if_neg h2, cmpS_neg]
      exact ⟨fun h => .inr ⟨h', h⟩, fun h => by rcases h with h | ⟨-, h⟩; omega; exact h⟩
  · rw [if_neg h, cmpZ_lt]
    have h' : ¬ f a = f b := fun e => h (cmpZ_zero.2 e)
    exact ⟨fun h => .inl h, fun h => by rcases h with h | ⟨e, -⟩; exact h; exact absurd e h'⟩
theorem ltK_asym {a b : α} (h : LtK f g a b) (k : LtK f g b a) : False := by
  unfold LtK at h k
  rcases h with h | ⟨h1, h2⟩ <;> rcases k with k | ⟨k1, k2⟩
  · omega
  · omega
  · omega
  · rw [cmpS_flip h2] at k2; cases k2
theorem ltK_trans {a b c : α} (h : LtK f g a b) (k : LtK f g b c) : LtK f g a c := by
  unfold LtK at *
  rcases h with h | ⟨h1, h2⟩ <;> rcases k with k | ⟨k1, k2⟩
  · exact .inl (by omega)
  · exact .inl (by omega)
  · exact .inl (by omega)
  · exact .inr ⟨by omega, cmpS_trans h2 k2⟩
theorem ltK_not {a b : α} (h : ¬ LtK f g a b) : f b < f a ∨ (f a = f b ∧ (cmpS (g a) (g b) = 0 ∨ cmpS (g b) (g a) = -1)) := by
  unfold LtK at h
  rcases Int.lt_trichotomy (f a) (f b) with e | e | e
  · exact absurd (.inl e) h
  · refine .inr ⟨e, ?_⟩
    rcases cmpS_three (g a) (g b) with h1 | h1 | h1
    · exact absurd (.inr ⟨e, h1⟩) h
    · exact .inl h1
    · exact .inr (cmpS_anti h1)
  · exact .inl e
theorem k_swo : SWO (ltOf (cmpK f g)) where
  irrefl x := by
    rw [← Bool.not_eq_true, ltK_iff f g]
    exact fun h => ltK_asym f g h h
  trans x y z h1 h2 := by
    rw [ltK_iff f g] at *
    exact ltK_trans f g h1 h2
  ntrans x y z h1 h2 := by
    rw [← Bool.not_eq_true, ltK_iff f g] at *
    have k1 := ltK_not f g h1
    have k2 := ltK_not f g h2
    rintro (h | ⟨h, h'⟩)
    · rcases k1 with k1 | ⟨k1, -⟩ <;> rcases k2 with k2 | ⟨k2, -⟩ <;> omega
    · rcases k1 with k1 | ⟨e1, k1⟩ <;> rcases k2 with k2 | ⟨e2, k2⟩ <;> try omega
      rcases k1 with k1 | k1 <;> rcases k2 with k2 | k2
      · rw [cmpS_zero k1, cmpS_zero k2, cmpS_refl] at h'; cases h'
      · rw [cmpS_zero k1] at h'
        rw [cmpS_flip k2] at h'; cases h'
      · rw [← cmpS_zero k2] at h'
        rw [cmpS_flip k1] at h'; cases h'
      · rw [cmpS_flip (cmpS_trans k2 k1)] at h'; cases h'


/-- So sorted: a rearrangement, each strictly ahead of those behind it. -/
def ByK (P M : List α) : Prop := M.Perm P ∧ M.Pairwise (LtK f g)
theorem byK_uniq {P Q M N : List α} (h : ByK f g P M) (k : ByK f g Q N) (hp : P.Perm Q) : M = N := same_of (fun _ _ => ltK_asym f g) h.2 k.2 (h.1.trans (hp.trans k.1.symm))
variable [Inhabited α]
theorem byK_of {P : List α} (hdis : P.Pairwise fun a b => g a ≠ g b) {d : Array α} (hp : PermIn 0 P.length P.toArray d) (hs : SortedIn (ltOf (cmpK f g)) 0 P.length d) : ByK f g P d.toList := by
  have hsz : d.size = P.length := by have := hp.1; simpa using this
  have hperm : d.toList.Perm P := by
    have h9 := hp.2.2
    have e2 : d.extract 0 P.length = d := by simp [← hsz]
    rw [e2] at h9
    simpa using h9
  refine ⟨hperm, ?_⟩
  have hdd := (hperm.symm.pairwise_iff (fun {x y} h k => h k.symm)).1 hdis
  rw [List.pairwise_iff_getElem] at hdd ⊢
  intro i j hi hj hij
  have h1 := hdd i j hi hj hij
  have h9 := hs i j (Nat.zero_le _) hij (by simp at hj; omega)
  rw [← Bool.not_eq_true, ltK_iff] at h9
  simp at hi hj
  rw [getElem!_pos d j hj, getElem!_pos d i hi] at h9
  rcases ltK_not f g h9 with h | ⟨h, k | k⟩
  · exact .inl h
  · exact absurd (cmpS_zero k).symm h1
  · exact .inr ⟨h.symm, k⟩
/-- The stable sort by the number alone. -/
theorem stableK_of {P : List α} (hr : P.Pairwise fun a b => cmpS (g a) (g b) = -1) : ByK f g P (insertionSort (ltOf (cmpF f)) P.toArray 0 P.length).toList := by
  have h := insertionSort_congr (lt := ltOf (cmpF f)) (lt2 := ltOf (cmpK f g)) (R := fun x y => cmpS (g x) (g y) = -1) (fun x y h => by
    unfold ltOf cmpF cmpK orF orF orF
    rw [cmpS_flip h]
    by_cases e : cmpZ (f y) (f x) = 0
    · rw [if_pos e, e]; rfl
    · rw [if_neg e]) P.toArray (fun p q hpq hq => by
    simp at hq
    have e1 : P.toArray[p]! = P[p] := by simp [getElem!_pos, show p < P.length by omega]
    have e2 : P.toArray[q]! = P[q] := by simp [getElem!_pos, hq]
    rw [e1, e2]
    rw [List.pairwise_iff_getElem] at hr
    exact hr p q (by omega) hq hpq)
  have e : P.toArray.size = P.length := by simp
  rw [e] at h
  rw [h]
  have h2 := insertionSort_holds (lt := ltOf (cmpK f g)) (k_swo f g) P.toArray 0 P.length (Nat.zero_le _) (by simp)
  exact byK_of f g (hr.imp fun {a b} h e => by rw [e, cmpS_refl] at h; cases h) h2.1 h2.2
end
end Go.Proofs.YtjfmpgohkjoneaaGreatDoor
