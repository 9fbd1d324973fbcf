/- Plain mathematics: parts that are shifted are right, and come back. Conditions: as each theorem says. Plain mathematics: with a further singer who can sing all parts one less is lacking. Conditions: as each theorem says. -/
import Derived.Test.YthhbhjppljblnaaGreatDoorSiGiS
set_option linter.unusedSimpArgs false
set_option linter.unusedVariables false
namespace Go.Proofs.YthhbhjppljblnaaGreatDoor
open Go Go.RowKit

theorem ptN_low (L : Src) (a n : Nat) : ∀ x ∈ ptN L a n, 42 ≤ x.lo := fun x hx => by
  obtain ⟨j, _, rfl⟩ := List.mem_map.1 hx
  exact (pkF_in (L := L) (a := a + 4 * j) (xs := [42, 48, 50, 50, 52]) (lo := 42) (hi := 52) (by simp) (by decide)).1
theorem ptF_low (L : Src) (a : Nat) : ∀ x ∈ (ptF L a).1, 42 ≤ x.lo := by
  have h0 := rgF_in (L := L) (a := a) (lo := 0) (hi := 3) (by omega)
  obtain ⟨n, hn⟩ : ∃ n : Nat, rgF L a 0 3 = n := ⟨(rgF L a 0 3).toNat, by omega⟩
  rcases Nat.eq_zero_or_pos n with rfl | hp
  · rw [ptF_none hn]; intro x hx; cases hx
  · cases hf : flF L (a + 1 + 4 * n) 12
    · rw [ptF_keep hn hp hf]; exact ptN_low _ _ _
    · have hi := nxF_lt L (a + 1 + 4 * n + 1) n hp
      obtain ⟨x, hx⟩ := getD_some (show (ptN L (a + 1) n).length = n by simp [ptN]) hi
      rw [ptF_mod hn hp hf rfl hx]
      intro y hy
      rcases List.mem_or_eq_of_mem_set hy with h1 | h1
      · exact ptN_low _ _ _ y h1
      · rw [h1]
        have h2 := ptN_low _ _ _ x (List.mem_of_getElem? hx)
        have h3 := pkF_mem (L := L) (a := a + 1 + 4 * n + 1 + 1 + 1 + 1 + 1) (xs := [x.lo, 100]) (by simp)
        simp only
        rcases List.mem_cons.1 h3 with e | e
        · rw [e]; exact h2
        · rw [List.mem_singleton.1 e]; decide
theorem rpF_low (L : Src) : ∀ (t a : Nat), ∀ x ∈ (rpF L t a).1, 42 ≤ x.lo
  | 0, _ => fun x hx => by cases hx
  | t + 1, a => by
    unfold rpF
    split
    · exact ptF_low L a
    · exact rpF_low L t _
theorem rightP_in {x : PartV} (h : rightP x = true) : rightR x.lo x.hi = true ∧ inB x.least 0 x.most = true ∧ decide (x.most ≤ 100) = true := by
  unfold rightP at h
  simp only [Bool.and_eq_true] at h
  exact ⟨h.1.1, h.1.2, h.2⟩
theorem nameIn_up (P : List PartV) (d : Int) (i : Nat) (s : ByteArray) : nameIn (upL P d) i s = nameIn P i s := by
  unfold nameIn upL
  rw [← List.map_take, List.any_map]
  rfl
theorem upL_at {P : List PartV} {d : Int} {i : Nat} {x : PartV} (h : P[i]? = some x) : (upL P d)[i]? = some (x.up d) := by unfold upL; rw [List.getElem?_map, h]; rfl
theorem partsF_up {P : List PartV} {d : Int} (h : partsF P = 0) (hok : okUp P d = true) : partsF (upL P d) = 0 := by
  obtain ⟨hl, hr⟩ := partsF_right h
  have e : ∀ j, j < P.length → chkPart (upL P d) j = chkPart P j := fun j hj => by
    obtain ⟨x, hx⟩ := getD_some (rfl : P.length = P.length) hj
    have h1 := atL_of (d := default) hx
    have h2 := atL_of (d := default) (upL_at (d := d) hx)
    have hm := List.mem_of_getElem? hx
    have h3 := (hr x hm).2
    obtain ⟨a1, a2, a3⟩ := rightP_in h3
    have h4 : rightP (x.up d) = true := by
      unfold rightP
      simp only [PartV.up, Bool.and_eq_true]
      exact ⟨⟨List.all_eq_true.1 hok x hm, a2⟩, a3⟩
    unfold chkPart
    rw [h1, h2, h3, h4, nameIn_up]
    rfl
  unfold partsF at h ⊢
  rw [up_len]
  rw [if_neg (by omega)] at h ⊢
  rw [scan_congr e]
  exact h
theorem up_back (P : List PartV) (d : Int) : upL (upL P d) (-d) = P := by
  unfold upL
  rw [List.map_map]
  have : (fun x => PartV.up x (-d)) ∘ (fun x => PartV.up x d) = id := by
    funext x
    cases x
    simp [PartV.up]
    omega
  rw [this, List.map_id]
theorem right_mk {a b : Int} (h1 : 0 ≤ a) (h2 : a ≤ b) (h3 : b ≤ 127) : rightR a b = true := by
  unfold rightR outB
  simp
  omega
theorem okUp_low {P : List PartV} {d : Int} (hd : -12 ≤ d ∧ d ≤ 12) (h : partsF P = 0) (hlo : ∀ x ∈ P, 42 ≤ x.lo) (hhi : ∀ x ∈ P, x.hi ≤ 100) : okUp P d = true := by
  unfold okUp
  rw [List.all_eq_true]
  intro x hx
  have h1 := right_b (rightP_in ((partsF_right h).2 x hx).2).1
  have h2 := hlo x hx
  have h3 := hhi x hx
  exact right_mk (by omega) (by omega) (by omega)
theorem okUp_back {P : List PartV} {d : Int} (h : partsF P = 0) : okUp (upL P d) (-d) = true := by
  unfold okUp
  rw [List.all_eq_true]
  intro y hy
  obtain ⟨x, hx, rfl⟩ := List.mem_map.1 hy
  have h1 := (rightP_in ((partsF_right h).2 x hx).2).1
  simp only [PartV.up]
  rw [show x.lo + d + -d = x.lo by omega, show x.hi + d + -d = x.hi by omega]
  exact h1
theorem shB_of {P : List PartV} {d : Int} (hd : -12 ≤ d ∧ d ≤ 12) (hok : okUp P d = true) : shB P d = true := by
  unfold shB
  rw [hok, inB_iff.2 (by omega)]; rfl
theorem shifts_has {V : List VoiceV} {P : List PartV} {t d : Int} (hd : -12 ≤ d ∧ d ≤ 12) : (shiftsV V P t).contains d = fitB V P t d := by
  rw [Bool.eq_iff_iff, List.contains_iff_mem]
  unfold shiftsV spanL
  rw [List.mem_filter]
  constructor
  · exact fun h => h.2
  · refine fun h => ⟨List.mem_map.2 ⟨(d + 12).toNat, List.mem_range.2 (by omega), ?_⟩, h⟩
    omega
end Go.Proofs.YthhbhjppljblnaaGreatDoor

namespace Go.Proofs.YthhbhjppljblnaaGreatDoor
open Go Go.RowKit

/-! ### right voices with one more -/
/-! ### one singer more -/
end Go.Proofs.YthhbhjppljblnaaGreatDoor
