/- What is wrong with legs, by both texts. Conditions: sizes. -/
import Derived.Test.YtlmbpgjdepmlcaaDoorWayM
import Derived.Test.YtlmbpgjdepmlcaaDoorKeyR
import Derived.Test.YtlmbpgjdepmlcaaDoorRepB
import Derived.Test.YtlmbpgjdepmlcaaDoorFactsB
import Derived.Deep.DeepCutAuto
import Derived.Deep.Light
namespace Go.Proofs.YtlmbpgjdepmlcaaDoor
open Go Go.RowKit

def legC (x : LegV) : List Value := [.string x.fr, .string x.to, .int .i64 x.m]
theorem legC_len (x : LegV) : (legC x).length = 3 := rfl
theorem leg_one (x : LegV) : ∀ u ∈ legC x, u.oneCell' = true := by simp [legC, Value.oneCell']
theorem Elems.leg {w : World} {b off : Nat} {xs : List LegV} (h : Elems 3 legC w b off xs) {i : Nat} {x : LegV} (hx : xs[i]? = some x) :
    w.cell? ⟨b, off + i * 3, none⟩ = some (.string x.fr) ∧ w.cell? ⟨b, off + i * 3 + 1, none⟩ = some (.string x.to) ∧ w.cell? ⟨b, off + i * 3 + 2, none⟩ = some (.int .i64 x.m) :=
  ⟨h i x hx 0 _ rfl, h i x hx 1 _ rfl, h i x hx 2 _ rfl⟩

def chkLeg (xs : List LegV) (i : Nat) : Int :=
  if keyB (atL default xs i).fr && keyB (atL default xs i).to then
    (if (atL default xs i).fr.toList == (atL default xs i).to.toList then 3 else
      if inB (atL default xs i).m 1 100000000 then (if 0 < i && decide (0 ≤ legC_ (atL default xs (i - 1)) (atL default xs i)) then 7 else 0) else 1) else 5
def legsF (xs : List LegV) : Int := if 400 < xs.length then 2 else scanF xs.length (chkLeg xs)
def LegV.Small (x : LegV) : Prop := x.fr.size ≤ 1000 ∧ x.to.size ≤ 1000 ∧ -1099511627776 ≤ x.m ∧ x.m ≤ 1099511627776

theorem scan_all {n : Nat} {f : Nat → Int} (h : scanF n f = 0) : Zeros f n := by
  have hz : ∀ k, k ≤ n → Zeros f k := by
    intro k
    induction k with
    | zero => intro _ j hj; omega
    | succ k ih =>
      intro hk
      have hz := ih (by omega)
      refine hz.succ ?_
      rcases (inferInstance : Decidable (f k = 0)) with hn | hy
      · have := scan_at (n := n) k (by omega) hz hn
        rw [h] at this
        exact this.symm
      · exact hy
  exact hz n (Nat.le_refl _)
theorem legsF_ok {xs : List LegV} (h : legsF xs = 0) : LegsOk xs ∧ (∀ x ∈ xs, keyB x.fr = true ∧ keyB x.to = true ∧ (x.fr.toList == x.to.toList) = false) := by
  unfold legsF at h
  have hl : xs.length ≤ 400 := by
    rcases Nat.lt_or_ge 400 xs.length with h1 | h1
    · rw [if_pos h1] at h; cases h
    · exact h1
  rw [if_neg (by omega)] at h
  have hz := scan_all h
  have hat : ∀ i x, xs[i]? = some x → keyB x.fr = true ∧ keyB x.to = true ∧ (x.fr.toList == x.to.toList) = false ∧ inB x.m 1 100000000 = true ∧ (0 < i → legC_ (atL default xs (i - 1)) x = -1) := by
    intro i x hx
    have h0 := hz i (List.getElem?_eq_some_iff.1 hx).1
    unfold chkLeg at h0
    rw [atL_of hx] at h0
    cases k1 : keyB x.fr
    · rw [k1] at h0; simp at h0
    cases k2 : keyB x.to
    · rw [k1, k2] at h0; simp at h0
    cases k3 : (x.fr.toList == x.to.toList)
    case true => rw [k1, k2, k3] at h0; simp at h0
    cases k4 : inB x.m 1 100000000
    · rw [k1, k2, k3, k4] at h0; simp at h0
    rw [k1, k2, k3, k4] at h0
    refine ⟨rfl, rfl, rfl, rfl, fun hi => ?_⟩
    rcases legC_three (atL default xs (i - 1)) x with h1 | h1 | h1
    · exact h1
    · rw [h1] at h0; simp at h0; omega
    · rw [h1] at h0; simp at h0; omega
  refine ⟨⟨hl, fun x hx => ?_, fun i x y hx hy => ?_⟩, fun x hx => ?_⟩
  · obtain ⟨i, hi, e⟩ := List.getElem_of_mem hx
    have := (hat i x (by rw [List.getElem?_eq_getElem hi, e])).2.2.2.1
    exact inB_iff.1 this
  · have := (hat (i + 1) y hy).2.2.2.2 (by omega)
    rw [Nat.add_sub_cancel, atL_of hx] at this
    exact this
  · obtain ⟨i, hi, e⟩ := List.getElem_of_mem hx
    have := hat i x (by rw [List.getElem?_eq_getElem hi, e])
    exact ⟨this.1, this.2.1, this.2.2.1⟩

theorem cmpS_call (a b : ByteArray) (w : World) :
    Calls Tryd.prog 33 #[.string a, .string b] w fun e w' => e = .returned (.int .i64 (cmpS a b)) ∧ Ext w w' :=
  (Tryd.strings_Compare a b w).mono fun _ _ h => ⟨h.1, h.2 ▸ Ext.refl _⟩

set_option maxRecDepth 100000 in
theorem orInt2_any (x y : Int) (g t cap : Nat) (w : World) (hb : Blk w g t #[.int .i64 x, .int .i64 y]) :
    Calls Tryd.prog 32 #[.slice (some ⟨g, 0, none⟩) 2 cap] w fun e w' => e = .returned (.int .i64 (orF [x, y])) ∧ w = w' := by
  have c0 := hb.cell 0
  have c1 := hb.cell 1
  have hl := hb.lt
  clear hb
  have hv : orF [x, y] = if x = 0 then (if y = 0 then 0 else y) else x := rfl
  replace hv := Lib.hid hv
  cases hx : x != 0
  case' false => cases hy : y != 0
  all_goals
    try simp only [bne_iff_ne, ne_eq, bne_eq_false_iff_eq] at hx
    try simp only [bne_iff_ne, ne_eq, bne_eq_false_iff_eq] at hy
    try subst hx
    try subst hy
    go_enter Tryd.func32, Tryd.ntmps32
    go_wp2
    refine wp_loop_rounds 3 ?_
    (rw [rounds_succ]; go_wp2)
    try (rw [rounds_succ]; go_wp2)
    try (rw [rounds_succ]; go_wp2)
    go_ret
    exact ⟨ret_int (by rw [hv.out]; simp [*]), rfl⟩
theorem legOr (y x : LegV) (g t : Nat) (w : World) (hb : Blk w g t #[.int .i64 (cmpS y.fr x.fr), .int .i64 (cmpS y.to x.to)]) :
    Calls Tryd.prog 32 #[.slice (some ⟨g, 0, none⟩) 2 2] w fun e w' => e = .returned (.int .i64 (legC_ y x)) ∧ Ext w w' :=
  (orInt2_any _ _ g t 2 w hb).mono fun _ _ h => ⟨h.1, h.2 ▸ Ext.refl _⟩
end Go.Proofs.YtlmbpgjdepmlcaaDoor
