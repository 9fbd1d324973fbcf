/- A scale that is turned twelve times: plain numbers. Conditions: the scale is right. -/
import Derived.Test.YtkfdolnnkbhlhaaDoorScaleH
namespace Go.Proofs.YtkfdolnnkbhlhaaDoor
open Go Go.RowKit

/-- The pitch m of a scale, without a bound. -/
def hiI (xs : List I4) (m : Nat) : I4 := (xs.getD (m % 12) zeroI).up ((m / 12 : Nat) : Int)
/-- The scale turned n times. -/
def TN (xs : List I4) (n : Nat) : List I4 := (List.range 12).map fun k => (hiI xs (n + k)).sub_ (hiI xs n)
/-- The scale turned once, as the text reckons it. -/
def turnE (xs : List I4) (k : Nat) : I4 := betI (xs.getD 1 zeroI) (xs.getD ((1 + k) % 12) zeroI) 1 (1 + k)
def turn (xs : List I4) : List I4 := (List.range 12).map (turnE xs)
theorem turn_len (xs : List I4) : (turn xs).length = 12 := by simp [turn]
theorem TN_len (xs : List I4) (n : Nat) : (TN xs n).length = 12 := by simp [TN]
theorem TN_at (xs : List I4) (n : Nat) {k : Nat} (hk : k < 12) : (TN xs n)[k]? = some ((hiI xs (n + k)).sub_ (hiI xs n)) := by
  simp [TN, hk]
theorem turn_at (xs : List I4) {k : Nat} (hk : k < 12) : (turn xs)[k]? = some (turnE xs k) := by simp [turn, hk]
theorem TN_getD (xs : List I4) (n : Nat) {k : Nat} (hk : k < 12) : (TN xs n).getD k zeroI = (hiI xs (n + k)).sub_ (hiI xs n) := by
  rw [List.getD_eq_getElem?_getD, TN_at xs n hk]; rfl
theorem hiI_up (xs : List I4) (n : Nat) : hiI xs (n + 12) = (hiI xs n).up 1 := by
  unfold hiI I4.up
  rw [Nat.add_mod_right, show (n + 12) / 12 = n / 12 + 1 by omega]
  refine I4.eq ?_ rfl rfl rfl
  simp only
  omega
theorem hiI_low (xs : List I4) {k : Nat} {x : I4} (hl : xs.length = 12) (hx : xs[k]? = some x) : hiI xs k = x := by
  have hk : k < 12 := by rw [← hl]; exact (List.getElem?_eq_some_iff.1 hx).1
  unfold hiI I4.up
  rw [Nat.mod_eq_of_lt hk, show k / 12 = 0 by omega, List.getD_eq_getElem?_getD, hx]
  refine I4.eq ?_ rfl rfl rfl
  simp
theorem scale_ext {xs ys : List I4} (hx : xs.length = 12) (hy : ys.length = 12) (h : ∀ k, k < 12 → xs[k]? = ys[k]?) : xs = ys := by
  apply List.ext_getElem?
  intro k
  by_cases hk : k < 12
  · exact h k hk
  · rw [List.getElem?_eq_none (by omega), List.getElem?_eq_none (by omega)]
theorem hi_zero {xs : List I4} (h : ScaleOk xs) : hiI xs 0 = zeroI := hiI_low xs h.len h.zero
theorem TN_start {xs : List I4} (h : ScaleOk xs) : TN xs 0 = xs := scale_ext (TN_len _ _) h.len fun k hk => by
  obtain ⟨x, hx⟩ := getD_some h.len hk
  rw [TN_at xs 0 hk, hx, Nat.zero_add, hi_zero h, hiI_low xs h.len hx]
  exact congrArg some (I4.eq (Int.sub_zero _) (Int.sub_zero _) (Int.sub_zero _) (Int.sub_zero _))
theorem TN_end {xs : List I4} (h : ScaleOk xs) : TN xs 12 = xs := scale_ext (TN_len _ _) h.len fun k hk => by
  obtain ⟨x, hx⟩ := getD_some h.len hk
  have e : hiI xs 12 = (hiI xs 0).up 1 := hiI_up xs 0
  rw [TN_at xs 12 hk, hx, e, hi_zero h, Nat.add_comm 12 k, hiI_up, hiI_low xs h.len hx]
  refine congrArg some (I4.eq ?_ ?_ ?_ ?_) <;> simp only [I4.sub_, I4.up, zeroI] <;> omega
theorem add_neg {p q : I4} (hp : rightB p = true) (hq : rightB q = true) (n : Int) (hn : 0 ≤ n ∧ n ≤ 1) : addI (p.up n) (negI (q.up 0)) = (p.up n).sub_ q := by
  obtain ⟨⟨a0, a1⟩, ⟨b0, b1⟩, ⟨c0, c1⟩, ⟨d0, d1⟩⟩ := right_bounds hp
  obtain ⟨⟨e0, e1⟩, ⟨f0, f1⟩, ⟨g0, g1⟩, ⟨h0, h1⟩⟩ := right_bounds hq
  have hw : ∀ z : Int, -100 ≤ z → z ≤ 100 → wrap64 z = z := fun z h0 h1 => IntWalk.wrap64_in z (by omega)
  unfold addI negI I4.up I4.sub_
  simp only
  refine I4.eq ?_ ?_ ?_ ?_ <;> simp only
  · rw [hw (-(q.a + 0)) (by omega) (by omega), hw _ (by omega) (by omega)]; omega
  · rw [hw (-q.b) (by omega) (by omega), hw _ (by omega) (by omega)]; omega
  · rw [hw (-q.c) (by omega) (by omega), hw _ (by omega) (by omega)]; omega
  · rw [hw (-q.d) (by omega) (by omega), hw _ (by omega) (by omega)]; omega
theorem getD_right {xs : List I4} (h : ScaleOk xs) (k : Nat) : rightB (xs.getD k zeroI) = true := by
  rw [List.getD_eq_getElem?_getD]
  cases e : xs[k]? with
  | none => rfl
  | some x => exact h.right x (List.mem_of_getElem? e)
theorem turn_next {xs : List I4} {n : Nat} (h : ScaleOk (TN xs n)) : turn (TN xs n) = TN xs (n + 1) := scale_ext (turn_len _) (TN_len _ _) fun k hk => by
  rw [turn_at _ hk, TN_at xs (n + 1) hk]
  refine congrArg some ?_
  unfold turnE betI
  rw [show ((1 / 12 : Nat) : Int) = 0 from rfl, add_neg (getD_right h _) (getD_right h _) _ (by omega), TN_getD xs n (by omega), TN_getD xs n (show 1 < 12 by omega)]
  by_cases hk2 : k < 11
  · rw [Nat.mod_eq_of_lt (show 1 + k < 12 by omega), show ((((1 + k) / 12 : Nat)) : Int) = 0 by omega, show n + 1 + k = n + (1 + k) by omega]
    refine I4.eq ?_ ?_ ?_ ?_ <;> simp only [I4.sub_, I4.up] <;> omega
  · obtain rfl : k = 11 := by omega
    rw [show n + 1 + 11 = n + 12 by omega, hiI_up xs n]
    refine I4.eq ?_ ?_ ?_ ?_ <;> simp only [I4.sub_, I4.up, Nat.reduceAdd, Nat.reduceMod, Nat.reduceDiv, Nat.add_zero] <;> omega
theorem hi_rise {xs : List I4} (h : ScaleOk xs) (m : Nat) : cmpI (hiI xs m) (hiI xs (m + 1)) = -1 := by
  obtain ⟨x, hx⟩ := getD_some h.len (Nat.mod_lt m (show 0 < 12 by omega))
  by_cases hm : m % 12 < 11
  · obtain ⟨y, hy⟩ := getD_some h.len (show m % 12 + 1 < 12 by omega)
    rw [← h.rise _ x y hx hy]
    refine cmpI_congr ?_
    have e1 : hiI xs m = x.up ((m / 12 : Nat) : Int) := by unfold hiI; rw [List.getD_eq_getElem?_getD, hx]; rfl
    have e2 : hiI xs (m + 1) = y.up ((m / 12 : Nat) : Int) := by unfold hiI; rw [show (m + 1) % 12 = m % 12 + 1 by omega, show (m + 1) / 12 = m / 12 by omega, List.getD_eq_getElem?_getD, hy]; rfl
    rw [e1, e2]
    refine I4.eq ?_ ?_ ?_ ?_ <;> simp only [I4.sub_, I4.up] <;> omega
  · have hm' : m % 12 = 11 := by omega
    rw [hm'] at hx
    rw [← h.last x hx]
    refine cmpI_congr ?_
    have e1 : hiI xs m = x.up ((m / 12 : Nat) : Int) := by unfold hiI; rw [hm', List.getD_eq_getElem?_getD, hx]; rfl
    have e2 : hiI xs (m + 1) = zeroI.up ((m / 12 : Nat) + 1 : Int) := by unfold hiI; rw [show (m + 1) % 12 = 0 by omega, show (m + 1) / 12 = m / 12 + 1 by omega, List.getD_eq_getElem?_getD, h.zero]; rfl
    rw [e1, e2]
    refine I4.eq ?_ ?_ ?_ ?_ <;> simp only [I4.sub_, I4.up, zeroI] <;> omega
theorem TN_ok {xs : List I4} (h : ScaleOk xs) (n : Nat) (hr : faultAll (TN xs n) = 0) : ScaleOk (TN xs n) := by
  refine ⟨TN_len xs n, right_faultAll hr, ?_, fun j x y hx hy => ?_, fun x hx => ?_⟩
  · rw [TN_at xs n (by omega), Nat.add_zero]
    exact congrArg some (I4.eq (Int.sub_self _) (Int.sub_self _) (Int.sub_self _) (Int.sub_self _))
  · have hj : j + 1 < 12 := by have := (List.getElem?_eq_some_iff.1 hy).1; rwa [TN_len] at this
    rw [TN_at xs n (by omega)] at hx
    rw [TN_at xs n hj] at hy
    cases hx; cases hy
    rw [← hi_rise h (n + j)]
    refine cmpI_congr ?_
    rw [show n + (j + 1) = n + j + 1 by omega]
    refine I4.eq ?_ ?_ ?_ ?_ <;> simp only [I4.sub_] <;> omega
  · rw [TN_at xs n (by omega)] at hx
    cases hx
    rw [← hi_rise h (n + 11)]
    refine cmpI_congr ?_
    rw [show n + 11 + 1 = n + 12 by omega, hiI_up xs n]
    refine I4.eq ?_ ?_ ?_ ?_ <;> simp only [I4.sub_, I4.up] <;> omega
end Go.Proofs.YtkfdolnnkbhlhaaDoor
