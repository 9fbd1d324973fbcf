/- One contract for each function of the law, for all arguments; and what both texts have in common. Conditions: as each theorem says. -/
import Derived.Test.YtebhjmknlhmmdaaGreatDoorTuneE
import Derived.Test.YtebhjmknlhmmdaaGreatDoorTuneK
namespace Go.Proofs.YtebhjmknlhmmdaaGreatDoor
open Go Go.RowKit

def ofW (n d : Int) : I4 := if n < 1 ∨ d < 1 then ⟨0, 0, 0, 0⟩ else if Nat.gcd n.toNat d.toNat == 1 then ofR n.toNat d.toNat else ⟨0, 0, 0, 0⟩
def ofF (n d : Int) : Int := if n < 1 ∨ d < 1 then 1 else if Nat.gcd n.toNat d.toNat == 1 then ofE n.toNat d.toNat else 3

theorem of_ways (n d : Int) (hn : n ≤ 9223372036854775807) (hd : d ≤ 9223372036854775807) :
    ((n < 1 ∨ d < 1) ∧ ofW n d = ⟨0, 0, 0, 0⟩ ∧ ofF n d = 1) ∨ ∃ p q : Nat, n = p ∧ d = q ∧ 1 ≤ p ∧ p ≤ 9223372036854775807 ∧ 1 ≤ q ∧ q ≤ 9223372036854775807 ∧
      ((Nat.gcd p q ≠ 1 ∧ ofW n d = ⟨0, 0, 0, 0⟩ ∧ ofF n d = 3) ∨ (Nat.gcd p q = 1 ∧ ofW n d = ofR p q ∧ ofF n d = ofE p q)) := by
  by_cases h : n < 1 ∨ d < 1
  · left
    unfold ofW ofF
    rw [if_pos h, if_pos h]
    exact ⟨h, rfl, rfl⟩
  · right
    refine ⟨n.toNat, d.toNat, by omega, by omega, by omega, by omega, by omega, by omega, ?_⟩
    unfold ofW ofF
    rw [if_neg h, if_neg h]
    by_cases hg : Nat.gcd n.toNat d.toNat = 1
    · right
      rw [hg]
      exact ⟨rfl, rfl, rfl⟩
    · left
      rw [if_neg (by simpa using hg), if_neg (by simpa using hg)]
      exact ⟨hg, rfl, rfl⟩

theorem of_any (n d : Int) (w : World) (hn : n ≤ 9223372036854775807) (hd : d ≤ 9223372036854775807) :
    Calls Tryz.prog 10 #[.agg #[.int .i64 n, .int .i64 d]] w fun e w' =>
      e = .returned (.tuple #[.agg #[.int .i64 (ofW n d).a, .int .i64 (ofW n d).b, .int .i64 (ofW n d).c, .int .i64 (ofW n d).d], .int .i64 (ofF n d)]) ∧ Ext w w' := by
  rcases of_ways n d hn hd with ⟨h, h1, h2⟩ | ⟨p, q, rfl, rfl, hp, hp', hq, hq', ⟨h, h1, h2⟩ | ⟨h, h1, h2⟩⟩
  · rw [h1, h2]; exact of0_any n d w h
  · rw [h1, h2]; exact of1_any p q w hp hp' hq hq' h
  · rw [h1, h2]; exact of2_any p q w hp hp' hq hq' h

set_option maxRecDepth 100000 in
theorem quo0_any (x : I4) (w : World) (hr : rightB x = false) :
    Calls Tryz.prog 9 #[.agg #[.int .i64 x.a, .int .i64 x.b, .int .i64 x.c, .int .i64 x.d]] w fun e w' =>
      e = .returned (.tuple #[.agg #[.int .i64 0, .int .i64 0], .int .i64 1]) ∧ Ext w w' := by
  have hF : faultI x = 1 := by unfold faultI; rw [hr]; rfl
  clear hr
  go_enter Tryz.func9, Tryz.ntmps9
  go_wp2_with (go_at_call 26; refine (checkInterval_any x _).mono ?_; rintro e w1 ⟨rfl, hb1⟩; obtain ⟨hc1, hf1, hz1⟩ := hb1.walk; (try simp only [World.size_alloc, World.size_setCell, World.size_drew] at hz1))
  go_light
  exact bodyPost_ret (v := .tuple #[.agg #[.int .i64 0, .int .i64 0], .int .i64 1]) (by simp [results, Tryz.results9, go_sem, *]) rfl ⟨rfl, (by (repeat (with_reducible first | assumption | exact Ext.refl _ | refine Ext.drew ?_ | refine Ext.alloc ?_ _ | refine Ext.setCell ?_ (by simp <;> omega) _ | refine Ext.trans ?_ (by assumption))))⟩

set_option maxRecDepth 100000 in
theorem quo1_any (x : I4) (w : World) (hr : rightB x = true) :
    Calls Tryz.prog 9 #[.agg #[.int .i64 x.a, .int .i64 x.b, .int .i64 x.c, .int .i64 x.d]] w fun e w' =>
      e = .returned (.tuple #[.agg #[.int .i64 (qn x 4 : Nat), .int .i64 (qd x 4 : Nat)], .int .i64 0]) ∧ Ext w w' := by
  have hF : faultI x = 0 := by unfold faultI; rw [hr]; rfl
  go_enter Tryz.func9, Tryz.ntmps9
  go_wp2_with (first | (go_at_call 26; refine (checkInterval_any x _).mono ?_; rintro e w1 ⟨rfl, hb1⟩; obtain ⟨hc1, hf1, hz1⟩ := hb1.walk; (try simp only [World.size_alloc, World.size_setCell, World.size_drew] at hz1)) | (go_at_call 27; refine (quotient_any x _ hr).mono ?_; rintro e wk ⟨rfl, hbk⟩; replace hb1 := Ext.trans hb1 (Ext.trans (by (repeat (with_reducible first | assumption | exact Ext.refl _ | refine Ext.drew ?_ | refine Ext.alloc ?_ _ | refine Ext.setCell ?_ (by simp <;> omega) _ | refine Ext.trans ?_ (by assumption)))) hbk); clear hbk hc1 hf1 hz1; obtain ⟨hc1, hf1, hz1⟩ := hb1.walk; (try simp only [World.size_alloc, World.size_setCell, World.size_drew] at hz1)))
  go_light
  exact bodyPost_ret (v := .tuple #[.agg #[.int .i64 (qn x 4 : Nat), .int .i64 (qd x 4 : Nat)], .int .i64 0]) (by simp [results, Tryz.results9, go_sem, *]) rfl ⟨rfl, (by (repeat (with_reducible first | assumption | exact Ext.refl _ | refine Ext.drew ?_ | refine Ext.alloc ?_ _ | refine Ext.setCell ?_ (by simp <;> omega) _ | refine Ext.trans ?_ (by assumption))))⟩

theorem wrap64_small (n : Int) (h : -100 ≤ n ∧ n ≤ 100) : wrap64 n = n := IntWalk.wrap64_in n (by omega)
theorem plus_one (x y : I4) (hx : rightB x = true) (hy : rightB y = true) : plusI x y 1 = addI x y := by
  have h1 := right_bounds hx
  have h2 := right_bounds hy
  unfold plusI addI
  rw [Int.one_mul, Int.one_mul, Int.one_mul, Int.one_mul, wrap64_small y.a (by omega), wrap64_small y.b (by omega), wrap64_small y.c (by omega), wrap64_small y.d (by omega)]
theorem plus_minus (x y : I4) (hy : rightB y = true) : plusI x y (-1) = addI x (negI y) := by
  have h2 := right_bounds hy
  unfold plusI addI negI
  simp only [Int.neg_mul, Int.one_mul]

end Go.Proofs.YtebhjmknlhmmdaaGreatDoor
