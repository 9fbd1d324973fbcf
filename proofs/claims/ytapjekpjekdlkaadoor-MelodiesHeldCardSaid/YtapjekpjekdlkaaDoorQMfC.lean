/- The choices of a step, handed out; an interval on top of a right one. Conditions: as each theorem says. -/
import Derived.Test.YtapjekpjekdlkaaDoorQMeU
set_option linter.unusedSimpArgs false
set_option linter.unusedVariables false
namespace Go.Proofs.YtapjekpjekdlkaaDoor
open Go Go.RowKit

theorem plus1_is {x y : I4} (hx : rightB x = true) (hy : rightB y = true) : plusI x y 1 = addI x y := by
  obtain ⟨b1, b2, b3, b4⟩ := right_bounds hy
  unfold plusI addI
  rw [Int.one_mul, Int.one_mul, Int.one_mul, Int.one_mul, wrap64_small y.a (by omega), wrap64_small y.b (by omega), wrap64_small y.c (by omega), wrap64_small y.d (by omega)]
def ChoQ (w0 w : World) (X : List StepV) (z : Int) (e : Ending) (w' : World) : Prop :=
  Ext w w' ∧ ((findX X z = none ∧ e = .returned (.slice none 0 0)) ∨ ∃ x q d, findX X z = some x ∧ Slc 4 i4C w0 q x.cs.length d x.cs ∧ e = .returned (.slice q x.cs.length d))
set_option maxRecDepth 100000 in
set_option maxHeartbeats 3200000 in
theorem choicesOf_from {p : Option Addr} {n c : Nat} {X : List StepV} {w0 w : World} (h : StpM w0 p n c X) (hE0 : Ext w0 w) (z : Int) :
    Calls Tryd.prog 26 #[.slice p n c, .int .i64 z] w (ChoQ w0 w X z) := by
  have hl := h.len
  obtain ⟨hnc, hn⟩ := h.le
  subst hl
  go_enter Tryd.func26, Tryd.ntmps26
  go_wp2
  go_loopw [9] (fun i wr => ∃ k : Nat, k ≤ X.length ∧ i = .int .i64 k ∧ findX (X.take k) z = none ∧ Ext w wr) (fun i _ => X.length - (intOf i).toNat)
  case atStart => exact ⟨0, Nat.zero_le _, rfl, rfl, Ext.refl _⟩
  case round =>
    obtain ⟨k, hk, rfl, hf, hE⟩ := hrel
    by_cases hlt : k < X.length
    · obtain ⟨x, hx⟩ := getD_some (rfl : X.length = X.length) hlt
      obtain ⟨b, off, q, d, rfl, hb, c1, c2, hS⟩ := h.at_ hx
      have hkI : (k : Int) < X.length := by omega
      have d1 := ((hE0.trans hE).walk.1 _ _ hb).trans c1
      have d2 := ((hE0.trans hE).walk.1 _ _ hb).trans c2
      have hbl := Nat.lt_of_lt_of_le hb (hE0.trans hE).size
      replace hf := Lib.hid hf
      replace hx := Lib.hid hx
      replace hS := Lib.hid hS
      clear c1 c2
      by_cases hq : x.size = z
      · go_wp2
        go_ret
        exact ⟨hE.trans ((Ext.refl _).alloc _), .inr ⟨x, q, d, fndX_at hf.out hx.out hq, hS.out, rfl⟩⟩
      · go_wp2
        go_roundw
        case rel => exact ⟨k + 1, by omega, by go_num, fndX_on hf.out hx.out hq, hE.trans ((Ext.refl _).alloc _)⟩
        case measure => simp [intOf]; omega
    · obtain rfl : k = X.length := by omega
      rw [List.take_length] at hf
      replace hf := Lib.hid hf
      go_wp2
      go_ret
      exact ⟨hE, .inl ⟨hf.out, rfl⟩⟩
end Go.Proofs.YtapjekpjekdlkaaDoor
