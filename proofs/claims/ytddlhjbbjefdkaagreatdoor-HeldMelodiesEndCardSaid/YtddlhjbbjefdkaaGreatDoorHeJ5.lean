/- Intervals: sums and differences, by both texts. Conditions: none. The quotient of an interval: plain numbers. Conditions: the interval is right. Sums of right intervals, in the words of both texts. Plain. Conditions: the intervals are right. Maps of bools that the call made. Conditions: none. -/
import Derived.Test.YtddlhjbbjefdkaaGreatDoorHeTuneA
import Derived.Test.YtddlhjbbjefdkaaGreatDoorHeMathA
import Derived.Test.YtddlhjbbjefdkaaGreatDoorHeJ2
import Derived.Maps.OwnOps
set_option linter.unusedSimpArgs false
set_option linter.unusedVariables false
namespace Go.Proofs.YtddlhjbbjefdkaaGreatDoor
open Go Go.RowKit

theorem rows4_two {w : World} {g : Nat} {t : TypeId} {x y : I4} (h : Blk w g t #[.int .i64 x.a, .int .i64 x.b, .int .i64 x.c, .int .i64 x.d, .int .i64 y.a, .int .i64 y.b, .int .i64 y.c, .int .i64 y.d]) : Rows4 w g 0 [x, y] := by
  intro i z hz
  match i, hz with
  | 0, hz => simp at hz; subst hz; simp [h.cell]
  | 1, hz => simp at hz; subst hz; simp [h.cell]

def bothB (x y : I4) : Bool := rightB x && rightB y
theorem faultAll_two (x y : I4) : faultAll [x, y] = if bothB x y then 0 else 1 := by
  unfold faultAll faultAll faultAll bothB
  cases rightB x <;> cases rightB y <;> rfl
def zeroI : I4 := ⟨0, 0, 0, 0⟩
set_option maxRecDepth 100000 in
theorem sum1_any (x y : I4) (w : World) (h : bothB x y = true) :
    Calls Tryz.prog 14 #[.agg #[.int .i64 x.a, .int .i64 x.b, .int .i64 x.c, .int .i64 x.d], .agg #[.int .i64 y.a, .int .i64 y.b, .int .i64 y.c, .int .i64 y.d]] w fun e w' =>
      e = .returned (.tuple #[.agg #[.int .i64 (okI (addI x y)).a, .int .i64 (okI (addI x y)).b, .int .i64 (okI (addI x y)).c, .int .i64 (okI (addI x y)).d], .int .i64 (faultI (addI x y))]) ∧ Ext w w' := by
  have hF : faultAll [x, y] = 0 := by rw [faultAll_two, h]; rfl
  clear h
  go_enter Tryz.func14, Tryz.ntmps14
  go_wp2_with (first | (go_at_call 49; refine (checkAll_any _ 0 2 [x, y] _ (by simp) (rows4_two (Blk.new' (by simp))) (by simp)).mono ?_; rintro e w1 ⟨rfl, hb1⟩; obtain ⟨hc1, hf1, hz1⟩ := hb1.walk; (try simp only [World.size_alloc, World.size_setCell, World.size_drew] at hz1)) | (go_at_call 48; refine (sum_any x y _).mono ?_; rintro e wk ⟨rfl, hbk⟩; replace hb1 := Ext.trans hb1 (Ext.trans (by (repeat (with_reducible first | assumption | exact Ext.refl _ | refine Ext.drew ?_ | refine Ext.alloc ?_ _ | refine Ext.setCell ?_ (by simp <;> omega) _ | refine Ext.trans ?_ (by assumption)))) hbk); clear hbk hc1 hf1 hz1; obtain ⟨hc1, hf1, hz1⟩ := hb1.walk; (try simp only [World.size_alloc, World.size_setCell, World.size_drew] at hz1)) | (go_at_call 50; refine (checked_any (addI x y) _).mono ?_; rintro e wk ⟨rfl, hbk⟩; replace hb1 := Ext.trans hb1 (Ext.trans (by (repeat (with_reducible first | assumption | exact Ext.refl _ | refine Ext.drew ?_ | refine Ext.alloc ?_ _ | refine Ext.setCell ?_ (by simp <;> omega) _ | refine Ext.trans ?_ (by assumption)))) hbk); clear hbk hc1 hf1 hz1; obtain ⟨hc1, hf1, hz1⟩ := hb1.walk; (try simp only [World.size_alloc, World.size_setCell, World.size_drew] at hz1)))
  go_light
  exact bodyPost_ret (v := .tuple #[.agg #[.int .i64 (okI (addI x y)).a, .int .i64 (okI (addI x y)).b, .int .i64 (okI (addI x y)).c, .int .i64 (okI (addI x y)).d], .int .i64 (faultI (addI x y))]) (by simp [results, Tryz.results14, go_sem, *]) rfl ⟨rfl, (by (repeat (with_reducible first | assumption | exact Ext.refl _ | refine Ext.drew ?_ | refine Ext.alloc ?_ _ | refine Ext.setCell ?_ (by simp <;> omega) _ | refine Ext.trans ?_ (by assumption))))⟩

end Go.Proofs.YtddlhjbbjefdkaaGreatDoor

namespace Go.Proofs.YtddlhjbbjefdkaaGreatDoor

def I4.at_ (x : I4) : Nat → Int
  | 0 => x.a
  | 1 => x.b
  | 2 => x.c
  | _ => x.d
def I4.neg_ (x : I4) : I4 := ⟨-x.a, -x.b, -x.c, -x.d⟩
def qn (x : I4) : Nat → Nat
  | 0 => 1
  | k + 1 => qn x k * pr k ^ (x.at_ k).toNat
def qd (x : I4) (k : Nat) : Nat := qn x.neg_ k
theorem right_bounds {x : I4} (h : rightB x = true) : (-24 ≤ x.a ∧ x.a ≤ 24) ∧ (-10 ≤ x.b ∧ x.b ≤ 10) ∧ (-5 ≤ x.c ∧ x.c ≤ 5) ∧ (-3 ≤ x.d ∧ x.d ≤ 3) := by
  unfold rightB at h
  simp only [Bool.and_eq_true, inB_iff] at h
  exact ⟨h.1.1.1, h.1.1.2, h.1.2, h.2⟩
theorem right_of_bounds {x : I4} (h : (-24 ≤ x.a ∧ x.a ≤ 24) ∧ (-10 ≤ x.b ∧ x.b ≤ 10) ∧ (-5 ≤ x.c ∧ x.c ≤ 5) ∧ (-3 ≤ x.d ∧ x.d ≤ 3)) : rightB x = true := by
  unfold rightB
  simp only [Bool.and_eq_true, inB_iff]
  exact ⟨⟨⟨h.1, h.2.1⟩, h.2.2.1⟩, h.2.2.2⟩
theorem right_neg {x : I4} (h : rightB x = true) : rightB x.neg_ = true := by
  have := right_bounds h
  apply right_of_bounds
  simp only [I4.neg_]
  omega
theorem pow_le_of {p e m : Nat} (hp : 1 ≤ p) (h : e ≤ m) : p ^ e ≤ p ^ m := Nat.pow_le_pow_right hp h
theorem qn_pos (x : I4) : ∀ k, 1 ≤ qn x k
  | 0 => Nat.le_refl _
  | k + 1 => Nat.mul_pos (qn_pos x k) (Nat.pow_pos (by have := pr_ge k; omega))
/-- A power within a factor keeps the product small. -/
theorem qn_le {x : I4} (h : rightB x = true) : qn x 1 ≤ 16777216 ∧ qn x 2 ≤ 990677827584 ∧ qn x 3 ≤ 3095868211200000 ∧ qn x 4 ≤ 1061882796441600000 := by
  obtain ⟨ha, hb, hc, hd⟩ := right_bounds h
  have h1 : qn x 1 ≤ 16777216 := by
    have := pow_le_of (p := 2) (e := x.a.toNat) (m := 24) (by omega) (by omega)
    show 1 * 2 ^ x.a.toNat ≤ _
    omega
  have h2 : qn x 2 ≤ 990677827584 := by
    have := pow_le_of (p := 3) (e := x.b.toNat) (m := 10) (by omega) (by omega)
    calc qn x 2 = qn x 1 * 3 ^ x.b.toNat := rfl
      _ ≤ 16777216 * 3 ^ 10 := Nat.mul_le_mul h1 this
      _ = 990677827584 := by decide
  have h3 : qn x 3 ≤ 3095868211200000 := by
    have := pow_le_of (p := 5) (e := x.c.toNat) (m := 5) (by omega) (by omega)
    calc qn x 3 = qn x 2 * 5 ^ x.c.toNat := rfl
      _ ≤ 990677827584 * 5 ^ 5 := Nat.mul_le_mul h2 this
      _ = 3095868211200000 := by decide
  have h4 : qn x 4 ≤ 1061882796441600000 := by
    have := pow_le_of (p := 7) (e := x.d.toNat) (m := 3) (by omega) (by omega)
    calc qn x 4 = qn x 3 * 7 ^ x.d.toNat := rfl
      _ ≤ 3095868211200000 * 7 ^ 3 := Nat.mul_le_mul h3 this
      _ = 1061882796441600000 := by decide
  exact ⟨h1, h2, h3, h4⟩
theorem qn_bound {x : I4} (h : rightB x = true) (k : Nat) (hk : k < 4) : qn x k * pr k ^ (x.at_ k).toNat ≤ 1061882796441600000 := by
  obtain ⟨h1, h2, h3, h4⟩ := qn_le h
  match k, hk with
  | 0, _ => exact Nat.le_trans h1 (by omega)
  | 1, _ => exact Nat.le_trans h2 (by omega)
  | 2, _ => exact Nat.le_trans h3 (by omega)
  | 3, _ => exact h4
theorem qn_part {x : I4} (h : rightB x = true) (k j : Nat) (hk : k < 4) (hj : j ≤ (x.at_ k).toNat) : qn x k * pr k ^ j ≤ 1061882796441600000 :=
  Nat.le_trans (Nat.mul_le_mul_left _ (pow_le_of (by have := pr_ge k; omega) hj)) (qn_bound h k hk)

end Go.Proofs.YtddlhjbbjefdkaaGreatDoor

namespace Go.Proofs.YtddlhjbbjefdkaaGreatDoor
open Go Go.RowKit

theorem wrap64_small (n : Int) (h : -100 ≤ n ∧ n ≤ 100) : wrap64 n = n := IntWalk.wrap64_in n (by omega)
end Go.Proofs.YtddlhjbbjefdkaaGreatDoor

namespace Go.Proofs.YtddlhjbbjefdkaaGreatDoor
open Go Go.RowKit Go.Maps

theorem plainElem_bool_inv {H : Type} {P : Program} {e : TypeId} (he : P.underlying e = some .bool) {v : Value} {z : DataW H × List MemPlace} (h : plainElem P e v = some z) : ∃ x, v = .bool x ∧ z = (.lit (.bool x), []) := by
  unfold plainElem at h
  rw [he] at h
  cases v <;> simp at h
  exact ⟨_, rfl, h.symm⟩

theorem lookup_bool {H : Type} {P : Program} {w : World} {k e t : TypeId} {b n : Nat} {D : DataW H} (h : w.ownsMap P k (plainElem P e) b n D) (K : Keyed P k) (ht : P.underlying t = some (.map k e)) (he : P.underlying e = some .bool) (hz : (zeroValue e).run P w = .ok (.bool false) w)
    {key : Value} {kl : Lit} (hkey : keyOf P k key = some kl) : ∃ c, (Instr.lookup t (.map (some b)) key false).run P w = .ok (.bool c) w ∧ D.atKey kl (.lit (.bool false)) = .lit (.bool c) := by
  obtain ⟨v, ps, hrun, hv⟩ := h.lookup K ht hz (plainElem_bool he false) hkey
  obtain ⟨c, rfl, hc⟩ := plainElem_bool_inv he hv
  simp only [Prod.mk.injEq] at hc
  exact ⟨c, hrun, hc.1⟩

theorem wpList_lookup_own_bool {H : Type} {P : Program} (w : World) {ops : Array Oper} {rest : List Oper} {o : Oper} {a : Act} {Q : Exit → Act → World → Prop}
    (hg : o.guard = none) (m x : Operand) (t : TypeId) (hop : o.op = Op.lookup t m x false)
    (k e : TypeId) (K : Keyed P k) (ht : P.underlying t = some (.map k e)) (he : P.underlying e = some .bool) (hz : (zeroValue e).run P w = .ok (.bool false) w) (b n : Nat) (D : DataW H)
    (hm : a.eval m = .map (some b)) (hown : w.ownsMap P k (plainElem P e) b n D) (key : Value) (kl : Lit) (hx : a.eval x = key) (hkey : keyOf P k key = some kl)
    (hK : ∀ c : Bool, D.atKey kl (.lit (.bool false)) = .lit (.bool c) → wpList P ops Q rest (a.put o.dst (.bool c)) w) :
    wpList P ops Q (o :: rest) a w := by
  refine wpList_plain hg fun K' hK' => ?_
  obtain ⟨c, hrun, hat⟩ := lookup_bool hown K ht he hz hkey
  unfold Oper.wp
  simp [execOp, hop, hm, hx, hrun, Result.andThen]
  exact hK' _ _ (hK c hat)
theorem Ext.grown {a b c : World} (h : Ext a b) {row : Option Nat} (hg : b.grownBy c row) (hr : ∀ k, row = some k → a.heap.size ≤ k) : Ext a c := Below.grown h hg h.size hr
end Go.Proofs.YtddlhjbbjefdkaaGreatDoor
