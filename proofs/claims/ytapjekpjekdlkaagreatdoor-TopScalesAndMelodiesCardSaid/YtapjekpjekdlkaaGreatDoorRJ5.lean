/- Intervals: sums and differences, by both texts. Conditions: none. The quotient of an interval: plain numbers. Conditions: the interval is right. Sums of right intervals, in the words of both texts. Plain. Conditions: the intervals are right. The cells of an interval. Maps of bools that the call made. Conditions: none. Slices in memory; the first error of a scan. Conditions: none. -/
import Derived.Test.YtapjekpjekdlkaaGreatDoorRTuneA
import Derived.Test.YtapjekpjekdlkaaGreatDoorRMathA
import Derived.Test.YtapjekpjekdlkaaGreatDoorRJ2
import Derived.Maps.OwnOps
set_option linter.unusedSimpArgs false
set_option linter.unusedVariables false
namespace Go.Proofs.YtapjekpjekdlkaaGreatDoor
open Go Go.RowKit

set_option maxRecDepth 100000 in
theorem inverse_any (x : I4) (w : World) :
    Calls Tryz.prog 42 #[.agg #[.int .i64 x.a, .int .i64 x.b, .int .i64 x.c, .int .i64 x.d]] w fun e w' =>
      e = .returned (.agg #[.int .i64 (negI x).a, .int .i64 (negI x).b, .int .i64 (negI x).c, .int .i64 (negI x).d]) ∧ Ext w w' := by
  go_enter Tryz.func42, Tryz.ntmps42
  go_wp2
  go_light
  exact bodyPost_ret (v := .agg #[.int .i64 (negI x).a, .int .i64 (negI x).b, .int .i64 (negI x).c, .int .i64 (negI x).d]) (by simp [results, Tryz.results42, go_sem, negI]) rfl ⟨rfl, (by (repeat (with_reducible first | assumption | exact Ext.refl _ | refine Ext.drew ?_ | refine Ext.alloc ?_ _ | refine Ext.setCell ?_ (by simp <;> omega) _ | refine Ext.trans ?_ (by assumption))))⟩

def zeroI : I4 := ⟨0, 0, 0, 0⟩
end Go.Proofs.YtapjekpjekdlkaaGreatDoor

namespace Go.Proofs.YtapjekpjekdlkaaGreatDoor

def I4.at_ (x : I4) : Nat → Int
  | 0 => x.a
  | 1 => x.b
  | 2 => x.c
  | _ => x.d
def I4.neg_ (x : I4) : I4 := ⟨-x.a, -x.b, -x.c, -x.d⟩
def qn (x : I4) : Nat → Nat
  | 0 => 1
  | k + 1 => qn x k * pr k ^ (x.at_ k).toNat
def qd (x : I4) (k : Nat) : Nat := qn x.neg_ k
theorem right_bounds {x : I4} (h : rightB x = true) : (-24 ≤ x.a ∧ x.a ≤ 24) ∧ (-10 ≤ x.b ∧ x.b ≤ 10) ∧ (-5 ≤ x.c ∧ x.c ≤ 5) ∧ (-3 ≤ x.d ∧ x.d ≤ 3) := by
  unfold rightB at h
  simp only [Bool.and_eq_true, inB_iff] at h
  exact ⟨h.1.1.1, h.1.1.2, h.1.2, h.2⟩
theorem right_of_bounds {x : I4} (h : (-24 ≤ x.a ∧ x.a ≤ 24) ∧ (-10 ≤ x.b ∧ x.b ≤ 10) ∧ (-5 ≤ x.c ∧ x.c ≤ 5) ∧ (-3 ≤ x.d ∧ x.d ≤ 3)) : rightB x = true := by
  unfold rightB
  simp only [Bool.and_eq_true, inB_iff]
  exact ⟨⟨⟨h.1, h.2.1⟩, h.2.2.1⟩, h.2.2.2⟩
theorem right_neg {x : I4} (h : rightB x = true) : rightB x.neg_ = true := by
  have := right_bounds h
  apply right_of_bounds
  simp only [I4.neg_]
  omega
theorem pow_le_of {p e m : Nat} (hp : 1 ≤ p) (h : e ≤ m) : p ^ e ≤ p ^ m := Nat.pow_le_pow_right hp h
/-- A power within a factor keeps the product small. -/
theorem qn_le {x : I4} (h : rightB x = true) : qn x 1 ≤ 16777216 ∧ qn x 2 ≤ 990677827584 ∧ qn x 3 ≤ 3095868211200000 ∧ qn x 4 ≤ 1061882796441600000 := by
  obtain ⟨ha, hb, hc, hd⟩ := right_bounds h
  have h1 : qn x 1 ≤ 16777216 := by
    have := pow_le_of (p := 2) (e := x.a.toNat) (m := 24) (by omega) (by omega)
    show 1 * 2 ^ x.a.toNat ≤ _
    omega
  have h2 : qn x 2 ≤ 990677827584 := by
    have := pow_le_of (p := 3) (e := x.b.toNat) (m := 10) (by omega) (by omega)
    calc qn x 2 = qn x 1 * 3 ^ x.b.toNat := rfl
      _ ≤ 16777216 * 3 ^ 10 := Nat.mul_le_mul h1 this
      _ = 990677827584 := by decide
  have h3 : qn x 3 ≤ 3095868211200000 := by
    have := pow_le_of (p := 5) (e := x.c.toNat) (m := 5) (by omega) (by omega)
    calc qn x 3 = qn x 2 * 5 ^ x.c.toNat := rfl
      _ ≤ 990677827584 * 5 ^ 5 := Nat.mul_le_mul h2 this
      _ = 3095868211200000 := by decide
  have h4 : qn x 4 ≤ 1061882796441600000 := by
    have := pow_le_of (p := 7) (e := x.d.toNat) (m := 3) (by omega) (by omega)
    calc qn x 4 = qn x 3 * 7 ^ x.d.toNat := rfl
      _ ≤ 3095868211200000 * 7 ^ 3 := Nat.mul_le_mul h3 this
      _ = 1061882796441600000 := by decide
  exact ⟨h1, h2, h3, h4⟩
theorem qn_bound {x : I4} (h : rightB x = true) (k : Nat) (hk : k < 4) : qn x k * pr k ^ (x.at_ k).toNat ≤ 1061882796441600000 := by
  obtain ⟨h1, h2, h3, h4⟩ := qn_le h
  match k, hk with
  | 0, _ => exact Nat.le_trans h1 (by omega)
  | 1, _ => exact Nat.le_trans h2 (by omega)
  | 2, _ => exact Nat.le_trans h3 (by omega)
  | 3, _ => exact h4
theorem qn_part {x : I4} (h : rightB x = true) (k j : Nat) (hk : k < 4) (hj : j ≤ (x.at_ k).toNat) : qn x k * pr k ^ j ≤ 1061882796441600000 :=
  Nat.le_trans (Nat.mul_le_mul_left _ (pow_le_of (by have := pr_ge k; omega) hj)) (qn_bound h k hk)

end Go.Proofs.YtapjekpjekdlkaaGreatDoor

namespace Go.Proofs.YtapjekpjekdlkaaGreatDoor
open Go Go.RowKit

theorem wrap64_small (n : Int) (h : -100 ≤ n ∧ n ≤ 100) : wrap64 n = n := IntWalk.wrap64_in n (by omega)
end Go.Proofs.YtapjekpjekdlkaaGreatDoor

namespace Go.Proofs.YtapjekpjekdlkaaGreatDoor
open Go Go.RowKit

def i4C (x : I4) : List Value := [.int .i64 x.a, .int .i64 x.b, .int .i64 x.c, .int .i64 x.d]
theorem i4C_len (x : I4) : (i4C x).length = 4 := rfl
theorem i4C_one (x : I4) : ∀ u ∈ i4C x, u.oneCell' = true := by simp [i4C, Value.oneCell']
end Go.Proofs.YtapjekpjekdlkaaGreatDoor

namespace Go.Proofs.YtapjekpjekdlkaaGreatDoor
open Go Go.RowKit Go.Maps

theorem plainElem_bool_inv {H : Type} {P : Program} {e : TypeId} (he : P.underlying e = some .bool) {v : Value} {z : DataW H × List MemPlace} (h : plainElem P e v = some z) : ∃ x, v = .bool x ∧ z = (.lit (.bool x), []) := by
  unfold plainElem at h
  rw [he] at h
  cases v <;> simp at h
  exact ⟨_, rfl, h.symm⟩

theorem lookup_bool {H : Type} {P : Program} {w : World} {k e t : TypeId} {b n : Nat} {D : DataW H} (h : w.ownsMap P k (plainElem P e) b n D) (K : Keyed P k) (ht : P.underlying t = some (.map k e)) (he : P.underlying e = some .bool) (hz : (zeroValue e).run P w = .ok (.bool false) w)
    {key : Value} {kl : Lit} (hkey : keyOf P k key = some kl) : ∃ c, (Instr.lookup t (.map (some b)) key false).run P w = .ok (.bool c) w ∧ D.atKey kl (.lit (.bool false)) = .lit (.bool c) := by
  obtain ⟨v, ps, hrun, hv⟩ := h.lookup K ht hz (plainElem_bool he false) hkey
  obtain ⟨c, rfl, hc⟩ := plainElem_bool_inv he hv
  simp only [Prod.mk.injEq] at hc
  exact ⟨c, hrun, hc.1⟩

theorem wpList_lookup_own_bool {H : Type} {P : Program} (w : World) {ops : Array Oper} {rest : List Oper} {o : Oper} {a : Act} {Q : Exit → Act → World → Prop}
    (hg : o.guard = none) (m x : Operand) (t : TypeId) (hop : o.op = Op.lookup t m x false)
    (k e : TypeId) (K : Keyed P k) (ht : P.underlying t = some (.map k e)) (he : P.underlying e = some .bool) (hz : (zeroValue e).run P w = .ok (.bool false) w) (b n : Nat) (D : DataW H)
    (hm : a.eval m = .map (some b)) (hown : w.ownsMap P k (plainElem P e) b n D) (key : Value) (kl : Lit) (hx : a.eval x = key) (hkey : keyOf P k key = some kl)
    (hK : ∀ c : Bool, D.atKey kl (.lit (.bool false)) = .lit (.bool c) → wpList P ops Q rest (a.put o.dst (.bool c)) w) :
    wpList P ops Q (o :: rest) a w := by
  refine wpList_plain hg fun K' hK' => ?_
  obtain ⟨c, hrun, hat⟩ := lookup_bool hown K ht he hz hkey
  unfold Oper.wp
  simp [execOp, hop, hm, hx, hrun, Result.andThen]
  exact hK' _ _ (hK c hat)
theorem Ext.grown {a b c : World} (h : Ext a b) {row : Option Nat} (hg : b.grownBy c row) (hr : ∀ k, row = some k → a.heap.size ≤ k) : Ext a c := Below.grown h hg h.size hr
end Go.Proofs.YtapjekpjekdlkaaGreatDoor

namespace Go.Proofs.YtapjekpjekdlkaaGreatDoor
open Go Go.RowKit

/-- Elements of k cells each, from a place on. -/
def Elems {α : Type} (k : Nat) (enc : α → List Value) (w : World) (b off : Nat) (xs : List α) : Prop :=
  ∀ i x, xs[i]? = some x → ∀ j v, (enc x)[j]? = some v → w.cell? ⟨b, off + i * k + j, none⟩ = some v
theorem Elems.ext {α : Type} {k : Nat} {enc : α → List Value} {w w' : World} {b off : Nat} {xs : List α} (h : Elems k enc w b off xs) (he : Ext w w') (hb : b < w.heap.size) : Elems k enc w' b off xs := fun i x hx j v hv => by
  obtain ⟨hc, _, _⟩ := he.walk
  exact (hc _ _ hb).trans (h i x hx j v hv)
/-- A slice of n elements. -/
def Sl {α : Type} (k : Nat) (enc : α → List Value) (w : World) (p : Option Addr) (n : Nat) (xs : List α) : Prop :=
  xs.length = n ∧ n ≤ 1000000000 ∧ (n ≠ 0 → ∃ b off, p = some ⟨b, off, none⟩ ∧ b < w.heap.size ∧ Elems k enc w b off xs)
theorem Sl.ext {α : Type} {k : Nat} {enc : α → List Value} {w w' : World} {p : Option Addr} {n : Nat} {xs : List α} (h : Sl k enc w p n xs) (he : Ext w w') : Sl k enc w' p n xs :=
  ⟨h.1, h.2.1, fun hn => let ⟨b, off, hp, hb, hE⟩ := h.2.2 hn; ⟨b, off, hp, Nat.lt_of_lt_of_le hb he.size, hE.ext he hb⟩⟩

def strC (s : ByteArray) : List Value := [.string s]
theorem Elems.str {w : World} {b off : Nat} {xs : List ByteArray} (h : Elems 1 strC w b off xs) {i : Nat} {s : ByteArray} (hs : xs[i]? = some s) : w.cell? ⟨b, off + i, none⟩ = some (.string s) := by
  have := h i s hs 0 (.string s) rfl
  simpa using this

/-- The first number of a scan that is not 0. -/
def scanF (n : Nat) (f : Nat → Int) : Int := orF ((List.range n).map f)
def Zeros (f : Nat → Int) (k : Nat) : Prop := ∀ j, j < k → f j = 0
theorem Zeros.zeroTo {f : Nat → Int} {k n : Nat} (h : Zeros f k) (hk : k ≤ n) : ZeroTo ((List.range n).map f) k := fun j hj => by
  rw [List.getD_eq_getElem?_getD, List.getElem?_map, List.getElem?_range (by omega)]
  exact h j hj
theorem scan_at {n : Nat} {f : Nat → Int} (k : Nat) (hk : k < n) (h : Zeros f k) (hx : f k ≠ 0) : scanF n f = f k := by
  have e : ((List.range n).map f).getD k 0 = f k := by rw [List.getD_eq_getElem?_getD, List.getElem?_map, List.getElem?_range hk]; rfl
  rw [← e] at hx ⊢
  exact orF_at _ k (by simpa using hk) (h.zeroTo (by omega)) hx
theorem scan_zero {n : Nat} {f : Nat → Int} (h : Zeros f n) : scanF n f = 0 := orF_zero _ n (by simp) (h.zeroTo (Nat.le_refl _))
theorem Zeros.succ {f : Nat → Int} {k : Nat} (h : Zeros f k) (hx : f k = 0) : Zeros f (k + 1) := fun j hj => by
  rcases Nat.lt_or_ge j k with hlt | hge
  · exact h j hlt
  · obtain rfl : j = k := by omega
    exact hx
theorem scan_is {n k : Nat} {f : Nat → Int} {v : Int} (hz : Zeros f k) (hk : k < n) (hv : f k = v) (h0 : v ≠ 0) : v = scanF n f := by
  rw [scan_at k hk hz (by rw [hv]; exact h0), hv]
def atL {α : Type} (d : α) (xs : List α) (i : Nat) : α := xs.getD i d
theorem atL_of {α : Type} {d : α} {xs : List α} {i : Nat} {x : α} (h : xs[i]? = some x) : atL d xs i = x := by unfold atL; rw [List.getD_eq_getElem?_getD, h]; rfl
theorem getD_some {α : Type} {xs : List α} {i n : Nat} (h : xs.length = n) (hi : i < n) : ∃ x, xs[i]? = some x := ⟨_, List.getElem?_eq_getElem (by omega)⟩
/-- Go's <= on strings. -/
def leB (s t : ByteArray) : Bool := Op.bytesLess s.toList t.toList || (s.toList == t.toList)
end Go.Proofs.YtapjekpjekdlkaaGreatDoor
