/- Rows of the call's own: appended, with the place of the new row; cut. Conditions: as each theorem says. More of the stream: flips, ranges, picks. Conditions: as each theorem says. More of the stream: picks within bounds, strings; rows of the call's own beside a stream. Conditions: as each theorem says. The comfort of a part for a range, by voice. Conditions: none. -/
import Derived.Test.YtehboinleolihaaGreatDoorCzJ3
import Derived.ArgAppend
import Derived.Test.YtehboinleolihaaGreatDoorCzJ2
import Derived.Outline
set_option linter.unusedSimpArgs false
set_option linter.unusedVariables false
namespace Go.Proofs.YtehboinleolihaaGreatDoor
open Go Go.RowKit
theorem own_low {w : World} {base base' k n : Nat} {e : TypeId} {v : Value} {xs : List Value} (h : w.ownsRow base' e k v n xs) (hb : base ≤ base') : w.ownsRow base e k v n xs :=
 ⟨h.1, h.2.imp id fun ⟨g, cap, cur, hv, hg, r⟩ => ⟨g, cap, cur, hv, Nat.le_trans hb hg, r⟩⟩
theorem own_no {w : World} {base k n g : Nat} {t e : TypeId} {v : Value} {xs : List Value} {cs : Array Value} (ho : w.ownsRow base e k v n xs) (h : Blk w g t cs) (ht : t ≠ e) : v.ownBlock ≠ some g := by
 rcases ho.2 with ⟨rfl, _⟩ | ⟨b, cap, cur, rfl, _, h3, _⟩
 ·simp [Value.ownBlock]
 ·intro e1
  have e2 : b = g := by simpa [Value.ownBlock] using e1
  subst e2
  unfold Blk at h
  rw [h3] at h
  simp at h
  exact ht h.2.symm
theorem grown_set (w : World) (p : Addr) (u : Value) : w.grownBy (w.setCell p u) (some p.block) :=
 ⟨rfl, rfl, rfl, by simp [World.setCell], fun k _ h => Below.heap_setCell w p u k fun e => h (e ▸ rfl)⟩
theorem slcC {α : Type} {k : Nat} {enc : α → List Value} {w : World} {p : Option Addr} {n c : Nat} {xs : List α} (h : Slc k enc w p n c xs) :
 n = xs.length ∧ ((p = none ∧ xs = []) ∨ ∃ b off, p = some ⟨b, off, none⟩ ∧ b < w.heap.size ∧ Elems k enc w b off xs) := by
 obtain ⟨⟨h1, h2, h3⟩, h4, h5, h6⟩ := h
 refine ⟨h1.symm, ?_⟩
 cases p with
 | none => exact .inl ⟨rfl, List.eq_nil_of_length_eq_zero (by rw [h1]; exact h5 rfl)⟩
 | some a =>
   obtain ⟨b, off, rfl, hb⟩ := h6 a rfl
   refine .inr ⟨b, off, rfl, hb, ?_⟩
   by_cases hn : n = 0
   ·obtain rfl : xs = [] := List.eq_nil_of_length_eq_zero (by omega)
    intro i x hx
    cases hx
   ·obtain ⟨b', off', e, _, hE⟩ := h3 hn
    cases e
    exact hE
end Go.Proofs.YtehboinleolihaaGreatDoor
namespace Go.Proofs.YtehboinleolihaaGreatDoor
open Go Go.RowKit
theorem odd_pick (lo hi : Int) (h0 : -1000000 ≤ lo) (h1 : hi ≤ 1000000000) (hl : lo ≤ hi) (v : Nat) (hv : v < 6) :
 -1099511627776 ≤ [lo - 1, hi + 1, lo, hi, -1099511627776,1099511627776].getD v 0 ∧ [lo - 1, hi + 1, lo, hi, -1099511627776,1099511627776].getD v 0 ≤ 1099511627776 := by
 have : v = 0 ∨ v = 1 ∨ v = 2 ∨ v = 3 ∨ v = 4 ∨ v = 5 := by omega
 rcases this with rfl | rfl | rfl | rfl | rfl | rfl <;> simp <;> omega
end Go.Proofs.YtehboinleolihaaGreatDoor
namespace Go.Proofs.YtehboinleolihaaGreatDoor
open Go Go.RowKit
theorem ExtS.grownBy {s : Nat} {a b : World} (h : ExtS s a b) : a.grownBy b (some s) := ⟨h.1, h.2.1, h.2.2.1, h.2.2.2.1, fun k hk hn => h.2.2.2.2 k hk fun e => hn (by rw [e])⟩
theorem own_extS {s : Nat} {a b : World} (h : ExtS s a b) {base : Nat} {e : TypeId} {k n : Nat} {v : Value} {xs : List Value} (hs : s < base) (ho : a.ownsRow base e k v n xs) : b.ownsRow base e k v n xs :=
 ho.kept h.grownBy (.inr fun hv => by have := (ho.lt s hv).1; omega)
theorem ExtS.app {s : Nat} {a b c : World} {base : Nat} {e : TypeId} {k n : Nat} {v : Value} {xs : List Value} (h : ExtS s a b) (ho : b.ownsRow base e k v n xs) (hb : a.heap.size ≤ base) (hg : b.grownBy c v.ownBlock) : ExtS s a c :=
 ⟨hg.os.trans h.1, hg.tape.trans h.2.1, hg.output.trans h.2.2.1, Nat.le_trans h.2.2.2.1 hg.size, fun j hj hn => (hg.block j (Nat.lt_of_lt_of_le hj h.2.2.2.1) fun hv => by have := (ho.lt j hv.symm).1; omega).trans (h.2.2.2.2 j hj hn)⟩
theorem Str.app {s q : Nat} {b c : World} {base : Nat} {e : TypeId} {k n : Nat} {v : Value} {xs : List Value} (h : Str b s q) (ho : b.ownsRow base e k v n xs) (hs : s < base) (hg : b.grownBy c v.ownBlock) : Str c s q :=
 h.low fun j hj => hg.block j (Nat.lt_of_le_of_lt hj h.lt) fun hv => by have := (ho.lt j hv.symm).1; omega
theorem Slc.extS {α : Type} {k : Nat} {enc : α → List Value} {w w' : World} {s : Nat} {p : Option Addr} {n c : Nat} {xs : List α} (h : Slc k enc w p n c xs) (he : ExtS s w w') (hp : ∀ a, p = some a → a.block ≠ s) : Slc k enc w' p n c xs := by
 obtain ⟨⟨h1, h2, h3⟩, h4, h5, h6⟩ := h
 refine ⟨⟨h1, h2, fun hn => ?_⟩, h4, h5, fun a ha => let ⟨b, off, e, hb⟩ := h6 a ha; ⟨b, off, e, Nat.lt_of_lt_of_le hb he.2.2.2.1⟩⟩
 obtain ⟨b, off, rfl, hb, hE⟩ := h3 hn
 exact ⟨b, off, rfl, Nat.lt_of_lt_of_le hb he.2.2.2.1, fun i x hx j v hv => (he.cell hb (hp _ rfl) _).trans (hE i x hx j v hv)⟩
end Go.Proofs.YtehboinleolihaaGreatDoor
namespace Go.Proofs.YtehboinleolihaaGreatDoor
open Go Go.RowKit
def rightR (lo hi : Int) : Bool := !outB lo 0 hi && decide (hi ≤ 127)
def comfN (a b c d : Int) : Int := min (c - a) (b - d)
set_option maxRecDepth 100000 in
theorem isRight_any (lo hi : Int) (w : World) :
 Calls Tryz.prog 195 #[.agg #[.int .i64 lo, .int .i64 hi]] w fun e w' => e = .returned (.bool (rightR lo hi)) ∧ Ext w w' := by
 have hR : rightR lo hi = (!outB lo 0 hi && decide (hi ≤ 127)) := rfl
 replace hR := Lib.hid hR
 cases ho : outB lo 0 hi
 all_goals
  go_enter Tryz.func195, Tryz.ntmps195
  go_wp2_with (go_at_call 146; refine (outside_any _ _ _ _).mono ?_; rintro e w' ⟨rfl, rfl⟩)
  go_ret
  exact ⟨ret_bool (by rw [hR.out]; simp [*]), by (repeat (with_reducible first | assumption | exact Ext.refl _ | refine Ext.drew ?_ | refine Ext.alloc ?_ _ | refine Ext.setCell ?_ (by simp <;> omega) _ | refine Ext.trans ?_ (by assumption)))⟩
theorem right_b {lo hi : Int} (h : rightR lo hi = true) : 0 ≤ lo ∧ lo ≤ hi ∧ hi ≤ 127 := by
 unfold rightR outB at h
 simp at h
 omega
set_option maxRecDepth 100000 in
theorem comfort_any (a b c d : Int) (w : World) (h1 : rightR a b = true) (h2 : rightR c d = true) :
 Calls Tryz.prog 196 #[.agg #[.int .i64 a, .int .i64 b], .agg #[.int .i64 c, .int .i64 d]] w fun e w' => e = .returned (.int .i64 (comfN a b c d)) ∧ Ext w w' := by
 have b1 := right_b h1
 have b2 := right_b h2
 have hC : comfN a b c d = min (c - a) (b - d) := rfl
 replace hC := Lib.hid hC
 go_enter Tryz.func196, Tryz.ntmps196
 go_wp2
 all_goals
  go_ret
  exact ⟨ret_int (by rw [hC.out]; first | rfl | omega), by (repeat (with_reducible first | assumption | exact Ext.refl _ | refine Ext.drew ?_ | refine Ext.alloc ?_ _ | refine Ext.setCell ?_ (by simp <;> omega) _ | refine Ext.trans ?_ (by assumption)))⟩
set_option maxRecDepth 100000 in
theorem Comfort_any (a b c d : Int) (w : World) :
 Calls Tryz.prog 121 #[.agg #[.int .i64 a, .int .i64 b], .agg #[.int .i64 c, .int .i64 d]] w fun e w' =>
  e = .returned (if rightR a b && rightR c d then .tuple #[.int .i64 (max (comfN a b c d) 0), .bool (decide (0 ≤ comfN a b c d)), .int .i64 0] else .tuple #[.int .i64 0, .bool false, .int .i64 1]) ∧ Ext w w' := by
 cases h1 : rightR a b
 case' true => cases h2 : rightR c d
 case true.true =>
  have b1 := right_b h1
  have b2 := right_b h2
  have hC : comfN a b c d = min (c - a) (b - d) := rfl
  have hb : -1000 ≤ comfN a b c d ∧ comfN a b c d ≤ 1000 := by rw [hC]; omega
  clear hC
  have hc := comfort_any a b c d
  generalize comfN a b c d = n at hb hc ⊢
  have hm : max n 0 = if n < 0 then 0 else n := by split <;> omega
  replace hm := Lib.hid hm; replace hc := Lib.hid hc
  simp only [Bool.and_self, if_true]
  go_enter Tryz.func121, Tryz.ntmps121
  go_wp2_with (first
   | (go_at_call 195; with_reducible refine Calls.mono (isRight_any a b _) ?_; rintro e w1 ⟨rfl, hb1⟩; obtain ⟨hc1, hf1, hz1⟩ := hb1.walk; (try simp only [World.size_alloc] at hz1); have lt1 : w.heap.size < w1.heap.size := (by omega); have lt2 : w.heap.size + 1 < w1.heap.size := (by omega))
   | (go_at_call 195; with_reducible refine Calls.mono (isRight_any c d _) ?_; rintro e w2 ⟨rfl, hb2⟩; obtain ⟨hc2, hf2, hz2⟩ := hb2.walk; (try simp only [World.size_alloc] at hz2))
   | (go_at_call 196; with_reducible refine Calls.mono (hc.out _ h1 h2) ?_; rintro e w3 ⟨rfl, hb3⟩))
  all_goals
   go_ret3
   refine ⟨?_, by (repeat (with_reducible first | assumption | exact Ext.refl _ | refine Ext.drew ?_ | refine Ext.alloc ?_ _ | refine Ext.setCell ?_ (by simp <;> omega) _ | refine Ext.trans ?_ (by assumption)))⟩
   have e1 : ∀ (x y : Int) (p q : Bool), x = y → p = q → Ending.returned (.tuple #[.int .i64 x, .bool p, .int .i64 0]) = .returned (.tuple #[.int .i64 y, .bool q, .int .i64 0]) := fun _ _ _ _ h h' => by rw [h, h']
   exact e1 _ _ _ _ (by rw [hm.out]; split <;> omega) (by simp <;> omega)
 all_goals
  simp only [Bool.and_false, Bool.false_and, Bool.and_self, Bool.false_eq_true, if_false, if_true]
  go_enter Tryz.func121, Tryz.ntmps121
  go_wp2_with (first
   | (go_at_call 195; with_reducible refine Calls.mono (isRight_any a b _) ?_; rintro e w1 ⟨rfl, hb1⟩; obtain ⟨hc1, hf1, hz1⟩ := hb1.walk; (try simp only [World.size_alloc] at hz1); have lt1 : w.heap.size < w1.heap.size := (by omega); have lt2 : w.heap.size + 1 < w1.heap.size := (by omega))
   | (go_at_call 195; with_reducible refine Calls.mono (isRight_any c d _) ?_; rintro e w2 ⟨rfl, hb2⟩; obtain ⟨hc2, hf2, hz2⟩ := hb2.walk; (try simp only [World.size_alloc] at hz2)))
  go_ret3
  exact ⟨rfl, by (repeat (with_reducible first | assumption | exact Ext.refl _ | refine Ext.drew ?_ | refine Ext.alloc ?_ _ | refine Ext.setCell ?_ (by simp <;> omega) _ | refine Ext.trans ?_ (by assumption)))⟩
end Go.Proofs.YtehboinleolihaaGreatDoor
