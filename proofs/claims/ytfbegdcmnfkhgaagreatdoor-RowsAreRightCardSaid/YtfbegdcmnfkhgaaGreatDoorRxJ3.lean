/- A cell of an element that is set, in a row of elements. Conditions: as each theorem says. More of the stream: flips, ranges, picks. Conditions: as each theorem says. More of the stream: picks within bounds, strings; rows of the call's own beside a stream. Conditions: as each theorem says. A map of names to true: a set that grows. Conditions: names of at most 1000 bytes. Intervals: what is wrong with one, sums and differences, by both texts. Conditions: none. Intervals: sums and differences, by both texts. Conditions: none. The greatest common divisor, how often a prime is in a number, by both texts. Conditions: as each theorem says. The comfort of a part for a range, by voice. Conditions: none. -/
import Derived.Test.YtfbegdcmnfkhgaaGreatDoorRxJ2
import Derived.Deep.AppendLies
import Derived.Test.YtfbegdcmnfkhgaaGreatDoorRxJ1
import Derived.Maps.OwnSet
import Derived.StringKeys
import Derived.Deep.Light
import Derived.Outline
set_option linter.unusedSimpArgs false
set_option linter.unusedVariables false
namespace Go.Proofs.YtfbegdcmnfkhgaaGreatDoor
open Go Go.RowKit

theorem flat_split {α : Type} {k : Nat} {enc : α → List Value} (hk : ∀ x, (enc x).length = k) {xs : List α} {i : Nat} {x : α} (h : xs[i]? = some x) :
    ∃ pre post, pre.length = i * k ∧ xs.flatMap enc = pre ++ (enc x ++ post) ∧ ∀ y, (xs.set i y).flatMap enc = pre ++ (enc y ++ post) := by
  obtain ⟨hi, e⟩ := List.getElem?_eq_some_iff.1 h
  have hl : ∀ (l : List α), (l.flatMap enc).length = l.length * k := by
    intro l
    induction l with
    | nil => simp
    | cons y ys ih => rw [List.flatMap_cons, List.length_append, ih, hk, List.length_cons, Nat.add_mul]; omega
  refine ⟨(xs.take i).flatMap enc, (xs.drop (i + 1)).flatMap enc, ?_, ?_, fun y => ?_⟩
  · rw [hl, List.length_take, Nat.min_eq_left (by omega)]
  · have e1 : xs = xs.take i ++ (x :: xs.drop (i + 1)) := by
      rw [← e, ← List.drop_eq_getElem_cons hi, List.take_append_drop]
    have e2 := congrArg (List.flatMap enc) e1
    rw [List.flatMap_append, List.flatMap_cons] at e2
    exact e2
  · rw [List.set_eq_take_append_cons_drop, if_pos hi, List.flatMap_append, List.flatMap_cons]

theorem set_mid (pre mid post : List Value) (j : Nat) (hj : j < mid.length) (v : Value) : (pre ++ (mid ++ post)).set (pre.length + j) v = pre ++ (mid.set j v ++ post) := by
  rw [List.set_append_right _ _ (by omega), Nat.add_sub_cancel_left, List.set_append_left _ _ hj]

/-- One cell of the i-th element. -/
theorem flat_set1 {α : Type} {k : Nat} {enc : α → List Value} (hk : ∀ x, (enc x).length = k) {xs : List α} {i : Nat} {x y : α} (h : xs[i]? = some x) (j : Nat) (hj : j < k) (v : Value) (he : enc y = (enc x).set j v) :
    (xs.flatMap enc).set (i * k + j) v = (xs.set i y).flatMap enc := by
  obtain ⟨pre, post, h1, h2, h3⟩ := flat_split hk h
  rw [h2, h3, he, ← h1]
  exact set_mid _ _ _ j (by rw [hk]; exact hj) v

/-- A row of the call's own, a cell of the i-th element set. -/
theorem own_set1 {α : Type} {k : Nat} {enc : α → List Value} (hk : ∀ x, (enc x).length = k) {w : World} {base : Nat} {e : TypeId} {g n cap : Nat} {xs : List α} (h : w.ownsRow base e k (.slice (some ⟨g, 0, none⟩) n cap) n (xs.flatMap enc))
    {i : Nat} {x : α} (y : α) (hx : xs[i]? = some x) (j : Nat) (hj : j < k) (v : Value) (he : enc y = (enc x).set j v) : (w.setCell ⟨g, i * k + j, none⟩ v).ownsRow base e k (.slice (some ⟨g, 0, none⟩) n cap) n ((xs.set i y).flatMap enc) := by
  rw [← flat_set1 hk hx j hj v he]
  exact (h.stored (i * k + j) v).1
theorem own_cell {α : Type} {k : Nat} {enc : α → List Value} (hk : ∀ x, (enc x).length = k) {w : World} {base : Nat} {e : TypeId} {g n cap : Nat} {xs : List α} (h : w.ownsRow base e k (.slice (some ⟨g, 0, none⟩) n cap) n (xs.flatMap enc))
    {i : Nat} {x : α} (hx : xs[i]? = some x) (j : Nat) {v : Value} (hv : (enc x)[j]? = some v) (hl : i < n) : w.cell? ⟨g, i * k + j, none⟩ = some v := by
  have hj : j < k := by rw [← hk x]; exact (List.getElem?_eq_some_iff.1 hv).1
  refine (h.cellAt (i * k + j) ?_).trans (flat_at hk xs i x hx j v hv)
  have : (i + 1) * k ≤ n * k := Nat.mul_le_mul_right _ hl
  rw [Nat.add_mul] at this
  omega
theorem set_take_drop {α : Type} {xs ys : List α} {k : Nat} {y : α} (hl : ys.length = xs.length) (hy : ys[k]? = some y) : (ys.take k ++ xs.drop k).set k y = ys.take (k + 1) ++ xs.drop (k + 1) := by
  obtain ⟨hk, e⟩ := List.getElem?_eq_some_iff.1 hy
  have h1 : (ys.take k).length = k := by rw [List.length_take]; omega
  rw [List.set_append_right _ _ (by omega), h1, Nat.sub_self, List.drop_eq_getElem_cons (show k < xs.length by omega), List.set_cons_zero, List.take_succ_eq_append_getElem hk, e, List.append_assoc]
  rfl
/-- A slice with its capacity. -/
def Slc {α : Type} (k : Nat) (enc : α → List Value) (w : World) (p : Option Addr) (n c : Nat) (xs : List α) : Prop :=
  Sl k enc w p n xs ∧ n ≤ c ∧ (p = none → n = 0) ∧ ∀ a, p = some a → ∃ b off, a = ⟨b, off, none⟩ ∧ b < w.heap.size
theorem Slc.ext {α : Type} {k : Nat} {enc : α → List Value} {w w' : World} {p : Option Addr} {n c : Nat} {xs : List α} (h : Slc k enc w p n c xs) (he : Ext w w') : Slc k enc w' p n c xs :=
  ⟨h.1.ext he, h.2.1, h.2.2.1, fun a ha => let ⟨b, off, e, hb⟩ := h.2.2.2 a ha; ⟨b, off, e, Nat.lt_of_lt_of_le hb he.size⟩⟩
theorem Slc.nil {α : Type} (k : Nat) (enc : α → List Value) (w : World) : Slc k enc w none 0 0 [] := ⟨⟨rfl, by decide, fun h => absurd rfl h⟩, Nat.le_refl _, fun _ => rfl, fun a ha => by cases ha⟩
theorem slc_of_own {α : Type} {k : Nat} {enc : α → List Value} (hk : ∀ x, (enc x).length = k) {w : World} {base : Nat} {e : TypeId} {v : Value} {n : Nat} {xs : List α} (h : w.ownsRow base e k v n (xs.flatMap enc)) (hk0 : 0 < k) (hn : n ≤ 1000000000) :
    ∃ p c, v = .slice p n c ∧ Slc k enc w p n c xs := by
  obtain ⟨p, c, rfl, hS, _⟩ := sl_of_own hk h hk0 hn
  refine ⟨p, c, rfl, hS, ?_⟩
  rcases h.2 with ⟨h1, rfl⟩ | ⟨g, cap, cur, h1, _, hg, hnc, _⟩
  · cases h1
    exact ⟨Nat.zero_le _, fun _ => rfl, fun a ha => by cases ha⟩
  · cases h1
    exact ⟨hnc, fun h => by (cases h), fun a ha => by cases ha; exact ⟨g, 0, rfl, (Array.getElem?_eq_some_iff.1 hg).1⟩⟩
end Go.Proofs.YtfbegdcmnfkhgaaGreatDoor

namespace Go.Proofs.YtfbegdcmnfkhgaaGreatDoor
open Go Go.RowKit

set_option maxRecDepth 100000 in
theorem flip_any (s k m : Nat) (w : World) (hk : k ≤ 1000000) (hm : 1 ≤ m) (hm' : m ≤ 1000000) (h : Str w s k) :
    Calls Tryz.prog 9 #[.pointer (some ⟨s, 0, none⟩), .int .i64 m] w fun e w' => ∃ b : Bool, e = .returned (.bool b) ∧ Str w' s (k + 1) ∧ ExtS s w w' := by
  go_enter Tryz.func9, Tryz.ntmps9
  go_wp2_with (go_at_call 35; refine (next_any s k m _ hk hm (by omega) h).mono ?_; rintro e w1 ⟨v, rfl, hv, hS, hE⟩)
  go_ret
  exact ⟨_, rfl, hS, hE⟩

set_option maxRecDepth 100000 in
theorem range_any (s k : Nat) (lo hi : Int) (w : World) (hk : k ≤ 1000000) (hl : lo ≤ hi) (h0 : -1000000 ≤ lo) (h1 : hi ≤ 1000000000) (hd : hi - lo < 1000000000) (h : Str w s k) :
    Calls Tryz.prog 10 #[.pointer (some ⟨s, 0, none⟩), .int .i64 lo, .int .i64 hi] w fun e w' => ∃ v : Int, e = .returned (.int .i64 v) ∧ lo ≤ v ∧ v ≤ hi ∧ Str w' s (k + 1) ∧ ExtS s w w' := by
  obtain ⟨m, hm⟩ : ∃ m : Nat, hi - lo + 1 = m := ⟨(hi - lo + 1).toNat, by omega⟩
  have hN := next_any s k m w hk (by omega) (by omega) h
  replace hN := Lib.hid hN
  go_enter Tryz.func10, Tryz.ntmps10
  go_wp2_with (go_at_call 35; with_reducible refine Calls.mono hN.out ?_; rintro e w1 ⟨v, rfl, hv, hS, hE⟩)
  go_ret
  exact ⟨_, rfl, by omega, by omega, hS, hE⟩

set_option maxRecDepth 100000 in
theorem pick_any (s k b off cap : Nat) (xs : List Int) (w : World) (hk : k ≤ 1000000) (hn : 1 ≤ xs.length) (hn' : xs.length ≤ 1000000) (h : Str w s k) (hb : b < w.heap.size) (hs : b ≠ s)
    (hc : ∀ i, i < xs.length → w.cell? ⟨b, off + i, none⟩ = some (.int .i64 (xs.getD i 0))) :
    Calls Tryz.prog 34 #[.pointer (some ⟨s, 0, none⟩), .slice (some ⟨b, off, none⟩) xs.length cap] w fun e w' =>
      ∃ v : Nat, v < xs.length ∧ e = .returned (.int .i64 (xs.getD v 0)) ∧ Str w' s (k + 1) ∧ ExtS s w w' := by
  have hN := next_any s k xs.length w hk hn (by omega) h
  replace hN := Lib.hid hN
  replace hc := Lib.hid hc
  go_enter Tryz.func34, Tryz.ntmps34
  go_wp2_with (go_at_call 35; refine hN.out.mono ?_; rintro e w1 ⟨v, rfl, hv, hS, hE⟩; have hx := (hE.cell hb hs (off + v)).trans (hc.out v hv))
  go_ret
  exact ⟨v, hv, ret_int (by simp [hv]), hS, hE⟩

theorem pick_blk (s k b t cap : Nat) (xs : List Int) (w : World) (hk : k ≤ 1000000) (hn : 1 ≤ xs.length) (hn' : xs.length ≤ 1000000) (h : Str w s k) (hs : b ≠ s) (hb : Blk w b t (xs.map (Value.int .i64)).toArray) :
    Calls Tryz.prog 34 #[.pointer (some ⟨s, 0, none⟩), .slice (some ⟨b, 0, none⟩) xs.length cap] w fun e w' =>
      ∃ v : Nat, v < xs.length ∧ e = .returned (.int .i64 (xs.getD v 0)) ∧ Str w' s (k + 1) ∧ ExtS s w w' :=
  pick_any s k b 0 cap xs w hk hn hn' h hb.lt hs fun i hi => by rw [hb.cell]; simp [hi]
theorem odd_pick (lo hi : Int) (h0 : -1000000 ≤ lo) (h1 : hi ≤ 1000000000) (hl : lo ≤ hi) (v : Nat) (hv : v < 6) :
    -1099511627776 ≤ [lo - 1, hi + 1, lo, hi, -1099511627776, 1099511627776].getD v 0 ∧ [lo - 1, hi + 1, lo, hi, -1099511627776, 1099511627776].getD v 0 ≤ 1099511627776 := by
  have : v = 0 ∨ v = 1 ∨ v = 2 ∨ v = 3 ∨ v = 4 ∨ v = 5 := by omega
  rcases this with rfl | rfl | rfl | rfl | rfl | rfl <;> simp <;> omega

set_option maxRecDepth 100000 in
theorem odd_any (s k : Nat) (lo hi : Int) (w : World) (hk : k ≤ 999999) (hl : lo ≤ hi) (h0 : -1000000 ≤ lo) (h1 : hi ≤ 1000000000) (hd : hi - lo < 1000000000) (h : Str w s k) :
    Calls Tryz.prog 36 #[.pointer (some ⟨s, 0, none⟩), .int .i64 lo, .int .i64 hi] w fun e w' => ∃ v : Int, e = .returned (.int .i64 v) ∧ -1099511627776 ≤ v ∧ v ≤ 1099511627776 ∧ Str w' s (k + 2) ∧ ExtS s w w' := by
  go_enter Tryz.func36, Tryz.ntmps36
  go_wp2_with (first
    | (go_at_call 9; refine (flip_any s k 12 _ (by omega) (by omega) (by omega) h).mono ?_; rintro e w1 ⟨b, rfl, hS, hE⟩; cases b)
    | (go_at_call 10; refine (range_any s (k + 1) lo hi _ (by omega) hl h0 h1 hd hS).mono ?_; rintro e w2 ⟨v, rfl, hv1, hv2, hS2, hE2⟩)
    | (go_at_call 34; have l1 := hS.lt; refine (pick_blk s (k + 1) _ _ 6 [lo - 1, hi + 1, lo, hi, -1099511627776, 1099511627776] _ (by omega) (by simp) (by simp) (hS.ext (Ext.alloc (Ext.refl _) _)) (Nat.ne_of_gt l1) (Blk.new' rfl)).mono ?_; rintro e w2 ⟨v, hv, rfl, hS2, hE2⟩))
  · go_ret
    exact ⟨_, rfl, by omega, by omega, hS2, hE.trans hE2⟩
  · have hp := odd_pick lo hi h0 h1 hl v hv
    go_ret
    exact ⟨_, rfl, hp.1, hp.2, hS2, hE.trans (((ExtS.refl _ _).alloc _).trans hE2)⟩

end Go.Proofs.YtfbegdcmnfkhgaaGreatDoor

namespace Go.Proofs.YtfbegdcmnfkhgaaGreatDoor
open Go Go.RowKit

theorem pick_in (s k b t cap : Nat) (xs : List Int) (lo hi : Int) (w : World) (hk : k ≤ 1000000) (hn : 1 ≤ xs.length) (hn' : xs.length ≤ 1000000) (h : Str w s k) (hs : b ≠ s) (hb : Blk w b t (xs.map (Value.int .i64)).toArray) (hx : ∀ y ∈ xs, lo ≤ y ∧ y ≤ hi) :
    Calls Tryz.prog 34 #[.pointer (some ⟨s, 0, none⟩), .slice (some ⟨b, 0, none⟩) xs.length cap] w fun e w' =>
      ∃ y : Int, lo ≤ y ∧ y ≤ hi ∧ e = .returned (.int .i64 y) ∧ Str w' s (k + 1) ∧ ExtS s w w' :=
  (pick_blk s k b t cap xs w hk hn hn' h hs hb).mono fun e w' ⟨v, hv, he, hS, hE⟩ => by
    have hm : xs.getD v 0 ∈ xs := by rw [List.getD_eq_getElem?_getD, List.getElem?_eq_getElem hv]; exact List.getElem_mem hv
    exact ⟨_, (hx _ hm).1, (hx _ hm).2, he, hS, hE⟩

set_option maxRecDepth 100000 in
theorem somes_any (s k b t cap : Nat) (xs : List ByteArray) (w : World) (hk : k ≤ 1000000) (hn : 1 ≤ xs.length) (hn' : xs.length ≤ 1000000) (h : Str w s k) (hs : b ≠ s) (hb : Blk w b t (xs.map Value.string).toArray) :
    Calls Tryz.prog 19 #[.pointer (some ⟨s, 0, none⟩), .slice (some ⟨b, 0, none⟩) xs.length cap] w fun e w' =>
      ∃ y ∈ xs, e = .returned (.string y) ∧ Str w' s (k + 1) ∧ ExtS s w w' := by
  have hN := next_any s k xs.length w hk hn (by omega) h
  have hc : ∀ i, i < xs.length → w.cell? ⟨b, i, none⟩ = some (.string (xs.getD i ⟨#[]⟩)) := fun i hi => by rw [hb.cell]; simp [hi]
  have hbl := hb.lt
  clear hb
  replace hN := Lib.hid hN
  replace hc := Lib.hid hc
  go_enter Tryz.func19, Tryz.ntmps19
  go_wp2_with (go_at_call 35; refine hN.out.mono ?_; rintro e w1 ⟨v, rfl, hv, hS, hE⟩; have hx := (hE.cell hbl hs v).trans (hc.out v hv))
  go_ret
  refine ⟨xs.getD v ⟨#[]⟩, ?_, by simp [hv], hS, hE⟩
  rw [List.getD_eq_getElem?_getD, List.getElem?_eq_getElem hv]
  exact List.getElem_mem hv

theorem ExtS.grownBy {s : Nat} {a b : World} (h : ExtS s a b) : a.grownBy b (some s) := ⟨h.1, h.2.1, h.2.2.1, h.2.2.2.1, fun k hk hn => h.2.2.2.2 k hk fun e => hn (by rw [e])⟩
theorem own_extS {s : Nat} {a b : World} (h : ExtS s a b) {base : Nat} {e : TypeId} {k n : Nat} {v : Value} {xs : List Value} (hs : s < base) (ho : a.ownsRow base e k v n xs) : b.ownsRow base e k v n xs :=
  ho.kept h.grownBy (.inr fun hv => by have := (ho.lt s hv).1; omega)
theorem ExtS.app {s : Nat} {a b c : World} {base : Nat} {e : TypeId} {k n : Nat} {v : Value} {xs : List Value} (h : ExtS s a b) (ho : b.ownsRow base e k v n xs) (hb : a.heap.size ≤ base) (hg : b.grownBy c v.ownBlock) : ExtS s a c :=
  ⟨hg.os.trans h.1, hg.tape.trans h.2.1, hg.output.trans h.2.2.1, Nat.le_trans h.2.2.2.1 hg.size, fun j hj hn => (hg.block j (Nat.lt_of_lt_of_le hj h.2.2.2.1) fun hv => by have := (ho.lt j hv.symm).1; omega).trans (h.2.2.2.2 j hj hn)⟩
theorem Str.app {s q : Nat} {b c : World} {base : Nat} {e : TypeId} {k n : Nat} {v : Value} {xs : List Value} (h : Str b s q) (ho : b.ownsRow base e k v n xs) (hs : s < base) (hg : b.grownBy c v.ownBlock) : Str c s q :=
  h.low fun j hj => hg.block j (Nat.lt_of_le_of_lt hj h.lt) fun hv => by have := (ho.lt j hv.symm).1; omega
theorem Slc.extS {α : Type} {k : Nat} {enc : α → List Value} {w w' : World} {s : Nat} {p : Option Addr} {n c : Nat} {xs : List α} (h : Slc k enc w p n c xs) (he : ExtS s w w') (hp : ∀ a, p = some a → a.block ≠ s) : Slc k enc w' p n c xs := by
  obtain ⟨⟨h1, h2, h3⟩, h4, h5, h6⟩ := h
  refine ⟨⟨h1, h2, fun hn => ?_⟩, h4, h5, fun a ha => let ⟨b, off, e, hb⟩ := h6 a ha; ⟨b, off, e, Nat.lt_of_lt_of_le hb he.2.2.2.1⟩⟩
  obtain ⟨b, off, rfl, hb, hE⟩ := h3 hn
  exact ⟨b, off, rfl, Nat.lt_of_lt_of_le hb he.2.2.2.1, fun i x hx j v hv => (he.cell hb (hp _ rfl) _).trans (hE i x hx j v hv)⟩
end Go.Proofs.YtfbegdcmnfkhgaaGreatDoor

namespace Go.Proofs.YtfbegdcmnfkhgaaGreatDoor
open Go Go.RowKit Go.Maps

def kL (p : ByteArray) : Lit := .string p.data.toList
theorem kL_ne {p q : ByteArray} (h : p ≠ q) : kL p ≠ kL q := fun e => h (by
  have := Lit.string.inj e
  cases p; cases q
  simp only at this
  congr 1
  exact Array.toList_inj.1 this)
theorem kL_is (p : ByteArray) : WideAt.IsKeyLit (kL p) := trivial
theorem kL_of {p : ByteArray} (hp : p.size ≤ 1000) : keyOf Tryz.prog 9 (.string p) = some (kL p) := Go.WideMaps.keyOf_string_mk Tryz.underlying9 (by unfold maxLen; omega)
/-- The map b holds just the names of T, each with true. -/
def OwnB (w : World) (b : Nat) (T : List ByteArray) : Prop := ∃ D : DataW Unit, w.ownsMap Tryz.prog 9 (plainElem Tryz.prog 4) b (Maps.size D) D ∧ Maps.Tidy D ∧ (∀ p, Maps.has D (kL p) = true ↔ p ∈ T) ∧ (∀ p, p ∈ T → ∀ z, D.atKey (kL p) z = .lit (.bool true)) ∧ Maps.size D ≤ T.length
theorem ownB_sized {P : Program} {k : TypeId} {R : Value → Option (DataW Unit × List MemPlace)} {w : World} {b n : Nat} {D : DataW Unit} (h : w.ownsMap P k R b n D) : w.ownsMap P k R b (Maps.size D) D := by
  obtain ⟨es, clock, hb, F, _, rfl⟩ := h
  exact ⟨es, clock, hb, F, by simp [Maps.size, length_sorted], rfl⟩
theorem OwnB.made (w : World) : OwnB (w.alloc (.map #[] 0)) w.heap.size [] :=
  ⟨.map [], World.ownsMap_made w _ _ _, tidy_empty, (fun p => ⟨(fun h => by cases h), (fun h => by cases h)⟩), (fun p h => by cases h), by simp [Maps.size]⟩
theorem OwnB.lt {w : World} {b : Nat} {T : List ByteArray} (h : OwnB w b T) : b < w.heap.size := by
  obtain ⟨D, hD, -⟩ := h
  exact hD.lt
theorem OwnB.ext {w w' : World} {b : Nat} {T : List ByteArray} (h : OwnB w b T) (he : Ext w w') : OwnB w' b T := by
  obtain ⟨D, hD, h2⟩ := h
  exact ⟨D, hD.kept (row := none) ⟨he.os, he.tape, he.output, he.size, fun k hk _ => he.block k hk⟩ (by simp), h2⟩
theorem boolU : Tryz.prog.underlying 4 = some .bool := Tryz.underlying4
theorem zero_bool (w : World) : (zeroValue 4).run Tryz.prog w = .ok (.bool false) w := Tryz.zeroValue4 w
theorem OwnB.look {w : World} {b : Nat} {T : List ByteArray} (h : OwnB w b T) {p : ByteArray} (hp : p.size ≤ 1000) :
    ∃ c : Bool, (Instr.lookup 144 (.map (some b)) (.string p) false).run Tryz.prog w = .ok (.bool c) w ∧ (c = true ↔ p ∈ T) := by
  obtain ⟨D, hD, hT, h1, h2, h3⟩ := h
  obtain ⟨c, hrun, hat⟩ := lookup_bool hD (string_keyed Tryz.underlying9) Tryz.underlying144 boolU (zero_bool w) (kL_of hp)
  refine ⟨c, hrun, ?_⟩
  by_cases hm : p ∈ T
  · rw [h2 p hm] at hat
    have : c = true := by
      have := Lit.bool.inj (DataW.lit.inj hat)
      exact this.symm
    exact ⟨fun _ => hm, fun _ => this⟩
  · have hn : Maps.has D (kL p) = false := by
      cases hh : Maps.has D (kL p)
      · rfl
      · exact absurd ((h1 p).1 hh) hm
    rw [atKey_of_not_has hn] at hat
    have : c = false := by
      have := Lit.bool.inj (DataW.lit.inj hat)
      exact this.symm
    rw [this]
    exact ⟨fun h => by (cases h), fun h => absurd h hm⟩
theorem OwnB.put {w : World} {b : Nat} {T : List ByteArray} (h : OwnB w b T) {p : ByteArray} (hp : p.size ≤ 1000) (hn : T.length ≤ 1000) :
    ∃ w', (Instr.mapUpdate 144 (.map (some b)) (.string p) (.bool true)).run Tryz.prog w = .ok () w' ∧ OwnB w' b (T ++ [p]) ∧ w.grownBy w' (some b) := by
  obtain ⟨D, hD, hT, h1, h2, h3⟩ := h
  obtain ⟨w', hrun, hD', hg⟩ := hD.update (string_keyed Tryz.underlying9) Tryz.underlying144 (by unfold maxLen; omega) (kL_of hp) (plainElem_bool boolU true)
  refine ⟨w', hrun, ⟨_, ownB_sized hD', hT.put (kL_is p) _, fun q => ?_, fun q hq z => ?_, ?_⟩, hg⟩
  · by_cases e : q = p
    · subst e; rw [has_put_same hT.isMap (kL_is q)]; simp
    · rw [has_put_other (kL_ne e), h1 q]; simp [e]
  · by_cases e : q = p
    · subst e; exact atKey_put_same hT.isMap (kL_is q) _ _
    · rw [atKey_put_other (kL_ne e)]; exact h2 q (by simpa [e] using hq) z
  · rw [size_put hT, List.length_append, List.length_singleton]
    split <;> omega
end Go.Proofs.YtfbegdcmnfkhgaaGreatDoor

namespace Go.Proofs.YtfbegdcmnfkhgaaGreatDoor
open Go Go.RowKit

structure I4 where
  a : Int
  b : Int
  c : Int
  d : Int
def rightB (x : I4) : Bool := inB x.a (-24) 24 && inB x.b (-10) 10 && inB x.c (-5) 5 && inB x.d (-3) 3
/-- A row of intervals in memory: 'n' of them from 'off' on. -/
def Rows4 (w : World) (b off : Nat) (xs : List I4) : Prop :=
  ∀ i x, xs[i]? = some x → w.cell? ⟨b, off + i * 4, none⟩ = some (.int .i64 x.a) ∧ w.cell? ⟨b, off + i * 4 + 1, none⟩ = some (.int .i64 x.b) ∧ w.cell? ⟨b, off + i * 4 + 2, none⟩ = some (.int .i64 x.c) ∧ w.cell? ⟨b, off + i * 4 + 3, none⟩ = some (.int .i64 x.d)
theorem Rows4.ext {w w' : World} {b off : Nat} {xs : List I4} (h : Rows4 w b off xs) (he : Ext w w') (hb : b < w.heap.size) : Rows4 w' b off xs := fun i x hx => by
  obtain ⟨h1, h2, h3, h4⟩ := h i x hx
  obtain ⟨hc, _, _⟩ := he.walk
  exact ⟨(hc _ _ hb).trans h1, (hc _ _ hb).trans h2, (hc _ _ hb).trans h3, (hc _ _ hb).trans h4⟩

def RightTo (l : List I4) (k : Nat) : Prop := ∀ j x, j < k → l[j]? = some x → rightB x = true
theorem RightTo.succ {l : List I4} {k : Nat} {x : I4} (h : RightTo l k) (hx : l[k]? = some x) (hr : rightB x = true) : RightTo l (k + 1) := fun j y hj hy => by
  rcases Nat.lt_or_ge j k with hlt | hge
  · exact h j y hlt hy
  · obtain rfl : j = k := by omega
    rw [hx] at hy; cases hy; exact hr

end Go.Proofs.YtfbegdcmnfkhgaaGreatDoor

namespace Go.Proofs.YtfbegdcmnfkhgaaGreatDoor
open Go Go.RowKit

end Go.Proofs.YtfbegdcmnfkhgaaGreatDoor

namespace Go.Proofs.YtfbegdcmnfkhgaaGreatDoor
open Go Go.RowKit

end Go.Proofs.YtfbegdcmnfkhgaaGreatDoor

namespace Go.Proofs.YtfbegdcmnfkhgaaGreatDoor
open Go Go.RowKit

def rightR (lo hi : Int) : Bool := !outB lo 0 hi && decide (hi ≤ 127)
def comfN (a b c d : Int) : Int := min (c - a) (b - d)

set_option maxRecDepth 100000 in
theorem isRight_any (lo hi : Int) (w : World) :
    Calls Tryz.prog 100 #[.agg #[.int .i64 lo, .int .i64 hi]] w fun e w' => e = .returned (.bool (rightR lo hi)) ∧ Ext w w' := by
  have hR : rightR lo hi = (!outB lo 0 hi && decide (hi ≤ 127)) := rfl
  replace hR := Lib.hid hR
  cases ho : outB lo 0 hi
  all_goals
    go_enter Tryz.func100, Tryz.ntmps100
    go_wp2_with (go_at_call 71; refine (outside_any _ _ _ _).mono ?_; rintro e w' ⟨rfl, rfl⟩)
    go_ret
    exact ⟨ret_bool (by rw [hR.out]; simp [*]), by (repeat (with_reducible first | assumption | exact Ext.refl _ | refine Ext.drew ?_ | refine Ext.alloc ?_ _ | refine Ext.setCell ?_ (by simp <;> omega) _ | refine Ext.trans ?_ (by assumption)))⟩

theorem right_b {lo hi : Int} (h : rightR lo hi = true) : 0 ≤ lo ∧ lo ≤ hi ∧ hi ≤ 127 := by
  unfold rightR outB at h
  simp at h
  omega

set_option maxRecDepth 100000 in
theorem comfort_any (a b c d : Int) (w : World) (h1 : rightR a b = true) (h2 : rightR c d = true) :
    Calls Tryz.prog 101 #[.agg #[.int .i64 a, .int .i64 b], .agg #[.int .i64 c, .int .i64 d]] w fun e w' => e = .returned (.int .i64 (comfN a b c d)) ∧ Ext w w' := by
  have b1 := right_b h1
  have b2 := right_b h2
  have hC : comfN a b c d = min (c - a) (b - d) := rfl
  replace hC := Lib.hid hC
  go_enter Tryz.func101, Tryz.ntmps101
  go_wp2
  all_goals
    go_ret
    exact ⟨ret_int (by rw [hC.out]; first | rfl | omega), by (repeat (with_reducible first | assumption | exact Ext.refl _ | refine Ext.drew ?_ | refine Ext.alloc ?_ _ | refine Ext.setCell ?_ (by simp <;> omega) _ | refine Ext.trans ?_ (by assumption)))⟩

set_option maxRecDepth 100000 in
theorem Comfort_any (a b c d : Int) (w : World) :
    Calls Tryz.prog 66 #[.agg #[.int .i64 a, .int .i64 b], .agg #[.int .i64 c, .int .i64 d]] w fun e w' =>
      e = .returned (if rightR a b && rightR c d then .tuple #[.int .i64 (max (comfN a b c d) 0), .bool (decide (0 ≤ comfN a b c d)), .int .i64 0] else .tuple #[.int .i64 0, .bool false, .int .i64 1]) ∧ Ext w w' := by
  cases h1 : rightR a b
  case' true => cases h2 : rightR c d
  case true.true =>
    have b1 := right_b h1
    have b2 := right_b h2
    have hC : comfN a b c d = min (c - a) (b - d) := rfl
    have hb : -1000 ≤ comfN a b c d ∧ comfN a b c d ≤ 1000 := by rw [hC]; omega
    clear hC
    have hc := comfort_any a b c d
    generalize comfN a b c d = n at hb hc ⊢
    have hm : max n 0 = if n < 0 then 0 else n := by split <;> omega
    replace hm := Lib.hid hm
    replace hc := Lib.hid hc
    simp only [Bool.and_self, if_true]
    go_enter Tryz.func66, Tryz.ntmps66
    go_wp2_with (first
      | (go_at_call 100; with_reducible refine Calls.mono (isRight_any a b _) ?_; rintro e w1 ⟨rfl, hb1⟩; obtain ⟨hc1, hf1, hz1⟩ := hb1.walk; (try simp only [World.size_alloc] at hz1); have lt1 : w.heap.size < w1.heap.size := (by omega); have lt2 : w.heap.size + 1 < w1.heap.size := (by omega))
      | (go_at_call 100; with_reducible refine Calls.mono (isRight_any c d _) ?_; rintro e w2 ⟨rfl, hb2⟩; obtain ⟨hc2, hf2, hz2⟩ := hb2.walk; (try simp only [World.size_alloc] at hz2))
      | (go_at_call 101; with_reducible refine Calls.mono (hc.out _ h1 h2) ?_; rintro e w3 ⟨rfl, hb3⟩))
    all_goals
      go_ret3
      refine ⟨?_, by (repeat (with_reducible first | assumption | exact Ext.refl _ | refine Ext.drew ?_ | refine Ext.alloc ?_ _ | refine Ext.setCell ?_ (by simp <;> omega) _ | refine Ext.trans ?_ (by assumption)))⟩
      have e1 : ∀ (x y : Int) (p q : Bool), x = y → p = q → Ending.returned (.tuple #[.int .i64 x, .bool p, .int .i64 0]) = .returned (.tuple #[.int .i64 y, .bool q, .int .i64 0]) := fun _ _ _ _ h h' => by rw [h, h']
      exact e1 _ _ _ _ (by rw [hm.out]; split <;> omega) (by simp <;> omega)
  all_goals
    simp only [Bool.and_false, Bool.false_and, Bool.and_self, Bool.false_eq_true, if_false, if_true]
    go_enter Tryz.func66, Tryz.ntmps66
    go_wp2_with (first
      | (go_at_call 100; with_reducible refine Calls.mono (isRight_any a b _) ?_; rintro e w1 ⟨rfl, hb1⟩; obtain ⟨hc1, hf1, hz1⟩ := hb1.walk; (try simp only [World.size_alloc] at hz1); have lt1 : w.heap.size < w1.heap.size := (by omega); have lt2 : w.heap.size + 1 < w1.heap.size := (by omega))
      | (go_at_call 100; with_reducible refine Calls.mono (isRight_any c d _) ?_; rintro e w2 ⟨rfl, hb2⟩; obtain ⟨hc2, hf2, hz2⟩ := hb2.walk; (try simp only [World.size_alloc] at hz2)))
    go_ret3
    exact ⟨rfl, by (repeat (with_reducible first | assumption | exact Ext.refl _ | refine Ext.drew ?_ | refine Ext.alloc ?_ _ | refine Ext.setCell ?_ (by simp <;> omega) _ | refine Ext.trans ?_ (by assumption)))⟩
end Go.Proofs.YtfbegdcmnfkhgaaGreatDoor
