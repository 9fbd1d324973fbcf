/- More of the stream: picks within bounds, strings; rows of the call's own beside a stream. Conditions: as each theorem says. A map of names to true: a set that grows. Conditions: names of at most 1000 bytes. Intervals: what is wrong with one, sums and differences, by both texts. Conditions: none. Intervals: sums and differences, by both texts. Conditions: none. The greatest common divisor, how often a prime is in a number, by both texts. Conditions: as each theorem says. -/
import Derived.Test.YtfcoeikekbjgpaaGreatDoorRxJ2
import Derived.Maps.OwnSet
import Derived.StringKeys
import Derived.Test.YtfcoeikekbjgpaaGreatDoorRxJ1
import Derived.Deep.Light
set_option linter.unusedSimpArgs false
set_option linter.unusedVariables false
namespace Go.Proofs.YtfcoeikekbjgpaaGreatDoor
open Go Go.RowKit

theorem pick_in (s k b t cap : Nat) (xs : List Int) (lo hi : Int) (w : World) (hk : k ≤ 1000000) (hn : 1 ≤ xs.length) (hn' : xs.length ≤ 1000000) (h : Str w s k) (hs : b ≠ s) (hb : Blk w b t (xs.map (Value.int .i64)).toArray) (hx : ∀ y ∈ xs, lo ≤ y ∧ y ≤ hi) :
    Calls Tryz.prog 30 #[.pointer (some ⟨s, 0, none⟩), .slice (some ⟨b, 0, none⟩) xs.length cap] w fun e w' =>
      ∃ y : Int, lo ≤ y ∧ y ≤ hi ∧ e = .returned (.int .i64 y) ∧ Str w' s (k + 1) ∧ ExtS s w w' :=
  (pick_blk s k b t cap xs w hk hn hn' h hs hb).mono fun e w' ⟨v, hv, he, hS, hE⟩ => by
    have hm : xs.getD v 0 ∈ xs := by rw [List.getD_eq_getElem?_getD, List.getElem?_eq_getElem hv]; exact List.getElem_mem hv
    exact ⟨_, (hx _ hm).1, (hx _ hm).2, he, hS, hE⟩

set_option maxRecDepth 100000 in
theorem somes_any (s k b t cap : Nat) (xs : List ByteArray) (w : World) (hk : k ≤ 1000000) (hn : 1 ≤ xs.length) (hn' : xs.length ≤ 1000000) (h : Str w s k) (hs : b ≠ s) (hb : Blk w b t (xs.map Value.string).toArray) :
    Calls Tryz.prog 8 #[.pointer (some ⟨s, 0, none⟩), .slice (some ⟨b, 0, none⟩) xs.length cap] w fun e w' =>
      ∃ y ∈ xs, e = .returned (.string y) ∧ Str w' s (k + 1) ∧ ExtS s w w' := by
  have hN := next_any s k xs.length w hk hn (by omega) h
  have hc : ∀ i, i < xs.length → w.cell? ⟨b, i, none⟩ = some (.string (xs.getD i ⟨#[]⟩)) := fun i hi => by rw [hb.cell]; simp [hi]
  have hbl := hb.lt
  clear hb
  replace hN := Lib.hid hN
  replace hc := Lib.hid hc
  go_enter Tryz.func8, Tryz.ntmps8
  go_wp2_with (go_at_call 31; refine hN.out.mono ?_; rintro e w1 ⟨v, rfl, hv, hS, hE⟩; have hx := (hE.cell hbl hs v).trans (hc.out v hv))
  go_ret
  refine ⟨xs.getD v ⟨#[]⟩, ?_, by simp [hv], hS, hE⟩
  rw [List.getD_eq_getElem?_getD, List.getElem?_eq_getElem hv]
  exact List.getElem_mem hv

theorem ExtS.grownBy {s : Nat} {a b : World} (h : ExtS s a b) : a.grownBy b (some s) := ⟨h.1, h.2.1, h.2.2.1, h.2.2.2.1, fun k hk hn => h.2.2.2.2 k hk fun e => hn (by rw [e])⟩
theorem own_extS {s : Nat} {a b : World} (h : ExtS s a b) {base : Nat} {e : TypeId} {k n : Nat} {v : Value} {xs : List Value} (hs : s < base) (ho : a.ownsRow base e k v n xs) : b.ownsRow base e k v n xs :=
  ho.kept h.grownBy (.inr fun hv => by have := (ho.lt s hv).1; omega)
theorem ExtS.app {s : Nat} {a b c : World} {base : Nat} {e : TypeId} {k n : Nat} {v : Value} {xs : List Value} (h : ExtS s a b) (ho : b.ownsRow base e k v n xs) (hb : a.heap.size ≤ base) (hg : b.grownBy c v.ownBlock) : ExtS s a c :=
  ⟨hg.os.trans h.1, hg.tape.trans h.2.1, hg.output.trans h.2.2.1, Nat.le_trans h.2.2.2.1 hg.size, fun j hj hn => (hg.block j (Nat.lt_of_lt_of_le hj h.2.2.2.1) fun hv => by have := (ho.lt j hv.symm).1; omega).trans (h.2.2.2.2 j hj hn)⟩
theorem Str.app {s q : Nat} {b c : World} {base : Nat} {e : TypeId} {k n : Nat} {v : Value} {xs : List Value} (h : Str b s q) (ho : b.ownsRow base e k v n xs) (hs : s < base) (hg : b.grownBy c v.ownBlock) : Str c s q :=
  h.low fun j hj => hg.block j (Nat.lt_of_le_of_lt hj h.lt) fun hv => by have := (ho.lt j hv.symm).1; omega
theorem Slc.extS {α : Type} {k : Nat} {enc : α → List Value} {w w' : World} {s : Nat} {p : Option Addr} {n c : Nat} {xs : List α} (h : Slc k enc w p n c xs) (he : ExtS s w w') (hp : ∀ a, p = some a → a.block ≠ s) : Slc k enc w' p n c xs := by
  obtain ⟨⟨h1, h2, h3⟩, h4, h5, h6⟩ := h
  refine ⟨⟨h1, h2, fun hn => ?_⟩, h4, h5, fun a ha => let ⟨b, off, e, hb⟩ := h6 a ha; ⟨b, off, e, Nat.lt_of_lt_of_le hb he.2.2.2.1⟩⟩
  obtain ⟨b, off, rfl, hb, hE⟩ := h3 hn
  exact ⟨b, off, rfl, Nat.lt_of_lt_of_le hb he.2.2.2.1, fun i x hx j v hv => (he.cell hb (hp _ rfl) _).trans (hE i x hx j v hv)⟩
end Go.Proofs.YtfcoeikekbjgpaaGreatDoor

namespace Go.Proofs.YtfcoeikekbjgpaaGreatDoor
open Go Go.RowKit Go.Maps

def kL (p : ByteArray) : Lit := .string p.data.toList
theorem kL_ne {p q : ByteArray} (h : p ≠ q) : kL p ≠ kL q := fun e => h (by
  have := Lit.string.inj e
  cases p; cases q
  simp only at this
  congr 1
  exact Array.toList_inj.1 this)
theorem kL_is (p : ByteArray) : WideAt.IsKeyLit (kL p) := trivial
theorem kL_of {p : ByteArray} (hp : p.size ≤ 1000) : keyOf Tryz.prog 9 (.string p) = some (kL p) := Go.WideMaps.keyOf_string_mk Tryz.underlying9 (by unfold maxLen; omega)
/-- The map b holds just the names of T, each with true. -/
def OwnB (w : World) (b : Nat) (T : List ByteArray) : Prop := ∃ D : DataW Unit, w.ownsMap Tryz.prog 9 (plainElem Tryz.prog 4) b (Maps.size D) D ∧ Maps.Tidy D ∧ (∀ p, Maps.has D (kL p) = true ↔ p ∈ T) ∧ (∀ p, p ∈ T → ∀ z, D.atKey (kL p) z = .lit (.bool true)) ∧ Maps.size D ≤ T.length
theorem ownB_sized {P : Program} {k : TypeId} {R : Value → Option (DataW Unit × List MemPlace)} {w : World} {b n : Nat} {D : DataW Unit} (h : w.ownsMap P k R b n D) : w.ownsMap P k R b (Maps.size D) D := by
  obtain ⟨es, clock, hb, F, _, rfl⟩ := h
  exact ⟨es, clock, hb, F, by simp [Maps.size, length_sorted], rfl⟩
theorem OwnB.made (w : World) : OwnB (w.alloc (.map #[] 0)) w.heap.size [] :=
  ⟨.map [], World.ownsMap_made w _ _ _, tidy_empty, (fun p => ⟨(fun h => by cases h), (fun h => by cases h)⟩), (fun p h => by cases h), by simp [Maps.size]⟩
theorem OwnB.lt {w : World} {b : Nat} {T : List ByteArray} (h : OwnB w b T) : b < w.heap.size := by
  obtain ⟨D, hD, -⟩ := h
  exact hD.lt
theorem OwnB.ext {w w' : World} {b : Nat} {T : List ByteArray} (h : OwnB w b T) (he : Ext w w') : OwnB w' b T := by
  obtain ⟨D, hD, h2⟩ := h
  exact ⟨D, hD.kept (row := none) ⟨he.os, he.tape, he.output, he.size, fun k hk _ => he.block k hk⟩ (by simp), h2⟩
theorem boolU : Tryz.prog.underlying 4 = some .bool := Tryz.underlying4
theorem zero_bool (w : World) : (zeroValue 4).run Tryz.prog w = .ok (.bool false) w := Tryz.zeroValue4 w
theorem OwnB.look {w : World} {b : Nat} {T : List ByteArray} (h : OwnB w b T) {p : ByteArray} (hp : p.size ≤ 1000) :
    ∃ c : Bool, (Instr.lookup 109 (.map (some b)) (.string p) false).run Tryz.prog w = .ok (.bool c) w ∧ (c = true ↔ p ∈ T) := by
  obtain ⟨D, hD, hT, h1, h2, h3⟩ := h
  obtain ⟨c, hrun, hat⟩ := lookup_bool hD (string_keyed Tryz.underlying9) Tryz.underlying109 boolU (zero_bool w) (kL_of hp)
  refine ⟨c, hrun, ?_⟩
  by_cases hm : p ∈ T
  · rw [h2 p hm] at hat
    have : c = true := by
      have := Lit.bool.inj (DataW.lit.inj hat)
      exact this.symm
    exact ⟨fun _ => hm, fun _ => this⟩
  · have hn : Maps.has D (kL p) = false := by
      cases hh : Maps.has D (kL p)
      · rfl
      · exact absurd ((h1 p).1 hh) hm
    rw [atKey_of_not_has hn] at hat
    have : c = false := by
      have := Lit.bool.inj (DataW.lit.inj hat)
      exact this.symm
    rw [this]
    exact ⟨fun h => by (cases h), fun h => absurd h hm⟩
theorem OwnB.put {w : World} {b : Nat} {T : List ByteArray} (h : OwnB w b T) {p : ByteArray} (hp : p.size ≤ 1000) (hn : T.length ≤ 1000) :
    ∃ w', (Instr.mapUpdate 109 (.map (some b)) (.string p) (.bool true)).run Tryz.prog w = .ok () w' ∧ OwnB w' b (T ++ [p]) ∧ w.grownBy w' (some b) := by
  obtain ⟨D, hD, hT, h1, h2, h3⟩ := h
  obtain ⟨w', hrun, hD', hg⟩ := hD.update (string_keyed Tryz.underlying9) Tryz.underlying109 (by unfold maxLen; omega) (kL_of hp) (plainElem_bool boolU true)
  refine ⟨w', hrun, ⟨_, ownB_sized hD', hT.put (kL_is p) _, fun q => ?_, fun q hq z => ?_, ?_⟩, hg⟩
  · by_cases e : q = p
    · subst e; rw [has_put_same hT.isMap (kL_is q)]; simp
    · rw [has_put_other (kL_ne e), h1 q]; simp [e]
  · by_cases e : q = p
    · subst e; exact atKey_put_same hT.isMap (kL_is q) _ _
    · rw [atKey_put_other (kL_ne e)]; exact h2 q (by simpa [e] using hq) z
  · rw [size_put hT, List.length_append, List.length_singleton]
    split <;> omega
end Go.Proofs.YtfcoeikekbjgpaaGreatDoor

namespace Go.Proofs.YtfcoeikekbjgpaaGreatDoor
open Go Go.RowKit

structure I4 where
  a : Int
  b : Int
  c : Int
  d : Int
def rightB (x : I4) : Bool := inB x.a (-24) 24 && inB x.b (-10) 10 && inB x.c (-5) 5 && inB x.d (-3) 3
/-- A row of intervals in memory: 'n' of them from 'off' on. -/
def Rows4 (w : World) (b off : Nat) (xs : List I4) : Prop :=
  ∀ i x, xs[i]? = some x → w.cell? ⟨b, off + i * 4, none⟩ = some (.int .i64 x.a) ∧ w.cell? ⟨b, off + i * 4 + 1, none⟩ = some (.int .i64 x.b) ∧ w.cell? ⟨b, off + i * 4 + 2, none⟩ = some (.int .i64 x.c) ∧ w.cell? ⟨b, off + i * 4 + 3, none⟩ = some (.int .i64 x.d)
theorem Rows4.ext {w w' : World} {b off : Nat} {xs : List I4} (h : Rows4 w b off xs) (he : Ext w w') (hb : b < w.heap.size) : Rows4 w' b off xs := fun i x hx => by
  obtain ⟨h1, h2, h3, h4⟩ := h i x hx
  obtain ⟨hc, _, _⟩ := he.walk
  exact ⟨(hc _ _ hb).trans h1, (hc _ _ hb).trans h2, (hc _ _ hb).trans h3, (hc _ _ hb).trans h4⟩

def RightTo (l : List I4) (k : Nat) : Prop := ∀ j x, j < k → l[j]? = some x → rightB x = true
theorem RightTo.succ {l : List I4} {k : Nat} {x : I4} (h : RightTo l k) (hx : l[k]? = some x) (hr : rightB x = true) : RightTo l (k + 1) := fun j y hj hy => by
  rcases Nat.lt_or_ge j k with hlt | hge
  · exact h j y hlt hy
  · obtain rfl : j = k := by omega
    rw [hx] at hy; cases hy; exact hr

end Go.Proofs.YtfcoeikekbjgpaaGreatDoor

namespace Go.Proofs.YtfcoeikekbjgpaaGreatDoor
open Go Go.RowKit

end Go.Proofs.YtfcoeikekbjgpaaGreatDoor

namespace Go.Proofs.YtfcoeikekbjgpaaGreatDoor
open Go Go.RowKit

end Go.Proofs.YtfcoeikekbjgpaaGreatDoor
