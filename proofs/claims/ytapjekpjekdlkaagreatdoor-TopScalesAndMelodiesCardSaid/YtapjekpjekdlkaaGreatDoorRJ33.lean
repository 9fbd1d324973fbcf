/- Intervals and their quotients: each tells the other; plain numbers. Conditions: the interval is right where that is said. Comparing intervals is comparing their difference with none; scales and turned scales: plain numbers. Conditions: as each theorem says. Scales in memory: twelve intervals. Conditions: as each theorem says. -/
import Derived.Test.YtapjekpjekdlkaaGreatDoorRJ7
import Derived.Test.YtapjekpjekdlkaaGreatDoorRTuneH
import Derived.Test.YtapjekpjekdlkaaGreatDoorRJ5
import Derived.Test.YtapjekpjekdlkaaGreatDoorRTuneI
import Derived.Test.YtapjekpjekdlkaaGreatDoorRJ6
import Derived.Test.YtapjekpjekdlkaaGreatDoorRFactsB
set_option linter.unusedSimpArgs false
set_option linter.unusedVariables false
namespace Go.Proofs.YtapjekpjekdlkaaGreatDoor

theorem cmpN_neg (x y : Nat) : cmpN x y = -cmpN y x := by
  unfold cmpN
  split
  · rw [if_neg (by omega), if_neg (by omega)]
  · split
    · rw [if_neg (by omega), if_pos (by omega)]; rfl
    · rw [if_pos (by omega)]; rfl
theorem cmpI_neg (x y : I4) : cmpI x y = -cmpI y x := cmpN_neg _ _
end Go.Proofs.YtapjekpjekdlkaaGreatDoor

namespace Go.Proofs.YtapjekpjekdlkaaGreatDoor

/-- The difference, without a wrap. -/
def I4.sub_ (x y : I4) : I4 := ⟨x.a - y.a, x.b - y.b, x.c - y.c, x.d - y.d⟩
def I4.up (x : I4) (n : Int) : I4 := ⟨x.a + n, x.b, x.c, x.d⟩
end Go.Proofs.YtapjekpjekdlkaaGreatDoor

namespace Go.Proofs.YtapjekpjekdlkaaGreatDoor
open Go Go.RowKit

theorem i4_one (x : I4) : ∀ u ∈ i4C x, u.oneCell' = true := by simp [i4C, Value.oneCell']
def sc (xs : List I4) : Array Value := (xs.flatMap i4C).toArray
theorem sc_size (xs : List I4) : (sc xs).size = xs.length * 4 := by
  unfold sc
  rw [List.size_toArray]
  induction xs with
  | nil => rfl
  | cons x l ih => rw [List.flatMap_cons, List.length_append, ih, i4C_len, List.length_cons]; omega
theorem sc_extract {xs : List I4} {k : Nat} {x : I4} (h : xs[k]? = some x) : (sc xs).extract (k * 4) (k * 4 + 4) = #[.int .i64 x.a, .int .i64 x.b, .int .i64 x.c, .int .i64 x.d] := by
  obtain ⟨pre, post, h1, h2, -⟩ := flat_split i4C_len h
  apply Array.ext'
  rw [Array.toList_extract]
  unfold sc
  rw [h2]
  simp [List.extract_eq_take_drop, ← h1, i4C]
theorem sc_rows {w : World} {g : Nat} {t : TypeId} {xs : List I4} (h : Blk w g t (sc xs)) : Rows4 w g 0 xs := fun i x hx => by
  have hc := fun j v (hv : (i4C x)[j]? = some v) => (h.cell (i * 4 + j)).trans (show (sc xs)[i * 4 + j]? = some v by
    unfold sc
    rw [List.getElem?_toArray]
    exact flat_at i4C_len xs i x hx j v hv)
  refine ⟨?_, ?_, ?_, ?_⟩
  · simpa using hc 0 _ rfl
  · simpa using hc 1 _ rfl
  · simpa using hc 2 _ rfl
  · simpa using hc 3 _ rfl

theorem index_sc (w : World) {xs : List I4} {k : Nat} {x : I4} (hl : xs.length = 12) (h : xs[k]? = some x) :
    (Instr.index 29 (.agg (sc xs)) (.int .i64 (k : Int))).run Tryz.prog w = .ok (.agg #[.int .i64 x.a, .int .i64 x.b, .int .i64 x.c, .int .i64 x.d]) w := by
  have hk : k < 12 := by rw [← hl]; exact (List.getElem?_eq_some_iff.1 h).1
  have he := sc_extract h
  simp [Instr.index, asIntOf, run_underlying Tryz.underlying29, Sem.run_bind, part, Tryz.isAgg27, Tryz.sizeOf27, hk, he]

structure ScaleOk (xs : List I4) : Prop where
  len : xs.length = 12
  right : ∀ x ∈ xs, rightB x = true
  zero : xs[0]? = some zeroI
  rise : ∀ j x y, xs[j]? = some x → xs[j + 1]? = some y → cmpI x y = -1
  last : ∀ x, xs[11]? = some x → cmpI x ⟨1, 0, 0, 0⟩ = -1
theorem cmpN_three (x y : Nat) : cmpN x y = -1 ∨ cmpN x y = 0 ∨ cmpN x y = 1 := by
  unfold cmpN
  split
  · exact .inl rfl
  · split
    · exact .inr (.inl rfl)
    · exact .inr (.inr rfl)
theorem cmpI_three (x y : I4) : cmpI x y = -1 ∨ cmpI x y = 0 ∨ cmpI x y = 1 := cmpN_three _ _
theorem faultAll_right {xs : List I4} (h : ∀ x ∈ xs, rightB x = true) : faultAll xs = 0 := by
  induction xs with
  | nil => rfl
  | cons x l ih => rw [faultAll, if_pos (h x (by simp))]; exact ih fun y hy => h y (by simp [hy])
end Go.Proofs.YtapjekpjekdlkaaGreatDoor
