/- More of the stream: picks within bounds, strings; rows of the call's own beside a stream. Conditions: as each theorem says. -/
import Derived.Test.YtjfmpgohkjoneaaGreatDoorPsStreamB
import Derived.Test.YtjfmpgohkjoneaaGreatDoorPsRepB
set_option linter.unusedSimpArgs false
set_option linter.unusedVariables false
namespace Go.Proofs.YtjfmpgohkjoneaaGreatDoor
open Go Go.RowKit

theorem ExtS.grownBy {s : Nat} {a b : World} (h : ExtS s a b) : a.grownBy b (some s) := ⟨h.1, h.2.1, h.2.2.1, h.2.2.2.1, fun k hk hn => h.2.2.2.2 k hk fun e => hn (by rw [e])⟩
theorem own_extS {s : Nat} {a b : World} (h : ExtS s a b) {base : Nat} {e : TypeId} {k n : Nat} {v : Value} {xs : List Value} (hs : s < base) (ho : a.ownsRow base e k v n xs) : b.ownsRow base e k v n xs :=
  ho.kept h.grownBy (.inr fun hv => by have := (ho.lt s hv).1; omega)
theorem ExtS.app {s : Nat} {a b c : World} {base : Nat} {e : TypeId} {k n : Nat} {v : Value} {xs : List Value} (h : ExtS s a b) (ho : b.ownsRow base e k v n xs) (hb : a.heap.size ≤ base) (hg : b.grownBy c v.ownBlock) : ExtS s a c :=
  ⟨hg.os.trans h.1, hg.tape.trans h.2.1, hg.output.trans h.2.2.1, Nat.le_trans h.2.2.2.1 hg.size, fun j hj hn => (hg.block j (Nat.lt_of_lt_of_le hj h.2.2.2.1) fun hv => by have := (ho.lt j hv.symm).1; omega).trans (h.2.2.2.2 j hj hn)⟩
theorem Str.app {s q : Nat} {b c : World} {base : Nat} {e : TypeId} {k n : Nat} {v : Value} {xs : List Value} (h : Str b s q) (ho : b.ownsRow base e k v n xs) (hs : s < base) (hg : b.grownBy c v.ownBlock) : Str c s q :=
  h.low fun j hj => hg.block j (Nat.lt_of_le_of_lt hj h.lt) fun hv => by have := (ho.lt j hv.symm).1; omega
theorem Slc.extS {α : Type} {k : Nat} {enc : α → List Value} {w w' : World} {s : Nat} {p : Option Addr} {n c : Nat} {xs : List α} (h : Slc k enc w p n c xs) (he : ExtS s w w') (hp : ∀ a, p = some a → a.block ≠ s) : Slc k enc w' p n c xs := by
  obtain ⟨⟨h1, h2, h3⟩, h4, h5, h6⟩ := h
  refine ⟨⟨h1, h2, fun hn => ?_⟩, h4, h5, fun a ha => let ⟨b, off, e, hb⟩ := h6 a ha; ⟨b, off, e, Nat.lt_of_lt_of_le hb he.2.2.2.1⟩⟩
  obtain ⟨b, off, rfl, hb, hE⟩ := h3 hn
  exact ⟨b, off, rfl, Nat.lt_of_lt_of_le hb he.2.2.2.1, fun i x hx j v hv => (he.cell hb (hp _ rfl) _).trans (hE i x hx j v hv)⟩
end Go.Proofs.YtjfmpgohkjoneaaGreatDoor
