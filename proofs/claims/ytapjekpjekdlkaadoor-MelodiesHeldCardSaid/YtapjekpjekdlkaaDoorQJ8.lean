/- More of the stream: flips, ranges, picks. Conditions: as each theorem says. More of the stream: picks within bounds, strings; rows of the call's own beside a stream. Conditions: as each theorem says. The greatest common divisor, how often a prime is in a number, by both texts. Conditions: as each theorem says. All that was there stands, and no fewer questions were drawn: what a comparison within a sort leaves. Conditions: none. The interval of a quotient, by both texts. Conditions: as each theorem says. -/
import Derived.Test.YtapjekpjekdlkaaDoorQStream
import Derived.Test.YtapjekpjekdlkaaDoorQJ6
import Derived.Test.YtapjekpjekdlkaaDoorQJ5
import Derived.Test.YtapjekpjekdlkaaDoorQJ2
import Derived.Sort.Grow
import Derived.Test.YtapjekpjekdlkaaDoorQMathA
set_option linter.unusedSimpArgs false
set_option linter.unusedVariables false
namespace Go.Proofs.YtapjekpjekdlkaaDoor
open Go Go.RowKit

end Go.Proofs.YtapjekpjekdlkaaDoor

namespace Go.Proofs.YtapjekpjekdlkaaDoor
open Go Go.RowKit

theorem ExtS.grownBy {s : Nat} {a b : World} (h : ExtS s a b) : a.grownBy b (some s) := ⟨h.1, h.2.1, h.2.2.1, h.2.2.2.1, fun k hk hn => h.2.2.2.2 k hk fun e => hn (by rw [e])⟩
theorem own_extS {s : Nat} {a b : World} (h : ExtS s a b) {base : Nat} {e : TypeId} {k n : Nat} {v : Value} {xs : List Value} (hs : s < base) (ho : a.ownsRow base e k v n xs) : b.ownsRow base e k v n xs :=
  ho.kept h.grownBy (.inr fun hv => by have := (ho.lt s hv).1; omega)
theorem ExtS.app {s : Nat} {a b c : World} {base : Nat} {e : TypeId} {k n : Nat} {v : Value} {xs : List Value} (h : ExtS s a b) (ho : b.ownsRow base e k v n xs) (hb : a.heap.size ≤ base) (hg : b.grownBy c v.ownBlock) : ExtS s a c :=
  ⟨hg.os.trans h.1, hg.tape.trans h.2.1, hg.output.trans h.2.2.1, Nat.le_trans h.2.2.2.1 hg.size, fun j hj hn => (hg.block j (Nat.lt_of_lt_of_le hj h.2.2.2.1) fun hv => by have := (ho.lt j hv.symm).1; omega).trans (h.2.2.2.2 j hj hn)⟩
theorem Str.app {s q : Nat} {b c : World} {base : Nat} {e : TypeId} {k n : Nat} {v : Value} {xs : List Value} (h : Str b s q) (ho : b.ownsRow base e k v n xs) (hs : s < base) (hg : b.grownBy c v.ownBlock) : Str c s q :=
  h.low fun j hj => hg.block j (Nat.lt_of_le_of_lt hj h.lt) fun hv => by have := (ho.lt j hv.symm).1; omega
theorem Slc.extS {α : Type} {k : Nat} {enc : α → List Value} {w w' : World} {s : Nat} {p : Option Addr} {n c : Nat} {xs : List α} (h : Slc k enc w p n c xs) (he : ExtS s w w') (hp : ∀ a, p = some a → a.block ≠ s) : Slc k enc w' p n c xs := by
  obtain ⟨⟨h1, h2, h3⟩, h4, h5, h6⟩ := h
  refine ⟨⟨h1, h2, fun hn => ?_⟩, h4, h5, fun a ha => let ⟨b, off, e, hb⟩ := h6 a ha; ⟨b, off, e, Nat.lt_of_lt_of_le hb he.2.2.2.1⟩⟩
  obtain ⟨b, off, rfl, hb, hE⟩ := h3 hn
  exact ⟨b, off, rfl, Nat.lt_of_lt_of_le hb he.2.2.2.1, fun i x hx j v hv => (he.cell hb (hp _ rfl) _).trans (hE i x hx j v hv)⟩
end Go.Proofs.YtapjekpjekdlkaaDoor

namespace Go.Proofs.YtapjekpjekdlkaaDoor
open Go Go.RowKit

end Go.Proofs.YtapjekpjekdlkaaDoor

namespace Go.Proofs.YtapjekpjekdlkaaDoor
open Go Go.RowKit Go.Sort

/-- As Ext, with what was drawn. -/
structure ExtD (w w' : World) : Prop where
  e : Ext w w'
  d : w.drawn ≤ w'.drawn
instance {w w' : World} : Coe (ExtD w w') (Ext w w') := ⟨ExtD.e⟩
theorem ExtD.refl (w : World) : ExtD w w := ⟨Ext.refl w, Nat.le_refl _⟩
theorem ExtD.trans {a b c : World} (h : ExtD a b) (k : ExtD b c) : ExtD a c := ⟨h.e.trans k.e, Nat.le_trans h.d k.d⟩
theorem ExtD.drew {a b : World} (h : ExtD a b) : ExtD a b.drew := ⟨h.e.drew, Nat.le_succ_of_le h.d⟩
theorem ExtD.alloc {a b : World} (h : ExtD a b) (o : Obj) : ExtD a (b.alloc o) := ⟨h.e.alloc o, h.d⟩
theorem ExtD.setCell {a b : World} (h : ExtD a b) {p : Addr} (hp : a.heap.size ≤ p.block) (u : Value) : ExtD a (b.setCell p u) := ⟨h.e.setCell hp u, h.d⟩
theorem ExtD.size {a b : World} (h : ExtD a b) : a.heap.size ≤ b.heap.size := h.e.size
theorem ExtD.walk {W w' : World} (h : ExtD W w') : (∀ b o, b < W.heap.size → w'.cell? ⟨b, o, none⟩ = W.cell? ⟨b, o, none⟩) ∧ (∀ b o, b < W.heap.size → w'.frozen? ⟨b, o, none⟩ = W.frozen? ⟨b, o, none⟩) ∧ W.heap.size ≤ w'.heap.size := h.e.walk
/-- Blocks were laid behind all, and questions drawn. -/
theorem ExtD.grow {w w' : World} (h : ExtD w w') : ∃ q os', w' = grow (w.drewN q) os' := by
  obtain ⟨⟨h1, h2, h3, h4, h5⟩, h6⟩ := h
  refine ⟨w'.drawn - w.drawn, w'.heap.extract w.heap.size w'.heap.size, ?_⟩
  have hh : w'.heap = w.heap ++ w'.heap.extract w.heap.size w'.heap.size := by
    apply Array.ext_getElem?
    intro i
    rw [Array.getElem?_append]
    by_cases hi : i < w.heap.size
    · rw [if_pos hi]; exact h5 i hi
    · rw [if_neg hi, Array.getElem?_extract]
      simp only [Nat.min_self]
      by_cases h7 : i < w'.heap.size
      · rw [if_pos (by omega)]
        congr 1
        omega
      · rw [if_neg (by omega), Array.getElem?_eq_none (by omega)]
  cases w'
  simp only at h1 h2 h3 h4 h6 hh
  unfold Sort.grow World.drewN
  simp only [World.mk.injEq]
  exact ⟨hh, h2, by omega, h1, h3⟩
end Go.Proofs.YtapjekpjekdlkaaDoor

namespace Go.Proofs.YtapjekpjekdlkaaDoor
open Go Go.RowKit

set_option maxRecDepth 100000 in
theorem primesD_any (w : World) :
    Calls Tryd.prog 74 #[] w fun e w' => e = .returned (.agg #[.int .i64 2, .int .i64 3, .int .i64 5, .int .i64 7]) ∧ ExtD w w' := by
  go_enter Tryd.func74, Tryd.ntmps74
  go_wp2
  go_light
  exact bodyPost_ret (v := .agg #[.int .i64 2, .int .i64 3, .int .i64 5, .int .i64 7]) (by simp [results, Tryd.results74, go_sem]) rfl ⟨rfl, (by (repeat (with_reducible first | assumption | exact ExtD.refl _ | refine ExtD.drew ?_ | refine ExtD.alloc ?_ _ | refine ExtD.setCell ?_ (by simp <;> omega) _ | refine ExtD.trans ?_ (by assumption))))⟩
/-- The interval that a quotient gives, if it is one. -/
def ofI (n d : Nat) : I4 := ⟨(expK n 0 : Int) - expK d 0, (expK n 1 : Int) - expK d 1, (expK n 2 : Int) - expK d 2, (expK n 3 : Int) - expK d 3⟩
end Go.Proofs.YtapjekpjekdlkaaDoor
