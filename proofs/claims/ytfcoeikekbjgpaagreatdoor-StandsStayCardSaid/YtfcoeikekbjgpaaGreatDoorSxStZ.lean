/- Stands that the stream makes. Conditions: sizes. -/
import Derived.Test.YtfcoeikekbjgpaaGreatDoorSxStY
set_option linter.unusedSimpArgs false
set_option linter.unusedVariables false
namespace Go.Proofs.YtfcoeikekbjgpaaGreatDoor
open Go Go.RowKit

theorem staInfo : (Tryz.prog.info? 48).map (fun i => (i.zero, i.size, i.bytes)) = some (some (.agg #[.string ⟨#[]⟩, .int .i64 0, .int .i64 0]), 3, 32) := by kernel_rfl
theorem sta_one (x : StandV) : ∀ u ∈ staC x, u.oneCell' = true := by simp [staC, Value.oneCell']
theorem sta_mod3 {w : World} {base g n cap : Nat} {xs : List StandV} (h : w.ownsRow base 48 3 (.slice (some ⟨g, 0, none⟩) n cap) n (xs.flatMap staC)) {i : Nat} {x : StandV} (hx : xs[i]? = some x) (nm : ByteArray) (m1 m2 : Int) :
    (((w.setCell ⟨g, i * 3, none⟩ (.string nm)).setCell ⟨g, i * 3 + 1, none⟩ (.int .i64 m1)).setCell ⟨g, i * 3 + 2, none⟩ (.int .i64 m2)).ownsRow base 48 3 (.slice (some ⟨g, 0, none⟩) n cap) n ((xs.set i ⟨nm, m1, m2⟩).flatMap staC) := by
  have hi := (List.getElem?_eq_some_iff.1 hx).1
  have hs : ∀ y : StandV, (xs.set i y)[i]? = some y := fun y => List.getElem?_set_self hi
  have h1 := own_set1 staC_len h ⟨nm, x.row, x.place⟩ hx 0 (by decide) (.string nm) rfl
  have h2 := own_set1 staC_len h1 ⟨nm, m1, x.place⟩ (hs _) 1 (by decide) (.int .i64 m1) rfl
  rw [List.set_set] at h2
  have h3 := own_set1 staC_len h2 ⟨nm, m1, m2⟩ (hs _) 2 (by decide) (.int .i64 m2) rfl
  rw [List.set_set] at h3
  exact h3
/-- Stands that are being made. -/
structure SlM (s k0 : Nat) (w : World) (base : Nat) (wr : World) (P : List PersonV) (p0 : Option Addr) (c0 lo : Nat) (v7 : Value) (po : Option Addr) (m co : Nat) (S : List StandV) : Prop where
  own : wr.ownsRow base 48 3 v7 S.length (S.flatMap staC)
  sum : S.length + m = P.length
  small : ∀ x ∈ S, x.Small
  cap : m ≤ co
  at_ : m ≠ 0 → ∃ bo off, po = some ⟨bo, off, none⟩ ∧ p0 = some ⟨bo, 0, none⟩ ∧ off + m ≤ P.length
  ord : OwG (fun x => 0 ≤ x ∧ x < P.length) wr lo p0 P.length c0
  low : s < lo ∧ s < base ∧ w.heap.size ≤ base
  szb : base ≤ wr.heap.size
  str : Str wr s k0
  ext : ExtS s w wr
theorem SlM.extS {s k0 k1 : Nat} {w : World} {base : Nat} {wr wq : World} {P : List PersonV} {p0 : Option Addr} {c0 lo : Nat} {v7 : Value} {po : Option Addr} {m co : Nat} {S : List StandV} (h : SlM s k0 w base wr P p0 c0 lo v7 po m co S) (he : ExtS s wr wq) (hs : Str wq s k1) : SlM s k1 w base wq P p0 c0 lo v7 po m co S :=
  ⟨own_extS he h.low.2.1 h.own, h.sum, h.small, h.cap, h.at_, h.ord.extS h.low.1 he, h.low, Nat.le_trans h.szb he.2.2.2.1, hs, h.ext.trans he⟩
theorem SlM.more {s k0 : Nat} {w : World} {base : Nat} {wr wq : World} {P : List PersonV} {p0 : Option Addr} {c0 lo : Nat} {v7 : Value} {po : Option Addr} {m co : Nat} {S : List StandV} (h : SlM s k0 w base wr P p0 c0 lo v7 po m co S) (he : Ext wr wq) : SlM s k0 w base wq P p0 c0 lo v7 po m co S := h.extS he.extS (h.str.ext he)

end Go.Proofs.YtfcoeikekbjgpaaGreatDoor
