/- Whether a place is on one of the legs. Conditions: as each theorem says. -/
import Derived.Test.YtlmbpgjdepmlcaaDoorWayD
import Derived.Deep.LoopGhost
namespace Go.Proofs.YtlmbpgjdepmlcaaDoor
open Go Go.RowKit

theorem slc_cases {α : Type} {k : Nat} {enc : α → List Value} {w : World} {p : Option Addr} {n c : Nat} {xs : List α} (h : Slc k enc w p n c xs) :
    n = xs.length ∧ ((p = none ∧ xs = []) ∨ ∃ b off, p = some ⟨b, off, none⟩ ∧ b < w.heap.size ∧ Elems k enc w b off xs) := by
  obtain ⟨⟨h1, h2, h3⟩, h4, h5, h6⟩ := h
  refine ⟨h1.symm, ?_⟩
  cases p with
  | none => exact .inl ⟨rfl, List.eq_nil_of_length_eq_zero (by rw [h1]; exact h5 rfl)⟩
  | some a =>
    obtain ⟨b, off, rfl, hb⟩ := h6 a rfl
    refine .inr ⟨b, off, rfl, hb, ?_⟩
    by_cases hn : n = 0
    · obtain rfl : xs = [] := List.eq_nil_of_length_eq_zero (by omega)
      intro i x hx
      cases hx
    · obtain ⟨b', off', e, _, hE⟩ := h3 hn
      cases e
      exact hE

set_option maxRecDepth 100000 in
theorem idxNone (fn : FuncId) (lb : Array Value) (c : Nat) (w : World) :
    Calls Tryd.prog 11 #[.slice none 0 c, .func (.func fn) #[] lb] w fun e w' => e = .returned (.int .i64 (-1)) ∧ Ext w w' := by
  go_enter Tryd.func11, Tryd.ntmps11
  go_wp2
  go_loopw [8] (fun i wr => i = .int .i64 0 ∧ Ext w wr) (fun i _ => (intOf i).toNat)
  case atStart => exact ⟨rfl, Ext.refl w⟩
  case round =>
    obtain ⟨rfl, he⟩ := hrel
    go_wp2
    go_ret
    exact ⟨rfl, he⟩
set_option maxRecDepth 100000 in
theorem hasNone (fn : FuncId) (lb : Array Value) (c : Nat) (w : World) :
    Calls Tryd.prog 60 #[.slice none 0 c, .func (.func fn) #[] lb] w fun e w' => e = .returned (.bool false) ∧ Ext w w' := by
  go_enter Tryd.func60, Tryd.ntmps60
  go_wp2_with (go_at_call 11; refine Calls.mono (idxNone _ _ _ _) ?_; rintro e w1 ⟨rfl, hb1⟩)
  go_ret
  exact ⟨rfl, hb1⟩
theorem waysHas (t : ByteArray) (B : Nat) (p : Option Addr) (n c : Nat) (L : List LegV) (w : World) (hB : Blk w B 9 #[.string t]) (hS : Slc 3 legC w p n c L) (hl : L.length ≤ 1000) :
    Calls Tryd.prog 60 #[.slice p n c, .func (.func 61) #[] #[.pointer (some ⟨B, 0, none⟩)]] w fun e w' => e = .returned (.bool (L.any (onLeg t))) ∧ Ext w w' := by
  obtain ⟨hn, ⟨rfl, rfl⟩ | ⟨b, off, rfl, hb, hE⟩⟩ := slc_cases hS
  · subst hn
    exact hasNone _ _ _ _
  · exact ways1Has t B b off n c L w hB hn hl hb hE

theorem bytes_beq {a b : ByteArray} : (a.toList == b.toList) = true ↔ a = b := by
  rw [ByteArray.toList_eq, ByteArray.toList_eq]
  constructor
  · intro h
    have := eq_of_beq h
    cases a; cases b
    simp only at this
    congr 1
    exact Array.toList_inj.1 this
  · rintro rfl
    exact beq_self_eq_true _
theorem on_places (t : ByteArray) (L : List LegV) : L.any (onLeg t) = true ↔ t ∈ placesL L := by
  unfold placesL onLeg
  rw [List.any_eq_true, List.mem_flatMap]
  constructor
  · rintro ⟨x, hx, h⟩
    rw [Bool.or_eq_true, bytes_beq, bytes_beq] at h
    refine ⟨x, hx, ?_⟩
    rcases h with rfl | rfl <;> simp
  · rintro ⟨x, hx, h⟩
    refine ⟨x, hx, ?_⟩
    rw [Bool.or_eq_true, bytes_beq, bytes_beq]
    simp at h
    rcases h with rfl | rfl
    · exact .inl rfl
    · exact .inr rfl
end Go.Proofs.YtlmbpgjdepmlcaaDoor
