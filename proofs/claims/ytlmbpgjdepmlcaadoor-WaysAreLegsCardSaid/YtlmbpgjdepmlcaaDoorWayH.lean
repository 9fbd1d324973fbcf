/- A leg that goes on, found in the row of legs. Conditions: as each theorem says. -/
import Derived.Test.YtlmbpgjdepmlcaaDoorWayG
namespace Go.Proofs.YtlmbpgjdepmlcaaDoor
open Go Go.RowKit

theorem idx_or {α : Type} (p : α → Bool) (d : α) : ∀ (l : List α) (i : Nat), (Lib.idxByFrom (fun _ y => p y) d l i = -1 ∧ ∀ x ∈ l, p x = false) ∨ ∃ k x, l[k]? = some x ∧ p x = true ∧ Lib.idxByFrom (fun _ y => p y) d l i = ((i + k : Nat) : Int)
  | [], _ => .inl ⟨rfl, fun x hx => by cases hx⟩
  | y :: r, i => by
    unfold Lib.idxByFrom
    cases h : p y
    · rcases idx_or p d r (i + 1) with ⟨h1, h2⟩ | ⟨k, x, hx, hp, e⟩
      · refine .inl ⟨by simpa using h1, fun x hx => ?_⟩
        rcases List.mem_cons.1 hx with e | hx
        · subst e; exact h
        · exact h2 x hx
      · refine .inr ⟨k + 1, x, hx, hp, ?_⟩
        simp only [Bool.false_eq_true, if_false]
        rw [e]
        congr 1
        omega
    · exact .inr ⟨0, y, rfl, h, by simp⟩
abbrev FLeg := {x : LegV // x.Fine}
instance : Inhabited FLeg := ⟨⟨⟨⟨#[]⟩, ⟨#[]⟩, 1⟩, by decide, by decide, by decide, by decide⟩⟩

theorem legIdx_any (pred : LegV → Bool) (g : FuncId) (lb : Array Value) (eg : ∀ args w, (callFunc g args).run Tryd.prog w = .ok (.enter g args) w) (b off n c : Nat) (L : List LegV) (w : World) (hf : ∀ x ∈ L, x.Fine)
    (hp : ∀ (W : World) (y : LegV), y.Fine → Ext w W → Calls Tryd.prog g (#[.agg #[.string y.fr, .string y.to, .int .i64 y.m]] ++ lb) W fun e w' => e = .returned (.bool (pred y)) ∧ Ext W w') (hn : n = L.length) (hl : L.length ≤ 1000) (hb : b < w.heap.size) (hE : Elems 3 legC w b off L) :
    Calls Tryd.prog 11 #[.slice (some ⟨b, off, none⟩) n c, .func (.func g) #[] lb] w fun e w' => ∃ i : Int, e = .returned (.int .i64 i) ∧ Ext w w' ∧ ((i = -1 ∧ ∀ x ∈ L, pred x = false) ∨ ∃ (k : Nat) (x : LegV), L[k]? = some x ∧ pred x = true ∧ i = (k : Int)) := by
  have hlen : (L.pmap Subtype.mk hf).length = L.length := by simp
  have hat : ∀ j (hj : j < (L.pmap (Subtype.mk (p := LegV.Fine)) hf).length), ((L.pmap (Subtype.mk (p := LegV.Fine)) hf)[j]'hj).1 = L[j]'(by simpa using hj) := fun j hj => by simp
  have := AnyQ.slices_IndexFunc (α := FLeg) Tryd.lqiLeg 3 Tryd.isAgg37 Tryd.sizeOf37 (fun x => legC x.1) (fun x => legC_len x.1) (fun x => pred x.1) g lb eg b off n c (L.pmap Subtype.mk hf) w
    (fun W y hW => (hp W y.1 y.2 hW).mono fun e w' h => ⟨h.1, Ext.trans hW h.2⟩) (by rw [hlen]; omega) (by omega) hb (fun j hj i v hi => by
      rw [getElem!_pos _ j hj] at hi
      rw [hat j hj] at hi
      exact hE j _ (List.getElem?_eq_getElem _) i v hi)
  refine this.mono fun e w' h => ⟨_, h.1, h.2, ?_⟩
  rw [List.take_of_length_le (by rw [hlen]; omega)]
  unfold Lib.idxBy
  rcases idx_or (fun x : FLeg => pred x.1) default (L.pmap Subtype.mk hf) 0 with ⟨h1, h2⟩ | ⟨k, x, hx, hpx, e⟩
  · refine .inl ⟨h1, fun x hx => ?_⟩
    exact h2 ⟨x, hf x hx⟩ (by rw [List.mem_pmap]; exact ⟨x, hx, rfl⟩)
  · refine .inr ⟨k, x.1, ?_, hpx, by rw [e, Nat.zero_add]⟩
    obtain ⟨hk, ek⟩ := List.getElem?_eq_some_iff.1 hx
    rw [List.getElem?_eq_getElem (by rw [← hlen]; exact hk), ← hat k hk, ek]
end Go.Proofs.YtlmbpgjdepmlcaaDoor
