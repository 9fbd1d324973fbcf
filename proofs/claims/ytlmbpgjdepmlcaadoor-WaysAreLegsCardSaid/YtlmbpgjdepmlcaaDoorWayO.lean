/- What Shortest answers, in one form; a way by another place. Conditions: as each theorem says. -/
import Derived.Test.YtlmbpgjdepmlcaaDoorWayK
namespace Go.Proofs.YtlmbpgjdepmlcaaDoor
open Go Go.RowKit

theorem minutes_cons (x : LegV) (l : List LegV) : minutesL (x :: l) = x.m + minutesL l := by simp [minutesL]
theorem minutes_bound : ∀ (xs : List LegV), (∀ x ∈ xs, 1 ≤ x.m ∧ x.m ≤ 100000000) → 0 ≤ minutesL xs ∧ minutesL xs ≤ 100000000 * xs.length
  | [], _ => by simp [minutesL]
  | x :: l, h => by
    have h1 := h x (by simp)
    have h2 := minutes_bound l fun y hy => h y (by simp [hy])
    rw [minutes_cons, List.length_cons]
    omega
theorem Chain.mem {L : List LegV} {ps : List ByteArray} {xs : List LegV} (h : Chain L ps xs) : ∀ x ∈ xs, x ∈ L := fun x hx => by
  obtain ⟨i, hi, e⟩ := List.getElem_of_mem hx
  exact (h.2 i x (by rw [List.getElem?_eq_getElem hi, e])).1
theorem Chain.bound {L : List LegV} (hL : LegsOk L) {ps : List ByteArray} {xs : List LegV} (h : Chain L ps xs) (i : Nat) (hn : xs.length ≤ 800) : 0 ≤ minutesL (xs.take i) ∧ minutesL (xs.take i) ≤ 80000000000 := by
  have h1 := minutes_bound (xs.take i) fun x hx => hL.one x (h.mem x (List.mem_of_mem_take hx))
  have h2 : (xs.take i).length ≤ 800 := by rw [List.length_take]; omega
  omega
/-- A way from a to x and one from x to t: there is one from a to t, no longer than both. -/
theorem ways_tri {L : List LegV} {a x t : ByteArray} {f g h : St} (hf : WaysOf L t f) (hg : WaysOf L x g) (hh : WaysOf L t h) {v u : Int × Int} (h1 : g a = some v) (h2 : h x = some u) : ∃ o, f a = some o ∧ o.1 ≤ v.1 + u.1 := by
  obtain ⟨v1, v2⟩ := v
  obtain ⟨u1, u2⟩ := u
  have hg1 : Inv L x g := by
    rcases hg with ⟨_, e, _⟩ | ⟨_, e⟩
    · exact e
    · rw [e] at h1; cases h1
  have hh1 : L.any (onLeg t) = true ∧ Inv L t h := by
    rcases hh with ⟨e0, e, _⟩ | ⟨_, e⟩
    · exact ⟨e0, e⟩
    · rw [e] at h2; cases h2
  have hf1 : Inv L t f ∧ Settled L f L.length := by
    rcases hf with ⟨_, e1, e2⟩ | ⟨e, _⟩
    · exact ⟨e1, e2⟩
    · rw [hh1.1] at e; cases e
  obtain ⟨o, ho, hl⟩ := settled_least hf1.1 hf1.2 ((hg1.walk a v1 v2 h1).append (hh1.2.walk x u1 u2 h2))
  refine ⟨o, ho, ?_⟩
  rw [lessW_not] at hl
  simp only at hl ⊢
  omega
/-- The way that Shortest tells. -/
def WayIs (L : List LegV) (a t : ByteArray) (n0 : Int) (q : Option Addr) (k cc : Nat) (w' : World) : Prop := ∃ (ps : List ByteArray) (xs : List LegV), Slc 1 strC w' q k cc ps ∧ Chain L ps xs ∧ minutesL xs = n0 ∧ xs.length ≤ 800 ∧ ps[0]? = some a ∧ ps[xs.length]? = some t
def WayRes (L : List LegV) (a t : ByteArray) (f : St) (n0 : Int) (q : Option Addr) (k cc : Nat) (is : Bool) (w' : World) : Prop := (is = false → f a = none) ∧ (is = true → (∃ m, f a = some (n0, m)) ∧ WayIs L a t n0 q k cc w') ∧ 0 ≤ n0 ∧ n0 ≤ 80000000000

theorem shortest_uni (p : Option Addr) (n c : Nat) (L : List LegV) (a t : ByteArray) (w : World) (hS : Slc 3 legC w p n c L) (hz : legsF L = 0) (hs : ∀ x ∈ L, x.Small) (ha : keyB a = true) (ht : keyB t = true) (ha2 : a.size ≤ 1000) (ht2 : t.size ≤ 1000) :
    Calls Tryd.prog 10 #[.slice p n c, .string a, .string t] w fun e w' => ∃ (f : St) (n0 : Int) (q : Option Addr) (k cc : Nat) (is : Bool), e = .returned (.tuple #[.int .i64 n0, .slice q k cc, .bool is, .int .i64 0]) ∧ Ext w w' ∧ WaysOf L t f ∧ WayRes L a t f n0 q k cc is w' := by
  obtain ⟨hL, -⟩ := legsF_ok hz
  refine (shortest_any p n c L a t w hS hz hs ha ht ha2 ht2).mono fun e w' ⟨f, hW, hE, hR⟩ => ?_
  rcases hR with ⟨hn, rfl⟩ | ⟨v, q, k, cc, ps, xs, hf, rfl, hSl, hC, hm, hl, h0, h1⟩
  · exact ⟨f, 0, none, 0, 0, false, rfl, hE, hW, fun _ => hn, (fun h => by cases h), by omega, by omega⟩
  · obtain ⟨v1, v2⟩ := v
    simp only at hm hl
    have hIS : Inv L t f ∧ Settled L f L.length := by
      rcases hW with ⟨_, e1, e2⟩ | ⟨_, e⟩
      · exact ⟨e1, e2⟩
      · rw [e] at hf; cases hf
    have hst := steps_le hL hIS.1 hIS.2 hf
    have hb := hC.bound hL xs.length (by omega)
    rw [List.take_length, hm] at hb
    exact ⟨f, v1, q, k, cc, true, rfl, hE, hW, (fun h => by cases h), (fun _ => ⟨⟨v2, hf⟩, ps, xs, hSl, hC, hm, by omega, h0, h1⟩), hb.1, hb.2⟩
end Go.Proofs.YtlmbpgjdepmlcaaDoor
