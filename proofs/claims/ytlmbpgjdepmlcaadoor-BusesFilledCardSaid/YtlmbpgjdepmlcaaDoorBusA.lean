/- What is wrong with groups, by both texts. Conditions: sizes. -/
import Derived.Test.YtlmbpgjdepmlcaaDoorBusM
import Derived.Test.YtlmbpgjdepmlcaaDoorWayA
namespace Go.Proofs.YtlmbpgjdepmlcaaDoor
open Go Go.RowKit

structure GrpV where
  name : ByteArray
  many : Int
instance : Inhabited GrpV := ⟨⟨⟨#[]⟩, 0⟩⟩
def grpC (x : GrpV) : List Value := [.string x.name, .int .i64 x.many]
theorem grpC_len (x : GrpV) : (grpC x).length = 2 := rfl
theorem grp_one (x : GrpV) : ∀ u ∈ grpC x, u.oneCell' = true := by simp [grpC, Value.oneCell']
theorem Elems.grp {w : World} {b off : Nat} {xs : List GrpV} (h : Elems 2 grpC w b off xs) {i : Nat} {x : GrpV} (hx : xs[i]? = some x) :
    w.cell? ⟨b, off + i * 2, none⟩ = some (.string x.name) ∧ w.cell? ⟨b, off + i * 2 + 1, none⟩ = some (.int .i64 x.many) :=
  ⟨h i x hx 0 _ rfl, h i x hx 1 _ rfl⟩
def GrpV.Small (x : GrpV) : Prop := x.name.size ≤ 1000 ∧ -1099511627776 ≤ x.many ∧ x.many ≤ 1099511627776

def chkGrp (xs : List GrpV) (i : Nat) : Int :=
  if keyB (atL default xs i).name then (if inB (atL default xs i).many 1 100 then (if 0 < i && leB (atL default xs i).name (atL default xs (i - 1)).name then 7 else 0) else 1) else 5
def groupsF (xs : List GrpV) : Int := if 12 < xs.length then 2 else scanF xs.length (chkGrp xs)

/-! ### names rise -/
def le2 (a b : List UInt8) : Bool := Op.bytesLess a b || a == b
theorem le2_self : ∀ a : List UInt8, le2 a a = true := fun a => by simp [le2]
theorem le2_cons (x y : UInt8) (a b : List UInt8) : le2 (x :: a) (y :: b) = false ↔ ¬ x < y ∧ (x = y → le2 a b = false) := by
  unfold le2
  simp only [Op.bytesLess, Bool.or_eq_false_iff, decide_eq_false_iff_not, Bool.and_eq_false_iff, beq_eq_false_iff_ne, ne_eq, List.cons.injEq, not_and]
  constructor
  · rintro ⟨⟨h1, h2⟩, h3⟩
    exact ⟨h1, fun e => ⟨h2.resolve_left fun h => h e, h3 e⟩⟩
  · rintro ⟨h1, h2⟩
    refine ⟨⟨h1, ?_⟩, fun e => (h2 e).2⟩
    rcases (inferInstance : Decidable (x = y)) with e | e
    · exact .inl e
    · exact .inr (h2 e).1
theorem le2_trans : ∀ {a b c : List UInt8}, le2 a b = false → le2 b c = false → le2 a c = false
  | [], b, _, h1, _ => by cases b <;> simp [le2, Op.bytesLess] at h1
  | _ :: _, [], c, _, h2 => by cases c <;> simp [le2, Op.bytesLess] at h2
  | _ :: _, _ :: _, [], _, _ => rfl
  | x :: a, y :: b, z :: c, h1, h2 => by
    rw [le2_cons] at h1 h2 ⊢
    obtain ⟨p1, q1⟩ := h1
    obtain ⟨p2, q2⟩ := h2
    have k1 : ¬ x.toNat < y.toNat := p1
    have k2 : ¬ y.toNat < z.toNat := p2
    refine ⟨fun h => ?_, fun e => ?_⟩
    · have k3 : x.toNat < z.toNat := h
      omega
    · subst e
      have e1 : x = y := UInt8.toNat_inj.1 (by omega)
      subst e1
      exact le2_trans (q1 rfl) (q2 rfl)
theorem names_rise {L : List GrpV} (h : ∀ i x y, L[i]? = some x → L[i + 1]? = some y → le2 y.name.toList x.name.toList = false) : ∀ (d i : Nat) (x y : GrpV), L[i]? = some x → L[i + 1 + d]? = some y → le2 y.name.toList x.name.toList = false
  | 0, i, x, y, hx, hy => h i x y hx hy
  | d + 1, i, x, y, hx, hy => by
    have hl := (List.getElem?_eq_some_iff.1 hy).1
    have hz : L[i + 1 + d]? = some L[i + 1 + d] := List.getElem?_eq_getElem (by omega)
    exact le2_trans (h (i + 1 + d) _ y hz (by rw [← hy]; congr 1)) (names_rise h d i x _ hx hz)
structure GrpsOk (L : List GrpV) : Prop where
  len : L.length ≤ 12
  one : ∀ x ∈ L, 1 ≤ x.many ∧ x.many ≤ 100
  rise : ∀ i x y, L[i]? = some x → L[i + 1]? = some y → le2 y.name.toList x.name.toList = false
theorem GrpsOk.names {L : List GrpV} (h : GrpsOk L) {i j : Nat} {x y : GrpV} (hx : L[i]? = some x) (hy : L[j]? = some y) (e : x.name = y.name) : i = j := by
  rcases Nat.lt_trichotomy i j with h1 | h1 | h1
  · obtain ⟨d, rfl⟩ : ∃ d, j = i + 1 + d := ⟨j - (i + 1), by omega⟩
    have := names_rise h.rise d i x y hx hy
    rw [e, le2_self] at this
    cases this
  · exact h1
  · obtain ⟨d, rfl⟩ : ∃ d, i = j + 1 + d := ⟨i - (j + 1), by omega⟩
    have := names_rise h.rise d j y x hy hx
    rw [e, le2_self] at this
    cases this
theorem groupsF_ok {xs : List GrpV} (h : groupsF xs = 0) : GrpsOk xs := by
  unfold groupsF at h
  have hl : xs.length ≤ 12 := by
    rcases Nat.lt_or_ge 12 xs.length with h1 | h1
    · rw [if_pos h1] at h; cases h
    · exact h1
  rw [if_neg (by omega)] at h
  have hz := scan_all h
  have hat : ∀ i x, xs[i]? = some x → inB x.many 1 100 = true ∧ (0 < i → leB x.name (atL default xs (i - 1)).name = false) := by
    intro i x hx
    have h0 := hz i (List.getElem?_eq_some_iff.1 hx).1
    unfold chkGrp at h0
    rw [atL_of hx] at h0
    cases k1 : keyB x.name
    · rw [k1] at h0; simp at h0
    cases k2 : inB x.many 1 100
    · rw [k1, k2] at h0; simp at h0
    refine ⟨rfl, fun hi => ?_⟩
    cases k3 : leB x.name (atL default xs (i - 1)).name
    · rfl
    · rw [k1, k2, k3] at h0; simp [hi] at h0
  refine ⟨hl, fun x hx => ?_, fun i x y hx hy => ?_⟩
  · obtain ⟨i, hi, e⟩ := List.getElem_of_mem hx
    have := (hat i x (by rw [List.getElem?_eq_getElem hi, e])).1
    unfold inB at this
    simp at this
    exact this
  · have := (hat (i + 1) y hy).2 (by omega)
    rw [Nat.add_sub_cancel, atL_of hx] at this
    exact this
end Go.Proofs.YtlmbpgjdepmlcaaDoor
