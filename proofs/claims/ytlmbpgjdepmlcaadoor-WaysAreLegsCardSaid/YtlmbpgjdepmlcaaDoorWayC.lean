/- The map of the shortest ways: an own map whose elements are pairs. Conditions: as each theorem says. -/
import Derived.Test.YtlmbpgjdepmlcaaDoorWayA
import Derived.Test.YtlmbpgjdepmlcaaDoorMaps
import Derived.Maps.OwnSet
import Derived.StringKeys
namespace Go.Proofs.YtlmbpgjdepmlcaaDoor
open Go Go.RowKit Go.Maps

def wayV (v : Int × Int) : Value := .agg #[.int .i64 v.1, .int .i64 v.2]
def wayD (v : Int × Int) : DataW Unit := .agg [.lit (.int .i64 v.1), .lit (.int .i64 v.2)]
def wayR : Value → Option (DataW Unit × List MemPlace)
  | .agg cs => match cs.toList with
    | [.int .i64 a, .int .i64 b] => some (.agg [.lit (.int .i64 a), .lit (.int .i64 b)], [])
    | _ => none
  | _ => none
theorem wayR_mk (v : Int × Int) : wayR (wayV v) = some (wayD v, []) := rfl
theorem wayR_inv {u : Value} {v : Int × Int} {ps : List MemPlace} (h : wayR u = some (wayD v, ps)) : u = wayV v := by
  unfold wayR at h
  split at h
  · rename_i cs
    split at h
    · rename_i a b hc
      simp only [wayD, Option.some.injEq, Prod.mk.injEq, DataW.agg.injEq, List.cons.injEq, DataW.lit.injEq, Lit.int.injEq, true_and, and_true] at h
      obtain ⟨⟨h1, h2⟩, -⟩ := h
      unfold wayV
      rw [← h1, ← h2]
      congr 1
      exact Array.toList_inj.1 hc
    · cases h
  · cases h

def keyL (p : ByteArray) : Lit := .string p.data.toList
theorem keyL_ne {p q : ByteArray} (h : p ≠ q) : keyL p ≠ keyL q := fun e => h (by
  have := Lit.string.inj e
  cases p; cases q
  simp only at this
  congr 1
  exact Array.toList_inj.1 this)
theorem keyL_is (p : ByteArray) : WideAt.IsKeyLit (keyL p) := trivial
theorem key_of {p : ByteArray} (hp : p.size ≤ 1000) : keyOf Tryd.prog 9 (.string p) = some (keyL p) := Go.WideMaps.keyOf_string_mk Tryd.underlying9 (by unfold maxLen; omega)

def OwnW (w : World) (b : Nat) (l : List ByteArray) (f : St) : Prop := ∃ D : DataW Unit, w.ownsMap Tryd.prog 9 wayR b (Maps.size D) D ∧ Maps.Tidy D ∧ (∀ p, Maps.has D (keyL p) = (f p).isSome) ∧ (∀ p v, f p = some v → ∀ z, D.atKey (keyL p) z = wayD v) ∧ Maps.size D + absent f l ≤ l.length
theorem own_sized {P : Program} {k : TypeId} {R : Value → Option (DataW Unit × List MemPlace)} {w : World} {b n : Nat} {D : DataW Unit} (h : w.ownsMap P k R b n D) : w.ownsMap P k R b (Maps.size D) D := by
  obtain ⟨es, clock, hb, F, _, rfl⟩ := h
  exact ⟨es, clock, hb, F, by simp [Maps.size, length_sorted], rfl⟩
theorem OwnW.made (w : World) (l : List ByteArray) : OwnW (w.alloc (.map #[] 0)) w.heap.size l (fun _ => none) :=
  ⟨.map [], World.ownsMap_made w _ _ _, tidy_empty, fun _ => rfl, (fun p v h => by cases h), by have := absent_le (fun _ => none) l; simpa [Maps.size] using this⟩
theorem OwnW.lt {w : World} {b : Nat} {l : List ByteArray} {f : St} (h : OwnW w b l f) : b < w.heap.size := by
  obtain ⟨D, hD, -⟩ := h
  exact hD.lt
theorem OwnW.grown {w w' : World} {b : Nat} {l : List ByteArray} {f : St} (h : OwnW w b l f) {row : Option Nat} (hg : w.grownBy w' row) (hne : some b ≠ row) : OwnW w' b l f := by
  obtain ⟨D, hD, h2⟩ := h
  exact ⟨D, hD.kept hg hne, h2⟩
theorem OwnW.ext {w w' : World} {b : Nat} {l : List ByteArray} {f : St} (h : OwnW w b l f) (he : Ext w w') : OwnW w' b l f := by
  obtain ⟨D, hD, h2⟩ := h
  exact ⟨D, hD.kept (row := none) ⟨he.os, he.tape, he.output, he.size, fun k hk _ => he.block k hk⟩ (by simp), h2⟩

theorem zero_way (w : World) : (zeroValue 80).run Tryd.prog w = .ok (wayV (0, 0)) w := Tryd.zeroValue80 w
theorem OwnW.atk {w : World} {b : Nat} {l : List ByteArray} {f : St} {D : DataW Unit} (h1 : ∀ p, Maps.has D (keyL p) = (f p).isSome) (h2 : ∀ p v, f p = some v → ∀ z, D.atKey (keyL p) z = wayD v) (p : ByteArray) : D.atKey (keyL p) (wayD (0, 0)) = wayD ((f p).getD (0, 0)) := by
  cases hf : f p with
  | none => exact atKey_of_not_has (by rw [h1, hf]; rfl) _
  | some v => exact h2 p v hf _
/-- 'm[p]', both ways. -/
theorem OwnW.look_ok {w : World} {b : Nat} {l : List ByteArray} {f : St} (h : OwnW w b l f) {p : ByteArray} (hp : p.size ≤ 1000) :
    (Instr.lookup 77 (.map (some b)) (.string p) true).run Tryd.prog w = .ok (.tuple #[wayV ((f p).getD (0, 0)), .bool (f p).isSome]) w := by
  obtain ⟨D, hD, hT, h1, h2, h3⟩ := h
  obtain ⟨v, ps, hrun, hv⟩ := hD.look_ok (string_keyed Tryd.underlying9) Tryd.underlying77 (zero_way w) (wayR_mk (0, 0)) (key_of hp)
  rw [OwnW.atk (w := w) (b := b) (l := l) h1 h2] at hv
  rw [hrun, wayR_inv hv, h1]
theorem OwnW.look {w : World} {b : Nat} {l : List ByteArray} {f : St} (h : OwnW w b l f) {p : ByteArray} (hp : p.size ≤ 1000) :
    (Instr.lookup 77 (.map (some b)) (.string p) false).run Tryd.prog w = .ok (wayV ((f p).getD (0, 0))) w := by
  obtain ⟨D, hD, hT, h1, h2, h3⟩ := h
  obtain ⟨v, ps, hrun, hv⟩ := hD.lookup (string_keyed Tryd.underlying9) Tryd.underlying77 (zero_way w) (wayR_mk (0, 0)) (key_of hp)
  rw [OwnW.atk (w := w) (b := b) (l := l) h1 h2] at hv
  rw [hrun, wayR_inv hv]
/-- 'm[p] = v'. -/
theorem OwnW.put {w : World} {b : Nat} {l : List ByteArray} {f : St} (h : OwnW w b l f) {p : ByteArray} (hp : p.size ≤ 1000) (hl : p ∈ l) (hn : l.length ≤ 1000) (v : Int × Int) :
    ∃ w', (Instr.mapUpdate 77 (.map (some b)) (.string p) (wayV v)).run Tryd.prog w = .ok () w' ∧ OwnW w' b l (f.upd p v) ∧ w.grownBy w' (some b) := by
  obtain ⟨D, hD, hT, h1, h2, h3⟩ := h
  obtain ⟨w', hrun, hD', hg⟩ := hD.update (string_keyed Tryd.underlying9) Tryd.underlying77 (by unfold maxLen; omega) (key_of hp) (wayR_mk v)
  refine ⟨w', hrun, ⟨_, own_sized hD', hT.put (keyL_is p) _, fun q => ?_, fun q u hq z => ?_, ?_⟩, hg⟩
  · by_cases e : q = p
    · subst e; rw [has_put_same hT.isMap (keyL_is q), St.upd_same]; rfl
    · rw [has_put_other (keyL_ne e), St.upd_other _ _ e]; exact h1 q
  · by_cases e : q = p
    · subst e; rw [St.upd_same] at hq; cases hq; exact atKey_put_same hT.isMap (keyL_is q) _ _
    · rw [St.upd_other _ _ e] at hq; rw [atKey_put_other (keyL_ne e)]; exact h2 q u hq z
  · rw [size_put hT]
    split
    · have := absent_mono f p v l; omega
    · rename_i hh
      have hf : f p = none := by
        rw [h1] at hh
        cases hfp : f p with
        | none => rfl
        | some u => rw [hfp] at hh; exact absurd rfl hh
      have := absent_new f p v hf l hl
      omega
end Go.Proofs.YtlmbpgjdepmlcaaDoor
