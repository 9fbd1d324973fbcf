/- The map of ranges, an own map whose elements are ranges; its keys, sorted. Conditions: as each theorem says. -/
import Derived.Test.YtjfmpgohkjoneaaGreatDoorPsVoE
import Derived.Test.YtjfmpgohkjoneaaGreatDoorPsMaps
import Derived.Maps.OwnSet
import Derived.StringKeys
import Derived.Shelf.SlIter.Nil
set_option linter.unusedSimpArgs false
set_option linter.unusedVariables false
namespace Go.Proofs.YtjfmpgohkjoneaaGreatDoor
open Go Go.RowKit Go.Maps Go.Sort Go.Shelf

def rngV (v : Int × Int) : Value := .agg #[.int .i64 v.1, .int .i64 v.2]
def rngD (v : Int × Int) : DataW Unit := .agg [.lit (.int .i64 v.1), .lit (.int .i64 v.2)]
def rngR : Value → Option (DataW Unit × List MemPlace)
  | .agg cs => match cs.toList with
    | [.int .i64 a, .int .i64 b] => some (.agg [.lit (.int .i64 a), .lit (.int .i64 b)], [])
    | _ => none
  | _ => none
theorem rngR_mk (v : Int × Int) : rngR (rngV v) = some (rngD v, []) := rfl
theorem rngR_inv {u : Value} {v : Int × Int} {ps : List MemPlace} (h : rngR u = some (rngD v, ps)) : u = rngV v := by
  unfold rngR at h
  split at h
  · rename_i cs
    split at h
    · rename_i a b hc
      simp only [rngD, Option.some.injEq, Prod.mk.injEq, DataW.agg.injEq, List.cons.injEq, DataW.lit.injEq, Lit.int.injEq, true_and, and_true] at h
      obtain ⟨⟨h1, h2⟩, -⟩ := h
      unfold rngV
      rw [← h1, ← h2]
      congr 1
      exact Array.toList_inj.1 hc
    · cases h
  · cases h
def keyLv (p : ByteArray) : Lit := .string p.data.toList
theorem keyLv_ne {p q : ByteArray} (h : p ≠ q) : keyLv p ≠ keyLv q := fun e => h (by
  have := Lit.string.inj e
  cases p; cases q
  simp only at this
  congr 1
  exact Array.toList_inj.1 this)
theorem keyLv_is (p : ByteArray) : WideAt.IsKeyLit (keyLv p) := trivial
theorem keyv_of {p : ByteArray} (hp : p.size ≤ 1000) : keyOf Tryz.prog 9 (.string p) = some (keyLv p) := Go.WideMaps.keyOf_string_mk Tryz.underlying9 (by unfold maxLen; omega)
theorem ownv_sized {P : Program} {k : TypeId} {R : Value → Option (DataW Unit × List MemPlace)} {w : World} {b n : Nat} {D : DataW Unit} (h : w.ownsMap P k R b n D) : w.ownsMap P k R b (Maps.size D) D := by
  obtain ⟨es, clock, hb, F, _, rfl⟩ := h
  exact ⟨es, clock, hb, F, by simp [Maps.size, length_sorted], rfl⟩

/-- An own map from names to ranges, with n entries at most. -/
def OwnR (w : World) (b n : Nat) (f : St) : Prop := ∃ D : DataW Unit, w.ownsMap Tryz.prog 9 rngR b (Maps.size D) D ∧ Maps.Tidy D ∧ (∀ p, Maps.has D (keyLv p) = (f p).isSome) ∧ (∀ p v, f p = some v → ∀ z, D.atKey (keyLv p) z = rngD v) ∧ Maps.size D ≤ n
theorem OwnR.made (w : World) : OwnR (w.alloc (.map #[] 0)) w.heap.size 0 (fun _ => none) :=
  ⟨.map [], World.ownsMap_made w _ _ _, tidy_empty, fun _ => rfl, (fun p v h => by cases h), by simp [Maps.size]⟩
theorem OwnR.lt {w : World} {b n : Nat} {f : St} (h : OwnR w b n f) : b < w.heap.size := by
  obtain ⟨D, hD, -⟩ := h
  exact hD.lt
theorem OwnR.grown {w w' : World} {b n : Nat} {f : St} (h : OwnR w b n f) {row : Option Nat} (hg : w.grownBy w' row) (hne : some b ≠ row) : OwnR w' b n f := by
  obtain ⟨D, hD, h2⟩ := h
  exact ⟨D, hD.kept hg hne, h2⟩
theorem OwnR.ext {w w' : World} {b n : Nat} {f : St} (h : OwnR w b n f) (he : Ext w w') : OwnR w' b n f :=
  h.grown (row := none) ⟨he.os, he.tape, he.output, he.size, fun k hk _ => he.block k hk⟩ (by simp)
theorem zero_rng (w : World) : (zeroValue 55).run Tryz.prog w = .ok (rngV (0, 0)) w := Tryz.zeroValue55 w
theorem OwnR.atk {f : St} {D : DataW Unit} (h1 : ∀ p, Maps.has D (keyLv p) = (f p).isSome) (h2 : ∀ p v, f p = some v → ∀ z, D.atKey (keyLv p) z = rngD v) (p : ByteArray) : D.atKey (keyLv p) (rngD (0, 0)) = rngD ((f p).getD (0, 0)) := by
  cases hf : f p with
  | none => exact atKey_of_not_has (by rw [h1, hf]; rfl) _
  | some v => exact h2 p v hf _
/-- 'm[p]', both ways. -/
theorem OwnR.look_ok {w : World} {b n : Nat} {f : St} (h : OwnR w b n f) {p : ByteArray} (hp : p.size ≤ 1000) :
    (Instr.lookup 115 (.map (some b)) (.string p) true).run Tryz.prog w = .ok (.tuple #[rngV ((f p).getD (0, 0)), .bool (f p).isSome]) w := by
  obtain ⟨D, hD, hT, h1, h2, h3⟩ := h
  obtain ⟨v, ps, hrun, hv⟩ := hD.look_ok (string_keyed Tryz.underlying9) Tryz.underlying115 (zero_rng w) (rngR_mk (0, 0)) (keyv_of hp)
  rw [OwnR.atk h1 h2] at hv
  rw [hrun, rngR_inv hv, h1]
theorem OwnR.look {w : World} {b n : Nat} {f : St} (h : OwnR w b n f) {p : ByteArray} (hp : p.size ≤ 1000) :
    (Instr.lookup 115 (.map (some b)) (.string p) false).run Tryz.prog w = .ok (rngV ((f p).getD (0, 0))) w := by
  obtain ⟨D, hD, hT, h1, h2, h3⟩ := h
  obtain ⟨v, ps, hrun, hv⟩ := hD.lookup (string_keyed Tryz.underlying9) Tryz.underlying115 (zero_rng w) (rngR_mk (0, 0)) (keyv_of hp)
  rw [OwnR.atk h1 h2] at hv
  rw [hrun, rngR_inv hv]
/-- 'm[p] = v'. -/
theorem OwnR.put {w : World} {b n : Nat} {f : St} (h : OwnR w b n f) {p : ByteArray} (hp : p.size ≤ 1000) (hn : n ≤ 1000) (v : Int × Int) :
    ∃ w', (Instr.mapUpdate 115 (.map (some b)) (.string p) (rngV v)).run Tryz.prog w = .ok () w' ∧ OwnR w' b (n + 1) (f.upd p v) ∧ w.grownBy w' (some b) := by
  obtain ⟨D, hD, hT, h1, h2, h3⟩ := h
  obtain ⟨w', hrun, hD', hg⟩ := hD.update (string_keyed Tryz.underlying9) Tryz.underlying115 (by unfold maxLen; omega) (keyv_of hp) (rngR_mk v)
  refine ⟨w', hrun, ⟨_, ownv_sized hD', hT.put (keyLv_is p) _, fun q => ?_, fun q u hq z => ?_, ?_⟩, hg⟩
  · by_cases e : q = p
    · subst e; rw [has_put_same hT.isMap (keyLv_is q), St.upd_same]; rfl
    · rw [has_put_other (keyLv_ne e), St.upd_other _ _ e]; exact h1 q
  · by_cases e : q = p
    · subst e; rw [St.upd_same] at hq; cases hq; exact atKey_put_same hT.isMap (keyLv_is q) _ _
    · rw [St.upd_other _ _ e] at hq; rw [atKey_put_other (keyLv_ne e)]; exact h2 q u hq z
  · rw [size_put hT]
    split <;> omega

/-! ### the keys, sorted -/
end Go.Proofs.YtjfmpgohkjoneaaGreatDoor
