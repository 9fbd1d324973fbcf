/- The map of ranges, an own map whose elements are ranges; its keys, sorted. Conditions: as each theorem says. -/
import Derived.Test.YtboplnogfjmpnaaGreatDoorVkVoE
import Derived.Test.YtboplnogfjmpnaaGreatDoorVkJ4
import Derived.Test.YtboplnogfjmpnaaGreatDoorVkKmA
import Derived.Maps.OwnSet
import Derived.StringKeys
import Derived.Shelf.SlIter.Nil
set_option linter.unusedSimpArgs false
set_option linter.unusedVariables false
namespace Go.Proofs.YtboplnogfjmpnaaGreatDoor
open Go Go.RowKit Go.Maps Go.Sort Go.Shelf

def rngV (v : Int × Int) : Value := .agg #[.int .i64 v.1, .int .i64 v.2]
def rngD (v : Int × Int) : DataW Unit := .agg [.lit (.int .i64 v.1), .lit (.int .i64 v.2)]
def rngR : Value → Option (DataW Unit × List MemPlace)
  | .agg cs => match cs.toList with
    | [.int .i64 a, .int .i64 b] => some (.agg [.lit (.int .i64 a), .lit (.int .i64 b)], [])
    | _ => none
  | _ => none
theorem rngR_mk (v : Int × Int) : rngR (rngV v) = some (rngD v, []) := rfl
theorem rngR_inv {u : Value} {v : Int × Int} {ps : List MemPlace} (h : rngR u = some (rngD v, ps)) : u = rngV v := by
  unfold rngR at h
  split at h
  · rename_i cs
    split at h
    · rename_i a b hc
      simp only [rngD, Option.some.injEq, Prod.mk.injEq, DataW.agg.injEq, List.cons.injEq, DataW.lit.injEq, Lit.int.injEq, true_and, and_true] at h
      obtain ⟨⟨h1, h2⟩, -⟩ := h
      unfold rngV
      rw [← h1, ← h2]
      congr 1
      exact Array.toList_inj.1 hc
    · cases h
  · cases h
def keyLv (p : ByteArray) : Lit := .string p.data.toList
theorem keyLv_ne {p q : ByteArray} (h : p ≠ q) : keyLv p ≠ keyLv q := fun e => h (by
  have := Lit.string.inj e
  cases p; cases q
  simp only at this
  congr 1
  exact Array.toList_inj.1 this)
theorem keyLv_is (p : ByteArray) : WideAt.IsKeyLit (keyLv p) := trivial
theorem keyv_of {p : ByteArray} (hp : p.size ≤ 1000) : keyOf Tryz.prog 9 (.string p) = some (keyLv p) := Go.WideMaps.keyOf_string_mk Tryz.underlying9 (by unfold maxLen; omega)
/-- An own map from names to ranges, with n entries at most. -/
def OwnR (w : World) (b n : Nat) (f : St) : Prop := ∃ D : DataW Unit, w.ownsMap Tryz.prog 9 rngR b (Maps.size D) D ∧ Maps.Tidy D ∧ (∀ p, Maps.has D (keyLv p) = (f p).isSome) ∧ (∀ p v, f p = some v → ∀ z, D.atKey (keyLv p) z = rngD v) ∧ Maps.size D ≤ n
theorem OwnR.made (w : World) : OwnR (w.alloc (.map #[] 0)) w.heap.size 0 (fun _ => none) :=
  ⟨.map [], World.ownsMap_made w _ _ _, tidy_empty, fun _ => rfl, (fun p v h => by cases h), by simp [Maps.size]⟩
theorem OwnR.lt {w : World} {b n : Nat} {f : St} (h : OwnR w b n f) : b < w.heap.size := by
  obtain ⟨D, hD, -⟩ := h
  exact hD.lt
theorem OwnR.grown {w w' : World} {b n : Nat} {f : St} (h : OwnR w b n f) {row : Option Nat} (hg : w.grownBy w' row) (hne : some b ≠ row) : OwnR w' b n f := by
  obtain ⟨D, hD, h2⟩ := h
  exact ⟨D, hD.kept hg hne, h2⟩
theorem OwnR.ext {w w' : World} {b n : Nat} {f : St} (h : OwnR w b n f) (he : Ext w w') : OwnR w' b n f :=
  h.grown (row := none) ⟨he.os, he.tape, he.output, he.size, fun k hk _ => he.block k hk⟩ (by simp)
theorem zero_rng (w : World) : (zeroValue 35).run Tryz.prog w = .ok (rngV (0, 0)) w := Tryz.zeroValue35 w
theorem OwnR.atk {f : St} {D : DataW Unit} (h1 : ∀ p, Maps.has D (keyLv p) = (f p).isSome) (h2 : ∀ p v, f p = some v → ∀ z, D.atKey (keyLv p) z = rngD v) (p : ByteArray) : D.atKey (keyLv p) (rngD (0, 0)) = rngD ((f p).getD (0, 0)) := by
  cases hf : f p with
  | none => exact atKey_of_not_has (by rw [h1, hf]; rfl) _
  | some v => exact h2 p v hf _
/-- 'm[p]', both ways. -/
theorem OwnR.look_ok {w : World} {b n : Nat} {f : St} (h : OwnR w b n f) {p : ByteArray} (hp : p.size ≤ 1000) :
    (Instr.lookup 95 (.map (some b)) (.string p) true).run Tryz.prog w = .ok (.tuple #[rngV ((f p).getD (0, 0)), .bool (f p).isSome]) w := by
  obtain ⟨D, hD, hT, h1, h2, h3⟩ := h
  obtain ⟨v, ps, hrun, hv⟩ := hD.look_ok (string_keyed Tryz.underlying9) Tryz.underlying95 (zero_rng w) (rngR_mk (0, 0)) (keyv_of hp)
  rw [OwnR.atk h1 h2] at hv
  rw [hrun, rngR_inv hv, h1]
theorem OwnR.look {w : World} {b n : Nat} {f : St} (h : OwnR w b n f) {p : ByteArray} (hp : p.size ≤ 1000) :
    (Instr.lookup 95 (.map (some b)) (.string p) false).run Tryz.prog w = .ok (rngV ((f p).getD (0, 0))) w := by
  obtain ⟨D, hD, hT, h1, h2, h3⟩ := h
  obtain ⟨v, ps, hrun, hv⟩ := hD.lookup (string_keyed Tryz.underlying9) Tryz.underlying95 (zero_rng w) (rngR_mk (0, 0)) (keyv_of hp)
  rw [OwnR.atk h1 h2] at hv
  rw [hrun, rngR_inv hv]
/-- 'm[p] = v'. -/
theorem OwnR.put {w : World} {b n : Nat} {f : St} (h : OwnR w b n f) {p : ByteArray} (hp : p.size ≤ 1000) (hn : n ≤ 1000) (v : Int × Int) :
    ∃ w', (Instr.mapUpdate 95 (.map (some b)) (.string p) (rngV v)).run Tryz.prog w = .ok () w' ∧ OwnR w' b (n + 1) (f.upd p v) ∧ w.grownBy w' (some b) := by
  obtain ⟨D, hD, hT, h1, h2, h3⟩ := h
  obtain ⟨w', hrun, hD', hg⟩ := hD.update (string_keyed Tryz.underlying9) Tryz.underlying95 (by unfold maxLen; omega) (keyv_of hp) (rngR_mk v)
  refine ⟨w', hrun, ⟨_, ownv_sized hD', hT.put (keyLv_is p) _, fun q => ?_, fun q u hq z => ?_, ?_⟩, hg⟩
  · by_cases e : q = p
    · subst e; rw [has_put_same hT.isMap (keyLv_is q), St.upd_same]; rfl
    · rw [has_put_other (keyLv_ne e), St.upd_other _ _ e]; exact h1 q
  · by_cases e : q = p
    · subst e; rw [St.upd_same] at hq; cases hq; exact atKey_put_same hT.isMap (keyLv_is q) _ _
    · rw [St.upd_other _ _ e] at hq; rw [atKey_put_other (keyLv_ne e)]; exact h2 q u hq z
  · rw [size_put hT]
    split <;> omega

/-! ### the keys, sorted -/
theorem keysR_any (mb : Option Nat) (W : World) :
    Calls Tryz.prog 56 #[.map mb] W fun e w' => e = .returned (.func (.func 88) #[] #[.pointer (some ⟨W.heap.size, 0, none⟩)]) ∧ w' = W.alloc (.cells #[.map mb] 95) :=
  (callsIn_wide (n := 5)).1 (AnyZ.keys_in Tryz.mkRange Fence.wide 5 trivial rfl mb W)
theorem sortsIn_any (m : Nat) : AnyZ.SortsIn Tryz.prog Tryz.sortedS_ren Fence.wide m :=
  ⟨fun blk off cap ss W hH hblk hsz => callsIn_wide.2 (Tryz.slices_Sort_string blk off cap ss W hH hblk hsz), fun p cap W => callsIn_wide.2 (Tryz.slices_Sort_string_none p cap W)⟩
theorem riseB {S : List ByteArray} (h : RiseN S) : srtB S = S.map fun x => x.data.toList :=
  le_uniq (srt _) (List.pairwise_map.2 (h.imp fun h => h.1)) (List.mergeSort_perm _ _)
set_option maxHeartbeats 1000000 in
theorem sortedR_any {b n : Nat} {f : St} {w : World} (h : OwnR w b n f) (hn : n ≤ 1000) (S : List ByteArray) (hS : RiseN S) (hm : ∀ p, p ∈ S ↔ (f p).isSome = true) :
    Calls Tryz.prog 55 #[.func (.func 88) #[] #[.pointer (some ⟨w.heap.size, 0, none⟩)]] (w.alloc (.cells #[.map (some b)] 95)) fun e w' => ∃ (p : Option Addr) (c : Nat), e = .returned (.slice p S.length c) ∧ w'.ownsRow w.heap.size 9 1 (.slice p S.length c) S.length (S.flatMap strC) ∧ Ext w w' := by
  obtain ⟨D, hown, hT, h1, h2, h3⟩ := h
  have hbl := hown.lt
  have hseq : SeqGives Fence.wide 2 Tryz.prog 88 #[.pointer (some ⟨w.heap.size, 0, none⟩)] encStr (fun ss => ss.Perm (strKeys D)) (Maps.size D) (w.alloc (.cells #[.map (some b)] 95)) :=
    AnyZ.keys_gives (ρ := Tryz.mkRange_ren) { Tryz.mkRange with } Fence.wide _ trivial rfl (by omega) w.heap.size b (Maps.size D) D _ (by simp) (by simp) (by
      obtain ⟨es, clock, hb, Ft, hs, hD⟩ := hown
      exact ⟨es, clock, (Below.heap_alloc _ _ b hbl).trans hb, Ft, hs, hD⟩)
  have cS := AnyZ.sorted_in Tryz.sortedS Fence.wide 5 trivial trivial trivial trivial rfl (by omega) (sortsIn_any _) (enters_of Tryz.func81 (by kernel_rfl) rfl) 88 #[.pointer (some ⟨w.heap.size, 0, none⟩)] trivial (enters_of Tryz.func88 (by kernel_rfl) rfl) _ _ (by unfold maxLen; omega) (by omega) _ hseq
  change CallsIn _ _ Tryz.prog 55 _ _ _ at cS
  have hss : (S.map fun x => x.data.toList).Perm (strKeys D) := by
    obtain ⟨es, rfl, hk⟩ := hown.keysOf
    obtain ⟨es', e, hp⟩ := hT
    cases e
    refine perm_strKeys hp (fun q hq => ?_) ((nodup_bytes S).2 hS.nodup) (fun x => ?_)
    · obtain ⟨v, hv⟩ := hk q hq
      obtain ⟨x, _, hx, _⟩ := keyOf_str Tryz.underlying9 hv
      exact ⟨x, hx⟩
    · have e1 : (Lit.string x) = keyLv (unB x) := by unfold keyLv; rw [unB_data]
      rw [e1, h1, ← hm]
      constructor
      · intro hx
        obtain ⟨y, hy, rfl⟩ := List.mem_map.1 hx
        rw [unB_of]; exact hy
      · intro hx
        exact List.mem_map.2 ⟨unB x, hx, unB_data x⟩
  refine (callsIn_wide.1 cS).mono fun e w' ⟨v, ss, he, hp, hrow, hnil, hb⟩ => ?_
  have hq : ss.Perm (S.map fun x => x.data.toList) := hp.trans hss.symm
  have hlen : ss.length = S.length := by rw [hq.length_eq, List.length_map]
  have hms : ss.mergeSort (fun x y => decide (x ≤ y)) = S.map fun x => x.data.toList := by
    rw [← riseB hS]
    exact le_uniq (srt _) (srt _) ((List.mergeSort_perm _ _).trans (hq.trans (List.mergeSort_perm _ _).symm))
  rw [hms, ← flat_enc, hlen] at hrow
  have hE : Ext w w' := by
    have hz : w.heap.size ≤ (w.alloc (.cells #[.map (some b)] 95)).heap.size := by simp
    exact ((Ext.refl w).alloc _).trans hb
  have hrow2 : w'.ownsRow w.heap.size 9 1 v S.length (S.flatMap strC) := ⟨hrow.1, hrow.2.imp id fun ⟨g, cap, cur, hv, hg, r⟩ => ⟨g, cap, cur, hv, by simp at hg; omega, r⟩⟩
  obtain ⟨p, c, rfl, -⟩ := slc_of_own (enc := strC) (fun _ => rfl) hrow2 (by decide) (by
    have h7 := hp.length_eq
    have h8 : (strKeys D).length = Maps.size D := by
      obtain ⟨es, rfl, _⟩ := hown.keysOf
      simp [strKeys, Maps.size]
    omega)
  exact ⟨p, c, he, hrow2, hE⟩
end Go.Proofs.YtboplnogfjmpnaaGreatDoor
