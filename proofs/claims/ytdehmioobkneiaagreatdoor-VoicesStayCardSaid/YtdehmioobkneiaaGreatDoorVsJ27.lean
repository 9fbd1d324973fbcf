/- The map of ranges, an own map whose elements are ranges; its keys, sorted. Conditions: as each theorem says. Keys that are arrays of four numbers; an own map with any keys. Conditions: as each theorem says. An own map with any keys and any values. Conditions: as each theorem says. -/
import Derived.Test.YtdehmioobkneiaaGreatDoorVsVoE
import Derived.Test.YtdehmioobkneiaaGreatDoorVsJ3
import Derived.Maps.OwnSet
import Derived.StringKeys
import Derived.Shelf.SlIter.Nil
import Derived.DeepKeys3
set_option linter.unusedSimpArgs false
set_option linter.unusedVariables false
namespace Go.Proofs.YtdehmioobkneiaaGreatDoor
open Go Go.RowKit Go.Maps Go.Sort Go.Shelf

def rngV (v : Int × Int) : Value := .agg #[.int .i64 v.1, .int .i64 v.2]
def rngD (v : Int × Int) : DataW Unit := .agg [.lit (.int .i64 v.1), .lit (.int .i64 v.2)]
def rngR : Value → Option (DataW Unit × List MemPlace)
  | .agg cs => match cs.toList with
    | [.int .i64 a, .int .i64 b] => some (.agg [.lit (.int .i64 a), .lit (.int .i64 b)], [])
    | _ => none
  | _ => none
theorem rngR_mk (v : Int × Int) : rngR (rngV v) = some (rngD v, []) := rfl
theorem rngR_inv {u : Value} {v : Int × Int} {ps : List MemPlace} (h : rngR u = some (rngD v, ps)) : u = rngV v := by
  unfold rngR at h
  split at h
  · rename_i cs
    split at h
    · rename_i a b hc
      simp only [rngD, Option.some.injEq, Prod.mk.injEq, DataW.agg.injEq, List.cons.injEq, DataW.lit.injEq, Lit.int.injEq, true_and, and_true] at h
      obtain ⟨⟨h1, h2⟩, -⟩ := h
      unfold rngV
      rw [← h1, ← h2]
      congr 1
      exact Array.toList_inj.1 hc
    · cases h
  · cases h
def keyLv (p : ByteArray) : Lit := .string p.data.toList
theorem keyLv_ne {p q : ByteArray} (h : p ≠ q) : keyLv p ≠ keyLv q := fun e => h (by
  have := Lit.string.inj e
  cases p; cases q
  simp only at this
  congr 1
  exact Array.toList_inj.1 this)
theorem keyLv_is (p : ByteArray) : WideAt.IsKeyLit (keyLv p) := trivial
theorem keyv_of {p : ByteArray} (hp : p.size ≤ 1000) : keyOf Tryz.prog 9 (.string p) = some (keyLv p) := Go.WideMaps.keyOf_string_mk Tryz.underlying9 (by unfold maxLen; omega)
theorem ownv_sized {P : Program} {k : TypeId} {R : Value → Option (DataW Unit × List MemPlace)} {w : World} {b n : Nat} {D : DataW Unit} (h : w.ownsMap P k R b n D) : w.ownsMap P k R b (Maps.size D) D := by
  obtain ⟨es, clock, hb, F, _, rfl⟩ := h
  exact ⟨es, clock, hb, F, by simp [Maps.size, length_sorted], rfl⟩

/-- An own map from names to ranges, with n entries at most. -/
def OwnR (w : World) (b n : Nat) (f : St) : Prop := ∃ D : DataW Unit, w.ownsMap Tryz.prog 9 rngR b (Maps.size D) D ∧ Maps.Tidy D ∧ (∀ p, Maps.has D (keyLv p) = (f p).isSome) ∧ (∀ p v, f p = some v → ∀ z, D.atKey (keyLv p) z = rngD v) ∧ Maps.size D ≤ n
theorem OwnR.made (w : World) : OwnR (w.alloc (.map #[] 0)) w.heap.size 0 (fun _ => none) :=
  ⟨.map [], World.ownsMap_made w _ _ _, tidy_empty, fun _ => rfl, (fun p v h => by cases h), by simp [Maps.size]⟩
theorem OwnR.lt {w : World} {b n : Nat} {f : St} (h : OwnR w b n f) : b < w.heap.size := by
  obtain ⟨D, hD, -⟩ := h
  exact hD.lt
theorem OwnR.grown {w w' : World} {b n : Nat} {f : St} (h : OwnR w b n f) {row : Option Nat} (hg : w.grownBy w' row) (hne : some b ≠ row) : OwnR w' b n f := by
  obtain ⟨D, hD, h2⟩ := h
  exact ⟨D, hD.kept hg hne, h2⟩
theorem OwnR.ext {w w' : World} {b n : Nat} {f : St} (h : OwnR w b n f) (he : Ext w w') : OwnR w' b n f :=
  h.grown (row := none) ⟨he.os, he.tape, he.output, he.size, fun k hk _ => he.block k hk⟩ (by simp)
theorem zero_rng (w : World) : (zeroValue 44).run Tryz.prog w = .ok (rngV (0, 0)) w := Tryz.zeroValue44 w
theorem OwnR.atk {f : St} {D : DataW Unit} (h1 : ∀ p, Maps.has D (keyLv p) = (f p).isSome) (h2 : ∀ p v, f p = some v → ∀ z, D.atKey (keyLv p) z = rngD v) (p : ByteArray) : D.atKey (keyLv p) (rngD (0, 0)) = rngD ((f p).getD (0, 0)) := by
  cases hf : f p with
  | none => exact atKey_of_not_has (by rw [h1, hf]; rfl) _
  | some v => exact h2 p v hf _
/-- 'm[p]', both ways. -/
theorem OwnR.look_ok {w : World} {b n : Nat} {f : St} (h : OwnR w b n f) {p : ByteArray} (hp : p.size ≤ 1000) :
    (Instr.lookup 114 (.map (some b)) (.string p) true).run Tryz.prog w = .ok (.tuple #[rngV ((f p).getD (0, 0)), .bool (f p).isSome]) w := by
  obtain ⟨D, hD, hT, h1, h2, h3⟩ := h
  obtain ⟨v, ps, hrun, hv⟩ := hD.look_ok (string_keyed Tryz.underlying9) Tryz.underlying114 (zero_rng w) (rngR_mk (0, 0)) (keyv_of hp)
  rw [OwnR.atk h1 h2] at hv
  rw [hrun, rngR_inv hv, h1]
theorem OwnR.look {w : World} {b n : Nat} {f : St} (h : OwnR w b n f) {p : ByteArray} (hp : p.size ≤ 1000) :
    (Instr.lookup 114 (.map (some b)) (.string p) false).run Tryz.prog w = .ok (rngV ((f p).getD (0, 0))) w := by
  obtain ⟨D, hD, hT, h1, h2, h3⟩ := h
  obtain ⟨v, ps, hrun, hv⟩ := hD.lookup (string_keyed Tryz.underlying9) Tryz.underlying114 (zero_rng w) (rngR_mk (0, 0)) (keyv_of hp)
  rw [OwnR.atk h1 h2] at hv
  rw [hrun, rngR_inv hv]
/-- 'm[p] = v'. -/
theorem OwnR.put {w : World} {b n : Nat} {f : St} (h : OwnR w b n f) {p : ByteArray} (hp : p.size ≤ 1000) (hn : n ≤ 1000) (v : Int × Int) :
    ∃ w', (Instr.mapUpdate 114 (.map (some b)) (.string p) (rngV v)).run Tryz.prog w = .ok () w' ∧ OwnR w' b (n + 1) (f.upd p v) ∧ w.grownBy w' (some b) := by
  obtain ⟨D, hD, hT, h1, h2, h3⟩ := h
  obtain ⟨w', hrun, hD', hg⟩ := hD.update (string_keyed Tryz.underlying9) Tryz.underlying114 (by unfold maxLen; omega) (keyv_of hp) (rngR_mk v)
  refine ⟨w', hrun, ⟨_, ownv_sized hD', hT.put (keyLv_is p) _, fun q => ?_, fun q u hq z => ?_, ?_⟩, hg⟩
  · by_cases e : q = p
    · subst e; rw [has_put_same hT.isMap (keyLv_is q), St.upd_same]; rfl
    · rw [has_put_other (keyLv_ne e), St.upd_other _ _ e]; exact h1 q
  · by_cases e : q = p
    · subst e; rw [St.upd_same] at hq; cases hq; exact atKey_put_same hT.isMap (keyLv_is q) _ _
    · rw [St.upd_other _ _ e] at hq; rw [atKey_put_other (keyLv_ne e)]; exact h2 q u hq z
  · rw [size_put hT]
    split <;> omega

/-! ### the keys, sorted -/
theorem keysR_any (mb : Option Nat) (W : World) :
    Calls Tryz.prog 101 #[.map mb] W fun e w' => e = .returned (.func (.func 132) #[] #[.pointer (some ⟨W.heap.size, 0, none⟩)]) ∧ w' = W.alloc (.cells #[.map mb] 114) :=
  (callsIn_wide (n := 5)).1 (AnyZ.keys_in Tryz.mkRange Fence.wide 5 trivial rfl mb W)
theorem sortsIn_any (m : Nat) : AnyZ.SortsIn Tryz.prog Tryz.sortedS_ren Fence.wide m :=
  ⟨fun blk off cap ss W hH hblk hsz => callsIn_wide.2 (Tryz.slices_Sort_string blk off cap ss W hH hblk hsz), fun p cap W => callsIn_wide.2 (Tryz.slices_Sort_string_none p cap W)⟩
theorem riseB {S : List ByteArray} (h : RiseN S) : srtB S = S.map fun x => x.data.toList :=
  le_uniq (srt _) (List.pairwise_map.2 (h.imp fun h => h.1)) (List.mergeSort_perm _ _)
set_option maxHeartbeats 1000000 in
theorem sortedR_any {b n : Nat} {f : St} {w : World} (h : OwnR w b n f) (hn : n ≤ 1000) (S : List ByteArray) (hS : RiseN S) (hm : ∀ p, p ∈ S ↔ (f p).isSome = true) :
    Calls Tryz.prog 100 #[.func (.func 132) #[] #[.pointer (some ⟨w.heap.size, 0, none⟩)]] (w.alloc (.cells #[.map (some b)] 114)) fun e w' => ∃ (p : Option Addr) (c : Nat), e = .returned (.slice p S.length c) ∧ w'.ownsRow w.heap.size 9 1 (.slice p S.length c) S.length (S.flatMap strC) ∧ Ext w w' := by
  obtain ⟨D, hown, hT, h1, h2, h3⟩ := h
  have hbl := hown.lt
  have hseq : SeqGives Fence.wide 2 Tryz.prog 132 #[.pointer (some ⟨w.heap.size, 0, none⟩)] encStr (fun ss => ss.Perm (strKeys D)) (Maps.size D) (w.alloc (.cells #[.map (some b)] 114)) :=
    AnyZ.keys_gives (ρ := Tryz.mkRange_ren) { Tryz.mkRange with } Fence.wide _ trivial rfl (by omega) w.heap.size b (Maps.size D) D _ (by simp) (by simp) (by
      obtain ⟨es, clock, hb, Ft, hs, hD⟩ := hown
      exact ⟨es, clock, (Below.heap_alloc _ _ b hbl).trans hb, Ft, hs, hD⟩)
  have cS := AnyZ.sorted_in Tryz.sortedS Fence.wide 5 trivial trivial trivial trivial rfl (by omega) (sortsIn_any _) (enters_of Tryz.func111 (by kernel_rfl) rfl) 132 #[.pointer (some ⟨w.heap.size, 0, none⟩)] trivial (enters_of Tryz.func132 (by kernel_rfl) rfl) _ _ (by unfold maxLen; omega) (by omega) _ hseq
  change CallsIn _ _ Tryz.prog 100 _ _ _ at cS
  have hss : (S.map fun x => x.data.toList).Perm (strKeys D) := by
    obtain ⟨es, rfl, hk⟩ := hown.keysOf
    obtain ⟨es', e, hp⟩ := hT
    cases e
    refine perm_strKeys hp (fun q hq => ?_) ((nodup_bytes S).2 hS.nodup) (fun x => ?_)
    · obtain ⟨v, hv⟩ := hk q hq
      obtain ⟨x, _, hx, _⟩ := keyOf_str Tryz.underlying9 hv
      exact ⟨x, hx⟩
    · have e1 : (Lit.string x) = keyLv (unB x) := by unfold keyLv; rw [unB_data]
      rw [e1, h1, ← hm]
      constructor
      · intro hx
        obtain ⟨y, hy, rfl⟩ := List.mem_map.1 hx
        rw [unB_of]; exact hy
      · intro hx
        exact List.mem_map.2 ⟨unB x, hx, unB_data x⟩
  refine (callsIn_wide.1 cS).mono fun e w' ⟨v, ss, he, hp, hrow, hnil, hb⟩ => ?_
  have hq : ss.Perm (S.map fun x => x.data.toList) := hp.trans hss.symm
  have hlen : ss.length = S.length := by rw [hq.length_eq, List.length_map]
  have hms : ss.mergeSort (fun x y => decide (x ≤ y)) = S.map fun x => x.data.toList := by
    rw [← riseB hS]
    exact le_uniq (srt _) (srt _) ((List.mergeSort_perm _ _).trans (hq.trans (List.mergeSort_perm _ _).symm))
  rw [hms, ← flat_enc, hlen] at hrow
  have hE : Ext w w' := by
    have hz : w.heap.size ≤ (w.alloc (.cells #[.map (some b)] 114)).heap.size := by simp
    exact ((Ext.refl w).alloc _).trans hb
  have hrow2 : w'.ownsRow w.heap.size 9 1 v S.length (S.flatMap strC) := ⟨hrow.1, hrow.2.imp id fun ⟨g, cap, cur, hv, hg, r⟩ => ⟨g, cap, cur, hv, by simp at hg; omega, r⟩⟩
  obtain ⟨p, c, rfl, -⟩ := slc_of_own (enc := strC) (fun _ => rfl) hrow2 (by decide) (by
    have h7 := hp.length_eq
    have h8 : (strKeys D).length = Maps.size D := by
      obtain ⟨es, rfl, _⟩ := hown.keysOf
      simp [strKeys, Maps.size]
    omega)
  exact ⟨p, c, he, hrow2, hE⟩
end Go.Proofs.YtdehmioobkneiaaGreatDoor

namespace Go.Proofs.YtdehmioobkneiaaGreatDoor
open Go Go.RowKit Go.Maps Go.Sort Go.Shelf

theorem many_keyed : Keyed Tryz.prog 81 := Keyed.of_law (deep_law (m := 3) (by decide) (by kernel_rfl) (by kernel_rfl) (by kernel_rfl))
theorem int_wf (n : Nat) (h : n ≤ 1000000) : (Lit.int .i64 (n : Int)).wf = true := by
  have h1 : IntKind.i64.min = -9223372036854775808 := by decide
  have h2 : IntKind.i64.max = 9223372036854775807 := by decide
  unfold Lit.wf
  simp only [h1, h2, Bool.and_eq_true, decide_eq_true_eq]
  omega
theorem int_lits (d : Nat) (n : Nat) (h : n ≤ 1000000) : Tryz.prog.keyLits (d + 1) 3 [.int .i64 n] = some [.int .i64 n] := by
  have hw := int_wf n h
  unfold Program.keyLits
  rw [Tryz.underlying3]
  simp [hw]
theorem many_key (a b c d : Nat) (ha : a ≤ 1000000) (hb : b ≤ 1000000) (hc : c ≤ 1000000) (hd : d ≤ 1000000) : ∃ l, keyOf Tryz.prog 81 (.agg #[.int .i64 a, .int .i64 b, .int .i64 c, .int .i64 d]) = some l := by
  have h1 : Tryz.prog.keyType 81 = true := by kernel_rfl
  have h2 : Tryz.prog.cellsOf 81 = 4 := by kernel_rfl
  have h3 : Tryz.prog.cellsOf 3 = 1 := by kernel_rfl
  obtain ⟨n, hn⟩ : ∃ n, Tryz.prog.types.size = n + 1 := ⟨Tryz.prog.types.size - 1, by kernel_rfl⟩
  have h4 : Tryz.prog.keyLits (Tryz.prog.types.size + 1) 81 [.int .i64 a, .int .i64 b, .int .i64 c, .int .i64 d] = some [.int .i64 a, .int .i64 b, .int .i64 c, .int .i64 d] := by
    rw [hn]
    unfold Program.keyLits
    rw [Tryz.underlying81]
    simp only [h2, h3]
    have e : List.range 4 = [0, 1, 2, 3] := by decide
    simp [e, int_lits, ha, hb, hc, hd]
  unfold keyOf
  rw [Tryz.underlying81]
  simp only [h1]
  have h5 : (Value.agg #[.int .i64 a, .int .i64 b, .int .i64 c, .int .i64 d]).formed Tryz.prog 81 = true := by
    simp [Value.formed, Tryz.underlying81, h2]
  rw [h5]
  simp only [Value.cells, h4]
  exact ⟨_, rfl⟩
end Go.Proofs.YtdehmioobkneiaaGreatDoor

namespace Go.Proofs.YtdehmioobkneiaaGreatDoor
open Go Go.RowKit Go.Maps Go.Sort Go.Shelf

/-- A kind of map: its keys, its values. -/
structure KMap (P : Program) (κ ν : Type) where
  kt : TypeId
  mt : TypeId
  vt : TypeId
  kv : κ → Value
  ok : κ → Prop
  val : ν → Value
  dat : ν → DataW Unit
  rd : Value → Option (DataW Unit × List MemPlace)
  zero : ν
  keyed : Keyed P kt
  key : ∀ k, ok k → ∃ l, keyOf P kt (kv k) = some l
  inj : ∀ a b, ok a → ok b → kv a = kv b → a = b
  rd_mk : ∀ v, rd (val v) = some (dat v, [])
  rd_inv : ∀ u v ps, rd u = some (dat v, ps) → u = val v
  und : P.underlying mt = some (.map kt vt)
  zer : ∀ w, (zeroValue vt).run P w = .ok (val zero) w
section
variable {P : Program} {κ ν : Type} {M : KMap P κ ν}
/-- What an own map with n entries at most holds. -/
def OwnK (M : KMap P κ ν) (w : World) (b n : Nat) (f : κ → Option ν) : Prop :=
  ∃ D : DataW Unit, w.ownsMap P M.kt M.rd b (Maps.size D) D ∧ Maps.Tidy D ∧ (∀ k l, M.ok k → keyOf P M.kt (M.kv k) = some l → Maps.has D l = (f k).isSome) ∧
    (∀ k l v, M.ok k → keyOf P M.kt (M.kv k) = some l → f k = some v → ∀ z, D.atKey l z = M.dat v) ∧ Maps.size D ≤ n
def updK [DecidableEq κ] (f : κ → Option ν) (k : κ) (v : ν) : κ → Option ν := fun q => if q = k then some v else f q
theorem KMap.lit_ne {a b : κ} (h : M.ok a) (h' : M.ok b) {la lb : Lit} (ha : keyOf P M.kt (M.kv a) = some la) (hb : keyOf P M.kt (M.kv b) = some lb) (hne : a ≠ b) : la ≠ lb := fun e => by
  subst e
  exact hne (M.inj a b h h' (M.keyed.inj ha hb))
theorem OwnK.made (w : World) : OwnK M (w.alloc (.map #[] 0)) w.heap.size 0 (fun _ => none) :=
  ⟨.map [], World.ownsMap_made w _ _ _, tidy_empty, (fun _ _ _ _ => rfl), (fun k l v _ _ h => by cases h), by simp [Maps.size]⟩
theorem OwnK.lt {w : World} {b n : Nat} {f : κ → Option ν} (h : OwnK M w b n f) : b < w.heap.size := by
  obtain ⟨D, hD, -⟩ := h
  exact hD.lt
theorem OwnK.le {w : World} {b n m : Nat} {f : κ → Option ν} (h : OwnK M w b n f) (hnm : n ≤ m) : OwnK M w b m f := by
  obtain ⟨D, h1, h2, h3, h4, h5⟩ := h
  exact ⟨D, h1, h2, h3, h4, Nat.le_trans h5 hnm⟩
theorem OwnK.grown {w w' : World} {b n : Nat} {f : κ → Option ν} (h : OwnK M w b n f) {row : Option Nat} (hg : w.grownBy w' row) (hne : some b ≠ row) : OwnK M w' b n f := by
  obtain ⟨D, hD, h2⟩ := h
  exact ⟨D, hD.kept hg hne, h2⟩
theorem OwnK.ext {w w' : World} {b n : Nat} {f : κ → Option ν} (h : OwnK M w b n f) (he : Ext w w') : OwnK M w' b n f :=
  h.grown (row := none) ⟨he.os, he.tape, he.output, he.size, fun k hk _ => he.block k hk⟩ (by simp)
theorem OwnK.atk {f : κ → Option ν} {D : DataW Unit} (h1 : ∀ k l, M.ok k → keyOf P M.kt (M.kv k) = some l → Maps.has D l = (f k).isSome) (h2 : ∀ k l v, M.ok k → keyOf P M.kt (M.kv k) = some l → f k = some v → ∀ z, D.atKey l z = M.dat v) {k : κ} {l : Lit} (hk : M.ok k) (hl : keyOf P M.kt (M.kv k) = some l) :
    D.atKey l (M.dat M.zero) = M.dat ((f k).getD M.zero) := by
  cases hf : f k with
  | none => exact atKey_of_not_has (by rw [h1 k l hk hl, hf]; rfl) _
  | some v => exact h2 k l v hk hl hf _
theorem OwnK.look_ok {w : World} {b n : Nat} {f : κ → Option ν} (h : OwnK M w b n f) {k : κ} (hk : M.ok k) :
    (Instr.lookup M.mt (.map (some b)) (M.kv k) true).run P w = .ok (.tuple #[M.val ((f k).getD M.zero), .bool (f k).isSome]) w := by
  obtain ⟨D, hD, hT, h1, h2, h3⟩ := h
  obtain ⟨l, hl⟩ := M.key k hk
  obtain ⟨v, ps, hrun, hv⟩ := hD.look_ok M.keyed M.und (M.zer w) (M.rd_mk M.zero) hl
  rw [OwnK.atk h1 h2 hk hl] at hv
  rw [hrun, M.rd_inv _ _ _ hv, h1 k l hk hl]
theorem OwnK.look {w : World} {b n : Nat} {f : κ → Option ν} (h : OwnK M w b n f) {k : κ} (hk : M.ok k) :
    (Instr.lookup M.mt (.map (some b)) (M.kv k) false).run P w = .ok (M.val ((f k).getD M.zero)) w := by
  obtain ⟨D, hD, hT, h1, h2, h3⟩ := h
  obtain ⟨l, hl⟩ := M.key k hk
  obtain ⟨v, ps, hrun, hv⟩ := hD.lookup M.keyed M.und (M.zer w) (M.rd_mk M.zero) hl
  rw [OwnK.atk h1 h2 hk hl] at hv
  rw [hrun, M.rd_inv _ _ _ hv]
theorem OwnK.put1 [DecidableEq κ] {w : World} {b n : Nat} {f : κ → Option ν} (h : OwnK M w b n f) {k : κ} (hk : M.ok k) (hn : n ≤ 1000000000000000000) (v : ν) :
    ∃ w', (Instr.mapUpdate M.mt (.map (some b)) (M.kv k) (M.val v)).run P w = .ok () w' ∧ OwnK M w' b (if (f k).isSome then n else n + 1) (updK f k v) ∧ w.grownBy w' (some b) := by
  obtain ⟨D, hD, hT, h1, h2, h3⟩ := h
  obtain ⟨l, hl⟩ := M.key k hk
  have hil := M.keyed.key hl
  obtain ⟨w', hrun, hD', hg⟩ := hD.update M.keyed M.und (by unfold maxLen; omega) hl (M.rd_mk v)
  refine ⟨w', hrun, ⟨_, ownv_sized hD', hT.put hil _, fun q lq hq hlq => ?_, fun q lq u hq hlq hu z => ?_, ?_⟩, hg⟩
  · unfold updK
    by_cases e : q = k
    · subst e
      have : lq = l := Option.some.inj (hlq.symm.trans hl)
      subst this
      rw [if_pos rfl, has_put_same hT.isMap hil]; rfl
    · rw [if_neg e, has_put_other (KMap.lit_ne hq hk hlq hl e)]; exact h1 q lq hq hlq
  · unfold updK at hu
    by_cases e : q = k
    · subst e
      have : lq = l := Option.some.inj (hlq.symm.trans hl)
      subst this
      rw [if_pos rfl] at hu; cases hu; exact atKey_put_same hT.isMap hil _ _
    · rw [if_neg e] at hu; rw [atKey_put_other (KMap.lit_ne hq hk hlq hl e)]; exact h2 q lq u hq hlq hu z
  · rw [size_put hT, h1 k l hk hl]
    split <;> omega
theorem OwnK.put [DecidableEq κ] {w : World} {b n : Nat} {f : κ → Option ν} (h : OwnK M w b n f) {k : κ} (hk : M.ok k) (hn : n ≤ 1000000000000000000) (v : ν) :
    ∃ w', (Instr.mapUpdate M.mt (.map (some b)) (M.kv k) (M.val v)).run P w = .ok () w' ∧ OwnK M w' b (n + 1) (updK f k v) ∧ w.grownBy w' (some b) := by
  obtain ⟨w', h1, h2, h3⟩ := h.put1 hk hn v
  exact ⟨w', h1, h2.le (by split <;> omega), h3⟩
end
/-! ### maps from arrays of four numbers to numbers -/
def manV (N : List Nat) : Value := .agg (N.map fun (x : Nat) => Value.int .i64 (x : Int)).toArray
def ManOk (N : List Nat) : Prop := N.length = 4 ∧ ∀ x ∈ N, x ≤ 1000
def intRd : Value → Option (DataW Unit × List MemPlace)
  | .int .i64 a => some (.lit (.int .i64 a), [])
  | _ => none
theorem man4 {N : List Nat} (h : N.length = 4) : ∃ a b c d, N = [a, b, c, d] := by
  match N, h with
  | [a, b, c, d], _ => exact ⟨a, b, c, d, rfl⟩
theorem manV_key (N : List Nat) (h : ManOk N) : ∃ l, keyOf Tryz.prog 81 (manV N) = some l := by
  obtain ⟨a, b, c, d, rfl⟩ := man4 h.1
  exact many_key a b c d (Nat.le_trans (h.2 a (by simp)) (by decide)) (Nat.le_trans (h.2 b (by simp)) (by decide)) (Nat.le_trans (h.2 c (by simp)) (by decide)) (Nat.le_trans (h.2 d (by simp)) (by decide))
theorem manV_inj (M N : List Nat) (h : ManOk M) (k : ManOk N) (e : manV M = manV N) : M = N := by
  obtain ⟨a, b, c, d, rfl⟩ := man4 h.1
  obtain ⟨a', b', c', d', rfl⟩ := man4 k.1
  simp only [manV, List.map_cons, List.map_nil, Value.agg.injEq, List.toArray_inj, List.cons.injEq, Value.int.injEq, true_and, and_true] at e
  obtain ⟨e1, e2, e3, e4⟩ := e
  first
    | rfl
    | (rw [Int.ofNat_inj.1 e1, Int.ofNat_inj.1 e2, Int.ofNat_inj.1 e3, Int.ofNat_inj.1 e4])
def manyI : KMap Tryz.prog (List Nat) Int where
  kt := 81
  mt := 137
  vt := 3
  kv := manV
  ok := ManOk
  val := fun v => .int .i64 v
  dat := fun v => .lit (.int .i64 v)
  rd := intRd
  zero := 0
  keyed := many_keyed
  key := manV_key
  inj := manV_inj
  rd_mk := fun _ => rfl
  rd_inv := fun u v ps h => by
    unfold intRd at h
    split at h
    · simp only [Option.some.injEq, Prod.mk.injEq, DataW.lit.injEq, Lit.int.injEq, true_and] at h
      rw [h.1]
    · cases h
  und := Tryz.underlying137
  zer := fun w => Tryz.zeroValue3 w
end Go.Proofs.YtdehmioobkneiaaGreatDoor
