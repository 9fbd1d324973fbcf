/- Keys that are arrays of four numbers; an own map with any keys. Conditions: as each theorem says. An own map with any keys and any values. Conditions: as each theorem says. Right voices and parts, moments and ranges that the stream makes, told exactly. Conditions: sizes. -/
import Derived.Test.YtcdjkgfdhngmeaaGreatDoorSdVoG
import Derived.DeepKeys3
import Derived.Test.YtcdjkgfdhngmeaaGreatDoorSdVoE
set_option linter.unusedSimpArgs false
set_option linter.unusedVariables false
namespace Go.Proofs.YtcdjkgfdhngmeaaGreatDoor
open Go Go.RowKit Go.Maps Go.Sort Go.Shelf

theorem many_keyed : Keyed Tryz.prog 80 := Keyed.of_law (deep_law (m := 3) (by decide) (by kernel_rfl) (by kernel_rfl) (by kernel_rfl))
theorem int_wf (n : Nat) (h : n ≤ 1000000) : (Lit.int .i64 (n : Int)).wf = true := by
  have h1 : IntKind.i64.min = -9223372036854775808 := by decide
  have h2 : IntKind.i64.max = 9223372036854775807 := by decide
  unfold Lit.wf
  simp only [h1, h2, Bool.and_eq_true, decide_eq_true_eq]
  omega
theorem int_lits (d : Nat) (n : Nat) (h : n ≤ 1000000) : Tryz.prog.keyLits (d + 1) 3 [.int .i64 n] = some [.int .i64 n] := by
  have hw := int_wf n h
  unfold Program.keyLits
  rw [Tryz.underlying3]
  simp [hw]
theorem many_key (a b c d : Nat) (ha : a ≤ 1000000) (hb : b ≤ 1000000) (hc : c ≤ 1000000) (hd : d ≤ 1000000) : ∃ l, keyOf Tryz.prog 80 (.agg #[.int .i64 a, .int .i64 b, .int .i64 c, .int .i64 d]) = some l := by
  have h1 : Tryz.prog.keyType 80 = true := by kernel_rfl
  have h2 : Tryz.prog.cellsOf 80 = 4 := by kernel_rfl
  have h3 : Tryz.prog.cellsOf 3 = 1 := by kernel_rfl
  obtain ⟨n, hn⟩ : ∃ n, Tryz.prog.types.size = n + 1 := ⟨Tryz.prog.types.size - 1, by kernel_rfl⟩
  have h4 : Tryz.prog.keyLits (Tryz.prog.types.size + 1) 80 [.int .i64 a, .int .i64 b, .int .i64 c, .int .i64 d] = some [.int .i64 a, .int .i64 b, .int .i64 c, .int .i64 d] := by
    rw [hn]
    unfold Program.keyLits
    rw [Tryz.underlying80]
    simp only [h2, h3]
    have e : List.range 4 = [0, 1, 2, 3] := by decide
    simp [e, int_lits, ha, hb, hc, hd]
  unfold keyOf
  rw [Tryz.underlying80]
  simp only [h1]
  have h5 : (Value.agg #[.int .i64 a, .int .i64 b, .int .i64 c, .int .i64 d]).formed Tryz.prog 80 = true := by
    simp [Value.formed, Tryz.underlying80, h2]
  rw [h5]
  simp only [Value.cells, h4]
  exact ⟨_, rfl⟩
end Go.Proofs.YtcdjkgfdhngmeaaGreatDoor

namespace Go.Proofs.YtcdjkgfdhngmeaaGreatDoor
open Go Go.RowKit Go.Maps Go.Sort Go.Shelf

/-- A kind of map: its keys, its values. -/
structure KMap (P : Program) (κ ν : Type) where
  kt : TypeId
  mt : TypeId
  vt : TypeId
  kv : κ → Value
  ok : κ → Prop
  val : ν → Value
  dat : ν → DataW Unit
  rd : Value → Option (DataW Unit × List MemPlace)
  zero : ν
  keyed : Keyed P kt
  key : ∀ k, ok k → ∃ l, keyOf P kt (kv k) = some l
  inj : ∀ a b, ok a → ok b → kv a = kv b → a = b
  rd_mk : ∀ v, rd (val v) = some (dat v, [])
  rd_inv : ∀ u v ps, rd u = some (dat v, ps) → u = val v
  und : P.underlying mt = some (.map kt vt)
  zer : ∀ w, (zeroValue vt).run P w = .ok (val zero) w
section
variable {P : Program} {κ ν : Type} {M : KMap P κ ν}
/-- What an own map with n entries at most holds. -/
def OwnK (M : KMap P κ ν) (w : World) (b n : Nat) (f : κ → Option ν) : Prop :=
  ∃ D : DataW Unit, w.ownsMap P M.kt M.rd b (Maps.size D) D ∧ Maps.Tidy D ∧ (∀ k l, M.ok k → keyOf P M.kt (M.kv k) = some l → Maps.has D l = (f k).isSome) ∧
    (∀ k l v, M.ok k → keyOf P M.kt (M.kv k) = some l → f k = some v → ∀ z, D.atKey l z = M.dat v) ∧ Maps.size D ≤ n
def updK [DecidableEq κ] (f : κ → Option ν) (k : κ) (v : ν) : κ → Option ν := fun q => if q = k then some v else f q
theorem KMap.lit_ne {a b : κ} (h : M.ok a) (h' : M.ok b) {la lb : Lit} (ha : keyOf P M.kt (M.kv a) = some la) (hb : keyOf P M.kt (M.kv b) = some lb) (hne : a ≠ b) : la ≠ lb := fun e => by
  subst e
  exact hne (M.inj a b h h' (M.keyed.inj ha hb))
theorem OwnK.made (w : World) : OwnK M (w.alloc (.map #[] 0)) w.heap.size 0 (fun _ => none) :=
  ⟨.map [], World.ownsMap_made w _ _ _, tidy_empty, (fun _ _ _ _ => rfl), (fun k l v _ _ h => by cases h), by simp [Maps.size]⟩
theorem OwnK.lt {w : World} {b n : Nat} {f : κ → Option ν} (h : OwnK M w b n f) : b < w.heap.size := by
  obtain ⟨D, hD, -⟩ := h
  exact hD.lt
theorem OwnK.le {w : World} {b n m : Nat} {f : κ → Option ν} (h : OwnK M w b n f) (hnm : n ≤ m) : OwnK M w b m f := by
  obtain ⟨D, h1, h2, h3, h4, h5⟩ := h
  exact ⟨D, h1, h2, h3, h4, Nat.le_trans h5 hnm⟩
theorem OwnK.grown {w w' : World} {b n : Nat} {f : κ → Option ν} (h : OwnK M w b n f) {row : Option Nat} (hg : w.grownBy w' row) (hne : some b ≠ row) : OwnK M w' b n f := by
  obtain ⟨D, hD, h2⟩ := h
  exact ⟨D, hD.kept hg hne, h2⟩
theorem OwnK.ext {w w' : World} {b n : Nat} {f : κ → Option ν} (h : OwnK M w b n f) (he : Ext w w') : OwnK M w' b n f :=
  h.grown (row := none) ⟨he.os, he.tape, he.output, he.size, fun k hk _ => he.block k hk⟩ (by simp)
theorem OwnK.atk {f : κ → Option ν} {D : DataW Unit} (h1 : ∀ k l, M.ok k → keyOf P M.kt (M.kv k) = some l → Maps.has D l = (f k).isSome) (h2 : ∀ k l v, M.ok k → keyOf P M.kt (M.kv k) = some l → f k = some v → ∀ z, D.atKey l z = M.dat v) {k : κ} {l : Lit} (hk : M.ok k) (hl : keyOf P M.kt (M.kv k) = some l) :
    D.atKey l (M.dat M.zero) = M.dat ((f k).getD M.zero) := by
  cases hf : f k with
  | none => exact atKey_of_not_has (by rw [h1 k l hk hl, hf]; rfl) _
  | some v => exact h2 k l v hk hl hf _
theorem OwnK.look_ok {w : World} {b n : Nat} {f : κ → Option ν} (h : OwnK M w b n f) {k : κ} (hk : M.ok k) :
    (Instr.lookup M.mt (.map (some b)) (M.kv k) true).run P w = .ok (.tuple #[M.val ((f k).getD M.zero), .bool (f k).isSome]) w := by
  obtain ⟨D, hD, hT, h1, h2, h3⟩ := h
  obtain ⟨l, hl⟩ := M.key k hk
  obtain ⟨v, ps, hrun, hv⟩ := hD.look_ok M.keyed M.und (M.zer w) (M.rd_mk M.zero) hl
  rw [OwnK.atk h1 h2 hk hl] at hv
  rw [hrun, M.rd_inv _ _ _ hv, h1 k l hk hl]
theorem OwnK.look {w : World} {b n : Nat} {f : κ → Option ν} (h : OwnK M w b n f) {k : κ} (hk : M.ok k) :
    (Instr.lookup M.mt (.map (some b)) (M.kv k) false).run P w = .ok (M.val ((f k).getD M.zero)) w := by
  obtain ⟨D, hD, hT, h1, h2, h3⟩ := h
  obtain ⟨l, hl⟩ := M.key k hk
  obtain ⟨v, ps, hrun, hv⟩ := hD.lookup M.keyed M.und (M.zer w) (M.rd_mk M.zero) hl
  rw [OwnK.atk h1 h2 hk hl] at hv
  rw [hrun, M.rd_inv _ _ _ hv]
theorem OwnK.put1 [DecidableEq κ] {w : World} {b n : Nat} {f : κ → Option ν} (h : OwnK M w b n f) {k : κ} (hk : M.ok k) (hn : n ≤ 1000000000000000000) (v : ν) :
    ∃ w', (Instr.mapUpdate M.mt (.map (some b)) (M.kv k) (M.val v)).run P w = .ok () w' ∧ OwnK M w' b (if (f k).isSome then n else n + 1) (updK f k v) ∧ w.grownBy w' (some b) := by
  obtain ⟨D, hD, hT, h1, h2, h3⟩ := h
  obtain ⟨l, hl⟩ := M.key k hk
  have hil := M.keyed.key hl
  obtain ⟨w', hrun, hD', hg⟩ := hD.update M.keyed M.und (by unfold maxLen; omega) hl (M.rd_mk v)
  refine ⟨w', hrun, ⟨_, ownv_sized hD', hT.put hil _, fun q lq hq hlq => ?_, fun q lq u hq hlq hu z => ?_, ?_⟩, hg⟩
  · unfold updK
    by_cases e : q = k
    · subst e
      have : lq = l := Option.some.inj (hlq.symm.trans hl)
      subst this
      rw [if_pos rfl, has_put_same hT.isMap hil]; rfl
    · rw [if_neg e, has_put_other (KMap.lit_ne hq hk hlq hl e)]; exact h1 q lq hq hlq
  · unfold updK at hu
    by_cases e : q = k
    · subst e
      have : lq = l := Option.some.inj (hlq.symm.trans hl)
      subst this
      rw [if_pos rfl] at hu; cases hu; exact atKey_put_same hT.isMap hil _ _
    · rw [if_neg e] at hu; rw [atKey_put_other (KMap.lit_ne hq hk hlq hl e)]; exact h2 q lq u hq hlq hu z
  · rw [size_put hT, h1 k l hk hl]
    split <;> omega
theorem OwnK.put [DecidableEq κ] {w : World} {b n : Nat} {f : κ → Option ν} (h : OwnK M w b n f) {k : κ} (hk : M.ok k) (hn : n ≤ 1000000000000000000) (v : ν) :
    ∃ w', (Instr.mapUpdate M.mt (.map (some b)) (M.kv k) (M.val v)).run P w = .ok () w' ∧ OwnK M w' b (n + 1) (updK f k v) ∧ w.grownBy w' (some b) := by
  obtain ⟨w', h1, h2, h3⟩ := h.put1 hk hn v
  exact ⟨w', h1, h2.le (by split <;> omega), h3⟩
end
/-! ### maps from arrays of four numbers to numbers -/
def manV (N : List Nat) : Value := .agg (N.map fun (x : Nat) => Value.int .i64 (x : Int)).toArray
def ManOk (N : List Nat) : Prop := N.length = 4 ∧ ∀ x ∈ N, x ≤ 1000
def intRd : Value → Option (DataW Unit × List MemPlace)
  | .int .i64 a => some (.lit (.int .i64 a), [])
  | _ => none
def boolRd : Value → Option (DataW Unit × List MemPlace)
  | .bool a => some (.lit (.bool a), [])
  | _ => none
theorem man4 {N : List Nat} (h : N.length = 4) : ∃ a b c d, N = [a, b, c, d] := by
  match N, h with
  | [a, b, c, d], _ => exact ⟨a, b, c, d, rfl⟩
theorem manV_key (N : List Nat) (h : ManOk N) : ∃ l, keyOf Tryz.prog 80 (manV N) = some l := by
  obtain ⟨a, b, c, d, rfl⟩ := man4 h.1
  exact many_key a b c d (Nat.le_trans (h.2 a (by simp)) (by decide)) (Nat.le_trans (h.2 b (by simp)) (by decide)) (Nat.le_trans (h.2 c (by simp)) (by decide)) (Nat.le_trans (h.2 d (by simp)) (by decide))
theorem manV_inj (M N : List Nat) (h : ManOk M) (k : ManOk N) (e : manV M = manV N) : M = N := by
  obtain ⟨a, b, c, d, rfl⟩ := man4 h.1
  obtain ⟨a', b', c', d', rfl⟩ := man4 k.1
  simp only [manV, List.map_cons, List.map_nil, Value.agg.injEq, List.toArray_inj, List.cons.injEq, Value.int.injEq, true_and, and_true] at e
  obtain ⟨e1, e2, e3, e4⟩ := e
  first
    | rfl
    | (rw [Int.ofNat_inj.1 e1, Int.ofNat_inj.1 e2, Int.ofNat_inj.1 e3, Int.ofNat_inj.1 e4])
def manyI : KMap Tryz.prog (List Nat) Int where
  kt := 80
  mt := 104
  vt := 3
  kv := manV
  ok := ManOk
  val := fun v => .int .i64 v
  dat := fun v => .lit (.int .i64 v)
  rd := intRd
  zero := 0
  keyed := many_keyed
  key := manV_key
  inj := manV_inj
  rd_mk := fun _ => rfl
  rd_inv := fun u v ps h => by
    unfold intRd at h
    split at h
    · simp only [Option.some.injEq, Prod.mk.injEq, DataW.lit.injEq, Lit.int.injEq, true_and] at h
      rw [h.1]
    · cases h
  und := Tryz.underlying104
  zer := fun w => Tryz.zeroValue3 w
end Go.Proofs.YtcdjkgfdhngmeaaGreatDoor

namespace Go.Proofs.YtcdjkgfdhngmeaaGreatDoor
open Go Go.RowKit

theorem own_lowV {w : World} {base base' k n : Nat} {e : TypeId} {v : Value} {xs : List Value} (h : w.ownsRow base' e k v n xs) (hb : base ≤ base') : w.ownsRow base e k v n xs :=
  ⟨h.1, h.2.imp id fun ⟨g, cap, cur, hv, hg, r⟩ => ⟨g, cap, cur, hv, Nat.le_trans hb hg, r⟩⟩
def smtF (L : Src) (a : Nat) : Int := pkF L (a + 1) [0, 10, 50, 60, 120, 500, pkF L a [-1, 345686400000]]
set_option maxRecDepth 100000 in
theorem sometime_det (s k : Nat) (L : Src) (w : World) (hk : k ≤ 990000) (h : StrL w s L k) :
    Calls Tryz.prog 6 #[.pointer (some ⟨s, 0, none⟩)] w fun e w' => e = .returned (.int .i64 (smtF L k)) ∧ StrL w' s L (k + 2) ∧ ExtS s w w' := by
  have hv : smtF L k = pkF L (k + 1) [0, 10, 50, 60, 120, 500, pkF L k [-1, 345686400000]] := rfl
  replace hv := Lib.hid hv
  go_enter Tryz.func6, Tryz.ntmps6
  go_wp2_with (first
    | (go_at_call 19; have l1 := h.lt; refine (pick_det s k _ _ 2 [-1, 345686400000] L _ (by omega) (by simp) (by simp) (by exact h.ext (Ext.alloc (Ext.refl _) _)) (by exact Nat.ne_of_gt l1) (by exact Blk.new' rfl)).mono ?_; rintro e w2 ⟨rfl, hS2, hE2⟩; have hE2' := ((ExtS.refl s w).alloc _).trans hE2; clear h)
    | (go_at_call 19; have l2 := hS2.lt; refine (pick_det s (k + 1) _ _ 7 [0, 10, 50, 60, 120, 500, pkF L k [-1, 345686400000]] L _ (by omega) (by simp) (by simp) (by exact hS2.ext (Ext.alloc (Ext.refl _) _)) (by exact Nat.ne_of_gt l2) (by exact Blk.new' rfl)).mono ?_; rintro e w3 ⟨rfl, hS3, hE3⟩; have hE3' := (hE2'.alloc _).trans hE3))
  go_ret
  exact ⟨by rw [hv.out]; rfl, hS3, hE3'⟩

end Go.Proofs.YtcdjkgfdhngmeaaGreatDoor
