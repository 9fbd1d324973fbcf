/- An own map with any keys and any values; a loop over it in any order. Conditions: as each theorem says. More of own maps: an entry that is struck, a map that is none, kinds of maps made easily. Conditions: as each theorem says. The kinds of maps of a library of copies. Conditions: as each theorem says. -/
import Derived.Test.YtehboinleolihaaGreatDoorCzJ3
import Derived.Maps.OwnSet
import Derived.Maps.RangeWalk
import Derived.Maps.Views
import Derived.DeepKeys3
import Derived.Test.YtehboinleolihaaGreatDoorCzJ16
set_option linter.unusedSimpArgs false
set_option linter.unusedVariables false
namespace Go.Proofs.YtehboinleolihaaGreatDoor
open Go Go.RowKit Go.Maps
theorem ownv_sized {P : Program} {k : TypeId} {R : Value → Option (DataW Unit × List MemPlace)} {w : World} {b n : Nat} {D : DataW Unit} (h : w.ownsMap P k R b n D) : w.ownsMap P k R b (Maps.size D) D := by
 obtain ⟨es, clock, hb, F, _, rfl⟩ := h
 exact ⟨es, clock, hb, F, by simp [Maps.size, length_sorted], rfl⟩
def intRd : Value → Option (DataW Unit × List MemPlace)
 | .int .i64 a => some (.lit (.int .i64 a), [])
 | _ => none
def boolRd : Value → Option (DataW Unit × List MemPlace)
 | .bool a => some (.lit (.bool a), [])
 | _ => none
/-- A kind of map: its keys, its values. -/
structure KMap (P : Program) (κ ν : Type) where
 kt : TypeId
 mt : TypeId
 vt : TypeId
 kv : κ → Value
 ok : κ → Prop
 val : ν → Value
 dat : ν → DataW Unit
 rd : Value → Option (DataW Unit × List MemPlace)
 zero : ν
 keyed : Keyed P kt
 key : ∀ k, ok k → ∃ l, keyOf P kt (kv k) = some l
 inj : ∀ a b, ok a → ok b → kv a = kv b → a = b
 rd_mk : ∀ v, rd (val v) = some (dat v, [])
 rd_inv : ∀ u v ps, rd u = some (dat v, ps) → u = val v
 und : P.underlying mt = some (.map kt vt)
 zer : ∀ w, (zeroValue vt).run P w = .ok (val zero) w
section
variable {P : Program} {κ ν : Type} {M : KMap P κ ν}
/-- What an own map with n entries at most holds. -/
def OwnK (M : KMap P κ ν) (w : World) (b n : Nat) (f : κ → Option ν) : Prop :=
 ∃ D : DataW Unit, w.ownsMap P M.kt M.rd b (Maps.size D) D ∧ Maps.Tidy D ∧ (∀ k l, M.ok k → keyOf P M.kt (M.kv k) = some l → Maps.has D l = (f k).isSome) ∧
  (∀ k l v, M.ok k → keyOf P M.kt (M.kv k) = some l → f k = some v → ∀ z, D.atKey l z = M.dat v) ∧ Maps.size D ≤ n
def updK [DecidableEq κ] (f : κ → Option ν) (k : κ) (v : ν) : κ → Option ν := fun q => if q = k then some v else f q
theorem KMap.lit_ne {a b : κ} (h : M.ok a) (h' : M.ok b) {la lb : Lit} (ha : keyOf P M.kt (M.kv a) = some la) (hb : keyOf P M.kt (M.kv b) = some lb) (hne : a ≠ b) : la ≠ lb := fun e => by
 subst e
 exact hne (M.inj a b h h' (M.keyed.inj ha hb))
theorem OwnK.made (w : World) : OwnK M (w.alloc (.map #[] 0)) w.heap.size 0 (fun _ => none) :=
 ⟨.map [], World.ownsMap_made w _ _ _, tidy_empty, (fun _ _ _ _ => rfl), (fun k l v _ _ h => by cases h), by simp [Maps.size]⟩
theorem OwnK.lt {w : World} {b n : Nat} {f : κ → Option ν} (h : OwnK M w b n f) : b < w.heap.size := by
 obtain ⟨D, hD, -⟩ := h
 exact hD.lt
theorem OwnK.le {w : World} {b n m : Nat} {f : κ → Option ν} (h : OwnK M w b n f) (hnm : n ≤ m) : OwnK M w b m f := by
 obtain ⟨D, h1, h2, h3, h4, h5⟩ := h
 exact ⟨D, h1, h2, h3, h4, Nat.le_trans h5 hnm⟩
theorem OwnK.grown {w w' : World} {b n : Nat} {f : κ → Option ν} (h : OwnK M w b n f) {row : Option Nat} (hg : w.grownBy w' row) (hne : some b ≠ row) : OwnK M w' b n f := by
 obtain ⟨D, hD, h2⟩ := h
 exact ⟨D, hD.kept hg hne, h2⟩
theorem OwnK.ext {w w' : World} {b n : Nat} {f : κ → Option ν} (h : OwnK M w b n f) (he : Ext w w') : OwnK M w' b n f :=
 h.grown (row := none) ⟨he.os, he.tape, he.output, he.size, fun k hk _ => he.block k hk⟩ (by simp)
theorem OwnK.atk {f : κ → Option ν} {D : DataW Unit} (h1 : ∀ k l, M.ok k → keyOf P M.kt (M.kv k) = some l → Maps.has D l = (f k).isSome) (h2 : ∀ k l v, M.ok k → keyOf P M.kt (M.kv k) = some l → f k = some v → ∀ z, D.atKey l z = M.dat v) {k : κ} {l : Lit} (hk : M.ok k) (hl : keyOf P M.kt (M.kv k) = some l) :
 D.atKey l (M.dat M.zero) = M.dat ((f k).getD M.zero) := by
 cases hf : f k with
 | none => exact atKey_of_not_has (by rw [h1 k l hk hl, hf]; rfl) _
 | some v => exact h2 k l v hk hl hf _
theorem OwnK.look_ok {w : World} {b n : Nat} {f : κ → Option ν} (h : OwnK M w b n f) {k : κ} (hk : M.ok k) :
 (Instr.lookup M.mt (.map (some b)) (M.kv k) true).run P w = .ok (.tuple #[M.val ((f k).getD M.zero), .bool (f k).isSome]) w := by
 obtain ⟨D, hD, hT, h1, h2, h3⟩ := h
 obtain ⟨l, hl⟩ := M.key k hk
 obtain ⟨v, ps, hrun, hv⟩ := hD.look_ok M.keyed M.und (M.zer w) (M.rd_mk M.zero) hl
 rw [OwnK.atk h1 h2 hk hl] at hv
 rw [hrun, M.rd_inv _ _ _ hv, h1 k l hk hl]
theorem OwnK.look {w : World} {b n : Nat} {f : κ → Option ν} (h : OwnK M w b n f) {k : κ} (hk : M.ok k) :
 (Instr.lookup M.mt (.map (some b)) (M.kv k) false).run P w = .ok (M.val ((f k).getD M.zero)) w := by
 obtain ⟨D, hD, hT, h1, h2, h3⟩ := h
 obtain ⟨l, hl⟩ := M.key k hk
 obtain ⟨v, ps, hrun, hv⟩ := hD.lookup M.keyed M.und (M.zer w) (M.rd_mk M.zero) hl
 rw [OwnK.atk h1 h2 hk hl] at hv
 rw [hrun, M.rd_inv _ _ _ hv]
theorem OwnK.put1 [DecidableEq κ] {w : World} {b n : Nat} {f : κ → Option ν} (h : OwnK M w b n f) {k : κ} (hk : M.ok k) (hn : n ≤ 1000000000000000000) (v : ν) :
 ∃ w', (Instr.mapUpdate M.mt (.map (some b)) (M.kv k) (M.val v)).run P w = .ok () w' ∧ OwnK M w' b (if (f k).isSome then n else n + 1) (updK f k v) ∧ w.grownBy w' (some b) := by
 obtain ⟨D, hD, hT, h1, h2, h3⟩ := h
 obtain ⟨l, hl⟩ := M.key k hk
 have hil := M.keyed.key hl
 obtain ⟨w', hrun, hD', hg⟩ := hD.update M.keyed M.und (by unfold maxLen; omega) hl (M.rd_mk v)
 refine ⟨w', hrun, ⟨_, ownv_sized hD', hT.put hil _, fun q lq hq hlq => ?_, fun q lq u hq hlq hu z => ?_, ?_⟩, hg⟩
 ·unfold updK
  by_cases e : q = k
  ·subst e
   have : lq = l := Option.some.inj (hlq.symm.trans hl)
   subst this
   rw [if_pos rfl, has_put_same hT.isMap hil]; rfl
  ·rw [if_neg e, has_put_other (KMap.lit_ne hq hk hlq hl e)]; exact h1 q lq hq hlq
 ·unfold updK at hu
  by_cases e : q = k
  ·subst e
   have : lq = l := Option.some.inj (hlq.symm.trans hl)
   subst this
   rw [if_pos rfl] at hu; cases hu; exact atKey_put_same hT.isMap hil _ _
  ·rw [if_neg e] at hu; rw [atKey_put_other (KMap.lit_ne hq hk hlq hl e)]; exact h2 q lq u hq hlq hu z
 ·rw [size_put hT, h1 k l hk hl]
  split <;> omega
theorem OwnK.put [DecidableEq κ] {w : World} {b n : Nat} {f : κ → Option ν} (h : OwnK M w b n f) {k : κ} (hk : M.ok k) (hn : n ≤ 1000000000000000000) (v : ν) :
 ∃ w', (Instr.mapUpdate M.mt (.map (some b)) (M.kv k) (M.val v)).run P w = .ok () w' ∧ OwnK M w' b (n + 1) (updK f k v) ∧ w.grownBy w' (some b) := by
 obtain ⟨w', h1, h2, h3⟩ := h.put1 hk hn v
 exact ⟨w', h1, h2.le (by split <;> omega), h3⟩
end
section
variable {P : Program} {κ ν : Type} {M : KMap P κ ν}
/-- A map's content is a function's. -/
def Tells (M : KMap P κ ν) (D : DataW Unit) (f : κ → Option ν) : Prop :=
 Maps.Tidy D ∧ (∀ k l, M.ok k → keyOf P M.kt (M.kv k) = some l → Maps.has D l = (f k).isSome) ∧ (∀ k l v, M.ok k → keyOf P M.kt (M.kv k) = some l → f k = some v → ∀ z, D.atKey l z = M.dat v) ∧
  ∀ l, Maps.has D l = true → ∃ k, M.ok k ∧ keyOf P M.kt (M.kv k) = some l
def OwnX (M : KMap P κ ν) (w : World) (b n : Nat) (f : κ → Option ν) : Prop := ∃ D : DataW Unit, w.ownsMap P M.kt M.rd b n D ∧ Maps.size D = n ∧ Tells M D f
theorem OwnX.made (w : World) : OwnX M (w.alloc (.map #[] 0)) w.heap.size 0 (fun _ => none) :=
 ⟨.map [], World.ownsMap_made w _ _ _, by simp [Maps.size], tidy_empty, (fun _ _ _ _ => rfl), (fun k l v _ _ h => by cases h), (fun l h => by cases h)⟩
theorem OwnX.lt {w : World} {b n : Nat} {f : κ → Option ν} (h : OwnX M w b n f) : b < w.heap.size := by
 obtain ⟨D, hD, -⟩ := h
 exact hD.lt
theorem OwnX.grown {w w' : World} {b n : Nat} {f : κ → Option ν} (h : OwnX M w b n f) {row : Option Nat} (hg : w.grownBy w' row) (hne : some b ≠ row) : OwnX M w' b n f := by
 obtain ⟨D, hD, h2⟩ := h
 exact ⟨D, hD.kept hg hne, h2⟩
theorem OwnX.ext {w w' : World} {b n : Nat} {f : κ → Option ν} (h : OwnX M w b n f) (he : Ext w w') : OwnX M w' b n f :=
 h.grown (row := none) ⟨he.os, he.tape, he.output, he.size, fun k hk _ => he.block k hk⟩ (by simp)
theorem OwnX.put [DecidableEq κ] {w : World} {b n : Nat} {f : κ → Option ν} (h : OwnX M w b n f) {k : κ} (hk : M.ok k) (hn : n ≤ 1000000000000000000) (v : ν) :
 ∃ w', (Instr.mapUpdate M.mt (.map (some b)) (M.kv k) (M.val v)).run P w = .ok () w' ∧ OwnX M w' b (if (f k).isSome then n else n + 1) (updK f k v) ∧ w.grownBy w' (some b) := by
 obtain ⟨D, hD, hsz, hT, h1, h2, h4⟩ := h
 obtain ⟨l, hl⟩ := M.key k hk
 have hil := M.keyed.key hl
 obtain ⟨w', hrun, hD', hg⟩ := hD.update M.keyed M.und (by unfold maxLen; omega) hl (M.rd_mk v)
 have hsz' : Maps.size (D.put l (M.dat v)) = if (f k).isSome then n else n + 1 := by
  rw [size_put hT, h1 k l hk hl, hsz]
 refine ⟨w', hrun, ⟨_, by rw [← hsz']; exact ownv_sized hD', hsz', hT.put hil _, fun q lq hq hlq => ?_, fun q lq u hq hlq hu z => ?_, fun lq hlq => ?_⟩, hg⟩
 ·unfold updK
  by_cases e : q = k
  ·subst e
   have : lq = l := Option.some.inj (hlq.symm.trans hl)
   subst this
   rw [if_pos rfl, has_put_same hT.isMap hil]; rfl
  ·rw [if_neg e, has_put_other (KMap.lit_ne hq hk hlq hl e)]; exact h1 q lq hq hlq
 ·unfold updK at hu
  by_cases e : q = k
  ·subst e
   have : lq = l := Option.some.inj (hlq.symm.trans hl)
   subst this
   rw [if_pos rfl] at hu; cases hu; exact atKey_put_same hT.isMap hil _ _
  ·rw [if_neg e] at hu; rw [atKey_put_other (KMap.lit_ne hq hk hlq hl e)]; exact h2 q lq u hq hlq hu z
 ·by_cases e : lq = l
  ·exact ⟨k, hk, by rw [hl, e]⟩
  ·rw [has_put_other e] at hlq
   exact h4 lq hlq
/-- A loop over an own map: which keys were visited, how many are still to come. -/
def RngX (M : KMap P κ ν) (w : World) (b r n : Nat) (f : κ → Option ν) (ks : List κ) (cnt : Nat) : Prop :=
 ∃ (D : DataW Unit) (left : Lit → Bool), w.ranges P M.kt M.rd b r n D left cnt ∧ Maps.size D = n ∧ Tells M D f ∧ (∀ l, left l = true → Maps.has D l = true) ∧
  (∀ k l, M.ok k → keyOf P M.kt (M.kv k) = some l → (k ∈ ks ↔ (Maps.has D l = true ∧ left l = false))) ∧ (∀ k ∈ ks, M.ok k) ∧ ks.length + cnt ≤ n
theorem RngX.kept {w w' : World} {b r n cnt : Nat} {f : κ → Option ν} {ks : List κ} {row : Option Nat} (h : RngX M w b r n f ks cnt) (hg : w.grownBy w' row) (hb : some b ≠ row) (hr : some r ≠ row) : RngX M w' b r n f ks cnt := by
 obtain ⟨D, left, h1, h2⟩ := h
 exact ⟨D, left, h1.kept hg hb hr, h2⟩
theorem RngX.at_ {w w' : World} {b r n cnt : Nat} {f : κ → Option ν} {ks : List κ} (h : RngX M w b r n f ks cnt) (hb : w'.heap[b]? = w.heap[b]?) (hr : w'.heap[r]? = w.heap[r]?) : RngX M w' b r n f ks cnt := by
 obtain ⟨D, left, ⟨es, clock, since, seen, c0, a1, a2, a3, a4, a5, a6⟩, h2⟩ := h
 exact ⟨D, left, ⟨es, clock, since, seen, c0, hb.trans a1, a2, a3, a4, hr.trans a5, a6⟩, h2⟩
theorem RngX.lt0 {w : World} {b r n cnt : Nat} {f : κ → Option ν} {ks : List κ} (h : RngX M w b r n f ks cnt) : r < w.heap.size ∧ b < w.heap.size := by
 obtain ⟨D, left, h1, -⟩ := h
 exact ⟨h1.lt, h1.owns.lt⟩
theorem RngX.ext {w w' : World} {b r n cnt : Nat} {f : κ → Option ν} {ks : List κ} (h : RngX M w b r n f ks cnt) (he : Ext w w') : RngX M w' b r n f ks cnt :=
 h.at_ (he.block b h.lt0.2) (he.block r h.lt0.1)
theorem RngX.lt {w : World} {b r n cnt : Nat} {f : κ → Option ν} {ks : List κ} (h : RngX M w b r n f ks cnt) : r < w.heap.size ∧ b < w.heap.size := by
 obtain ⟨D, left, h1, -⟩ := h
 exact ⟨h1.lt, h1.owns.lt⟩
theorem RngX.owns {w : World} {b r n cnt : Nat} {f : κ → Option ν} {ks : List κ} (h : RngX M w b r n f ks cnt) : OwnX M w b n f := by
 obtain ⟨D, left, h1, h2, h3, -⟩ := h
 exact ⟨D, h1.owns, h2, h3⟩
variable (w : World) {ops : Array Oper} {rest : List Oper} {o : Oper} {a : Act} {Q : Exit → Act → World → Prop}
end
theorem boolRd_inv {u : Value} {v : Bool} {ps : List MemPlace} (h : boolRd u = some (.lit (.bool v), ps)) : u = .bool v := by
 unfold boolRd at h
 split at h
 ·simp only [Option.some.injEq, Prod.mk.injEq, DataW.lit.injEq, Lit.bool.injEq] at h
  rw [h.1]
 ·cases h
section
variable {P : Program} {κ ν : Type} {M : KMap P κ ν}
theorem OwnX.at_ {w w' : World} {b n : Nat} {f : κ → Option ν} (h : OwnX M w b n f) (hb : w'.heap[b]? = w.heap[b]?) : OwnX M w' b n f := by
 obtain ⟨D, ⟨es, clock, a1, a2⟩, h2⟩ := h
 exact ⟨D, ⟨es, clock, hb.trans a1, a2⟩, h2⟩
end
theorem own_at {w w' : World} {base k n : Nat} {e : TypeId} {v : Value} {xs : List Value} (h : w.ownsRow base e k v n xs) (hb : ∀ g, v.ownBlock = some g → w'.heap[g]? = w.heap[g]?) : w'.ownsRow base e k v n xs :=
 ⟨h.1, h.2.imp id fun ⟨g, cap, cur, hv, hg, hc, r⟩ => ⟨g, cap, cur, hv, hg, (hb g (by rw [hv]; rfl)).trans hc, r⟩⟩
section
variable {P : Program} {ops : Array Oper} {rest : List Oper} {o : Oper} {a : Act} {w : World} {Q : Exit → Act → World → Prop}
theorem wpList_putM (hg : o.guard = none) (m x y : Operand) (t : TypeId) (hop : o.op = Op.mapUpdate t m x y) (mv kv v : Value) (hm : a.eval m = mv) (hx : a.eval x = kv) (hy : a.eval y = v) (w' : World) (hrun : (Instr.mapUpdate t mv kv v).run P w = .ok () w')
 (hK : wpList P ops Q rest (a.put o.dst undef) w') : wpList P ops Q (o :: rest) a w := by
 refine wpList_plain hg fun K' hK' => ?_
 unfold Oper.wp
 simp [execOp, hop, hm, hx, hy, hrun, Result.andThen]
 exact hK' _ _ hK
theorem wpList_insM (hg : o.guard = none) (m x y : Operand) (t : TypeId) (hop : o.op = Op.insert t m x y) (mv kv v : Value) (hm : a.eval m = mv) (hx : a.eval x = kv) (hy : a.eval y = v) (w' : World) (hrun : (Instr.mapUpdate t mv kv v).run P w = .ok () w')
 (hK : wpList P ops Q rest (a.put o.dst undef) w') : wpList P ops Q (o :: rest) a w := by
 refine wpList_plain hg fun K' hK' => ?_
 unfold Oper.wp
 simp [execOp, hop, hm, hx, hy, hrun, Result.andThen]
 exact hK' _ _ hK
theorem wpList_lookM (hg : o.guard = none) (m x : Operand) (t : TypeId) (ok : Bool) (hop : o.op = Op.lookup t m x ok) (mv kv v : Value) (hm : a.eval m = mv) (hx : a.eval x = kv) (hrun : (Instr.lookup t mv kv ok).run P w = .ok v w)
 (hK : wpList P ops Q rest (a.put o.dst v) w) : wpList P ops Q (o :: rest) a w := by
 refine wpList_plain hg fun K' hK' => ?_
 unfold Oper.wp
 simp [execOp, hop, hm, hx, hrun, Result.andThen]
 exact hK' _ _ hK
end
end Go.Proofs.YtehboinleolihaaGreatDoor
namespace Go.Proofs.YtehboinleolihaaGreatDoor
open Go Go.RowKit Go.Maps
section
variable {ν : Type} {val : ν → Value} {dat : ν → DataW Unit}
open Classical in
noncomputable def rdOf (val : ν → Value) (dat : ν → DataW Unit) (v : Value) : Option (DataW Unit × List MemPlace) := if h : ∃ x, v = val x then some (dat h.choose, []) else none
theorem rdOf_mk (hi : ∀ a b, val a = val b → a = b) (v : ν) : rdOf val dat (val v) = some (dat v, []) := by
 have h : ∃ x, val v = val x := ⟨v, rfl⟩
 unfold rdOf
 rw [dif_pos h, ← hi _ _ h.choose_spec]
theorem rdOf_inv (hd : ∀ a b, dat a = dat b → a = b) {u : Value} {v : ν} {ps : List MemPlace} (h : rdOf val dat u = some (dat v, ps)) : u = val v := by
 unfold rdOf at h
 split at h
 ·rename_i hx
  have e := congrArg Prod.fst (Option.some.inj h)
  rw [← hd _ _ e]
  exact hx.choose_spec
 ·cases h
end
section
variable {P : Program} {κ ν : Type} {M : KMap P κ ν}
def strikeK [DecidableEq κ] (f : κ → Option ν) (k : κ) : κ → Option ν := fun q => if q = k then none else f q
theorem OwnX.lookB {w : World} {b n : Nat} {f : κ → Option ν} (h : OwnX M w b n f) {k : κ} (hk : M.ok k) :
 (Instr.lookup M.mt (.map (some b)) (M.kv k) false).run P w = .ok (M.val ((f k).getD M.zero)) w := by
 obtain ⟨D, hD, hsz, hT, h1, h2, h4⟩ := h
 exact OwnK.look (n := n) ⟨D, by rw [hsz]; exact hD, hT, h1, h2, by omega⟩ hk
theorem look_none {w : World} {k : κ} (hk : M.ok k) : (Instr.lookup M.mt (.map none) (M.kv k) false).run P w = .ok (M.val M.zero) w := by
 obtain ⟨l, hl⟩ := M.key k hk
 exact Maps.look_nil false M.keyed M.und (M.zer w) hl
theorem OwnX.drop [DecidableEq κ] {w : World} {b n : Nat} {f : κ → Option ν} (h : OwnX M w b n f) {k : κ} (hk : M.ok k) (ty : TypeId) :
 ∃ w', (Builtin.delete_ #[M.mt, M.kt] ty #[.map (some b), M.kv k]).run P w = .ok (.tuple #[]) w' ∧ OwnX M w' b (if (f k).isSome then n - 1 else n) (strikeK f k) ∧ w.grownBy w' (some b) := by
 obtain ⟨D, hD, hsz, hT, h1, h2, h4⟩ := h
 obtain ⟨l, hl⟩ := M.key k hk
 obtain ⟨w', hrun, hD', hg⟩ := hD.drop M.keyed M.und hl ty
 have hs := size_del hT (k := l)
 rw [h1 k l hk hl] at hs
 have hsz' : Maps.size (D.del l) = if (f k).isSome then n - 1 else n := by split <;> simp_all <;> omega
 refine ⟨w', hrun, ⟨D.del l, by rw [← hsz']; exact ownv_sized hD', hsz', hT.del l, fun q lq hq hlq => ?_, fun q lq u hq hlq hu z => ?_, fun lq hlq => ?_⟩, hg.grown⟩
 ·unfold strikeK
  by_cases e : q = k
  ·subst e
   have : lq = l := Option.some.inj (hlq.symm.trans hl)
   subst this
   rw [if_pos rfl, has_del_same]; rfl
  ·rw [if_neg e, has_del_other (KMap.lit_ne hq hk hlq hl e)]; exact h1 q lq hq hlq
 ·unfold strikeK at hu
  by_cases e : q = k
  ·rw [if_pos e] at hu; cases hu
  ·rw [if_neg e] at hu; rw [atKey_del_other (KMap.lit_ne hq hk hlq hl e)]; exact h2 q lq u hq hlq hu z
 ·by_cases e : lq = l
  ·subst e; rw [has_del_same] at hlq; cases hlq
  ·rw [has_del_other e] at hlq
   exact h4 lq hlq
theorem blk_mapK_ne {w : World} {b n g : Nat} {f : κ → Option ν} (h : OwnK M w b n f) {t : TypeId} {cs : Array Value} (hB : Blk w g t cs) : g ≠ b := by
 obtain ⟨D, ⟨es, clock, hb, -⟩, -⟩ := h
 rintro rfl
 have h3 : w.heap[g]? = some (.cells cs t) := hB
 rw [h3] at hb
 cases hb
theorem blk_mapX_ne {w : World} {b n g : Nat} {f : κ → Option ν} (h : OwnX M w b n f) {t : TypeId} {cs : Array Value} (hB : Blk w g t cs) : g ≠ b := by
 obtain ⟨D, ⟨es, clock, hb, -⟩, -⟩ := h
 rintro rfl
 have h3 : w.heap[g]? = some (.cells cs t) := hB
 rw [h3] at hb
 cases hb
theorem OwnX.toK {w : World} {b n : Nat} {f : κ → Option ν} (h : OwnX M w b n f) : OwnK M w b n f := by
 obtain ⟨D, hD, hsz, hT, h1, h2, h4⟩ := h
 exact ⟨D, by rw [hsz]; exact hD, hT, h1, h2, by omega⟩
theorem OwnK.at_ {w w' : World} {b n : Nat} {f : κ → Option ν} (h : OwnK M w b n f) (hb : w'.heap[b]? = w.heap[b]?) : OwnK M w' b n f := by
 obtain ⟨D, ⟨es, clock, a1, a2⟩, h2⟩ := h
 exact ⟨D, ⟨es, clock, hb.trans a1, a2⟩, h2⟩
end
section
variable {P : Program} {ops : Array Oper} {rest : List Oper} {o : Oper} {a : Act} {w : World} {Q : Exit → Act → World → Prop}
theorem wpList_dropM (hg : o.guard = none) (m x : Operand) (t k : TypeId) (hop : o.op = Op.call { callee := Callee.builtin Builtin.delete, args := #[m, x], argTypes := #[t, k] }) (mv kv : Value) (hm : a.eval m = mv) (hx : a.eval x = kv) (w' : World)
 (hrun : ∀ ty, (Builtin.delete_ #[t, k] ty #[mv, kv]).run P w = .ok (.tuple #[]) w') (hK : wpList P ops Q rest (a.put o.dst (.tuple #[])) w') : wpList P ops Q (o :: rest) a w := by
 refine wpList_plain hg fun K' hK' => ?_
 unfold Oper.wp
 simp [execOp, hop, resolve, invoke, builtin, hm, hx, hrun, Result.andThen]
 exact hK' _ _ hK
end
end Go.Proofs.YtehboinleolihaaGreatDoor
namespace Go.Proofs.YtehboinleolihaaGreatDoor
open Go Go.RowKit Go.Maps Go.WideMaps
/-- A key of a string and a number. -/
def snV (x : IdV) : Value := .agg #[.string x.1, .int .i64 x.2]
def okSN (x : IdV) : Prop := x.1.size ≤ 1000000 ∧ -1000000000000 ≤ x.2 ∧ x.2 ≤ 1000000000000
theorem snV_inj {x y : IdV} (e : snV x = snV y) : x = y := by
 have e1 : #[Value.string x.1, Value.int .i64 x.2] = #[Value.string y.1, Value.int .i64 y.2] := by
  injection e
 have e2 := congrArg Array.toList e1
 simp only [List.cons.injEq, Value.string.injEq, Value.int.injEq, true_and, and_true] at e2
 exact Prod.ext e2.1 e2.2
theorem int_wfL (n : Int) (h : -1000000000000 ≤ n ∧ n ≤ 1000000000000) : (Lit.int .i64 n).wf = true := by
 have h1 : IntKind.i64.min = -9223372036854775808 := by decide
 have h2 : IntKind.i64.max = 9223372036854775807 := by decide
 unfold Lit.wf
 simp only [h1, h2, Bool.and_eq_true, decide_eq_true_eq]
 omega
theorem int_litsL (d : Nat) (n : Int) (h : -1000000000000 ≤ n ∧ n ≤ 1000000000000) : Tryz.prog.keyLits (d + 1) 3 [.int .i64 n] = some [.int .i64 n] := by
 have hw := int_wfL n h
 unfold Program.keyLits
 rw [Tryz.underlying3]
 simp [hw]
theorem str_litsL (d : Nat) (s : ByteArray) (h : s.size ≤ 1000000) : Tryz.prog.keyLits (d + 1) 9 [.string s] = some [.string s.data.toList] := by
 have hw : s.size ≤ maxLen := by unfold maxLen; omega
 unfold Program.keyLits
 rw [Tryz.underlying9]
 simp [hw]
theorem own_keyed : Keyed Tryz.prog 214 := Keyed.of_law (deep_law (m := 3) (by decide) (by kernel_rfl) (by kernel_rfl) (by kernel_rfl))
theorem own_key (x : IdV) (h : okSN x) : ∃ l, keyOf Tryz.prog 214 (snV x) = some l := by
 obtain ⟨ha, hb⟩ := h
 have h1 : Tryz.prog.keyType 214 = true := by kernel_rfl
 have h2 : Tryz.prog.cellsOf 214 = 2 := by kernel_rfl
 have h3 : Tryz.prog.cellsOf 3 = 1 := by kernel_rfl
 have h3' : Tryz.prog.cellsOf 9 = 1 := by kernel_rfl
 obtain ⟨n, hn⟩ : ∃ n, Tryz.prog.types.size = n + 1 := ⟨Tryz.prog.types.size - 1, by kernel_rfl⟩
 have h4 : Tryz.prog.keyLits (Tryz.prog.types.size + 1) 214 [.string x.1, .int .i64 x.2] = some [.string x.1.data.toList, .int .i64 x.2] := by
  rw [hn]
  unfold Program.keyLits
  rw [Tryz.underlying214]
  simp [h2, h3, h3', int_litsL, str_litsL, ha, hb]
 unfold keyOf
 rw [Tryz.underlying214]
 simp only [h1]
 have h5 : (snV x).formed Tryz.prog 214 = true := by
  simp [snV, Value.formed, Tryz.underlying214, h2]
 rw [h5]
 simp only [snV, Value.cells, h4]
 exact ⟨_, rfl⟩
theorem id_keyed : Keyed Tryz.prog 135 := Keyed.of_law (deep_law (m := 3) (by decide) (by kernel_rfl) (by kernel_rfl) (by kernel_rfl))
theorem id_key (x : IdV) (h : okSN x) : ∃ l, keyOf Tryz.prog 135 (snV x) = some l := by
 obtain ⟨ha, hb⟩ := h
 have h1 : Tryz.prog.keyType 135 = true := by kernel_rfl
 have h2 : Tryz.prog.cellsOf 135 = 2 := by kernel_rfl
 have h3 : Tryz.prog.cellsOf 3 = 1 := by kernel_rfl
 have h3' : Tryz.prog.cellsOf 9 = 1 := by kernel_rfl
 obtain ⟨n, hn⟩ : ∃ n, Tryz.prog.types.size = n + 1 := ⟨Tryz.prog.types.size - 1, by kernel_rfl⟩
 have h4 : Tryz.prog.keyLits (Tryz.prog.types.size + 1) 135 [.string x.1, .int .i64 x.2] = some [.string x.1.data.toList, .int .i64 x.2] := by
  rw [hn]
  unfold Program.keyLits
  rw [Tryz.underlying135]
  simp [h2, h3, h3', int_litsL, str_litsL, ha, hb]
 unfold keyOf
 rw [Tryz.underlying135]
 simp only [h1]
 have h5 : (snV x).formed Tryz.prog 135 = true := by
  simp [snV, Value.formed, Tryz.underlying135, h2]
 rw [h5]
 simp only [snV, Value.cells, h4]
 exact ⟨_, rfl⟩
def strVal (s : ByteArray) : Value := .string s
def strDat (s : ByteArray) : DataW Unit := .lit (.string s.data.toList)
theorem strDat_inj (a b : ByteArray) (h : strDat a = strDat b) : a = b := by
 unfold strDat at h
 simp only [DataW.lit.injEq, Lit.string.injEq] at h
 cases a; cases b
 simp only at h
 rw [Array.toList_inj.1 h]
theorem strVal_inj (a b : ByteArray) (h : strVal a = strVal b) : a = b := by
 unfold strVal at h
 simpa using h
noncomputable def idS : KMap Tryz.prog IdV ByteArray where
 kt := 135
 mt := 140
 vt := 9
 kv := snV
 ok := okSN
 val := strVal
 dat := strDat
 rd := rdOf strVal strDat
 zero := ⟨#[]⟩
 keyed := id_keyed
 key := id_key
 inj := fun _ _ _ _ e => snV_inj e
 rd_mk := rdOf_mk strVal_inj
 rd_inv := fun u v ps h => rdOf_inv strDat_inj h
 und := Tryz.underlying140
 zer := fun w => Tryz.zeroValue9 w
def idI : KMap Tryz.prog IdV Int where
 kt := 135
 mt := 141
 vt := 3
 kv := snV
 ok := okSN
 val := fun v => .int .i64 v
 dat := fun v => .lit (.int .i64 v)
 rd := intRd
 zero := 0
 keyed := id_keyed
 key := id_key
 inj := fun _ _ _ _ e => snV_inj e
 rd_mk := fun _ => rfl
 rd_inv := fun u v ps h => by
  unfold intRd at h
  split at h
  ·simp only [Option.some.injEq, Prod.mk.injEq, DataW.lit.injEq, Lit.int.injEq, true_and] at h
   rw [h.1]
  ·cases h
 und := Tryz.underlying141
 zer := fun w => Tryz.zeroValue3 w
theorem str_keyL (p : ByteArray) (hp : p.size ≤ 1000000) : ∃ l, keyOf Tryz.prog 9 (.string p) = some l := ⟨_, Go.WideMaps.keyOf_string_mk Tryz.underlying9 (by unfold maxLen; omega)⟩
def strB : KMap Tryz.prog ByteArray Bool where
 kt := 9
 mt := 305
 vt := 4
 kv := fun p => .string p
 ok := fun p => p.size ≤ 1000000
 val := fun v => .bool v
 dat := fun v => .lit (.bool v)
 rd := boolRd
 zero := false
 keyed := string_keyed Tryz.underlying9
 key := str_keyL
 inj := fun a b _ _ e => by cases e; rfl
 rd_mk := fun _ => rfl
 rd_inv := fun u v ps h => boolRd_inv h
 und := Tryz.underlying305
 zer := fun w => Tryz.zeroValue4 w
def mapVal (m : Option Nat) : Value := .map m
def mapDat : Option Nat → DataW Unit
 | none => .lit (.bool false)
 | some n => .lit (.int .i64 (n : Int))
theorem mapDat_inj (a b : Option Nat) (h : mapDat a = mapDat b) : a = b := by
 cases a <;> cases b <;> simp [mapDat] at h ⊢
 exact Int.ofNat_inj.1 h
theorem mapVal_inj (a b : Option Nat) (h : mapVal a = mapVal b) : a = b := by
 unfold mapVal at h
 simpa using h
noncomputable def strM : KMap Tryz.prog ByteArray (Option Nat) where
 kt := 9
 mt := 143
 vt := 305
 kv := fun p => .string p
 ok := fun p => p.size ≤ 1000000
 val := mapVal
 dat := mapDat
 rd := rdOf mapVal mapDat
 zero := none
 keyed := string_keyed Tryz.underlying9
 key := str_keyL
 inj := fun a b _ _ e => by cases e; rfl
 rd_mk := rdOf_mk mapVal_inj
 rd_inv := fun u v ps h => rdOf_inv mapDat_inj h
 und := Tryz.underlying143
 zer := fun w => Tryz.zeroValue305 w
theorem int_keyL (k : Int) (h : -1000000000000 ≤ k ∧ k ≤ 1000000000000) : ∃ l, keyOf Tryz.prog 3 (.int .i64 k) = some l := ⟨_, keyOf_int_mk Tryz.underlying3 (int_wfL k h)⟩
noncomputable def intS : KMap Tryz.prog Int ByteArray where
 kt := 3
 mt := 278
 vt := 9
 kv := fun k => .int .i64 k
 ok := fun k => -1000000000000 ≤ k ∧ k ≤ 1000000000000
 val := strVal
 dat := strDat
 rd := rdOf strVal strDat
 zero := ⟨#[]⟩
 keyed := int_keyed Tryz.underlying3
 key := int_keyL
 inj := fun a b _ _ e => by simpa using e
 rd_mk := rdOf_mk strVal_inj
 rd_inv := fun u v ps h => rdOf_inv strDat_inj h
 und := Tryz.underlying278
 zer := fun w => Tryz.zeroValue9 w
def intE : KMap Tryz.prog Int Int where
 kt := 3
 mt := 122
 vt := 36
 kv := fun k => .int .i64 k
 ok := fun k => -1000000000000 ≤ k ∧ k ≤ 1000000000000
 val := fun v => .int .i64 v
 dat := fun v => .lit (.int .i64 v)
 rd := intRd
 zero := 0
 keyed := int_keyed Tryz.underlying3
 key := int_keyL
 inj := fun a b _ _ e => by simpa using e
 rd_mk := fun _ => rfl
 rd_inv := fun u v ps h => by
  unfold intRd at h
  split at h
  ·simp only [Option.some.injEq, Prod.mk.injEq, DataW.lit.injEq, Lit.int.injEq, true_and] at h
   rw [h.1]
  ·cases h
 und := Tryz.underlying122
 zer := fun w => Tryz.zeroValue36 w
def slipVal (x : SlipV) : Value := .agg #[.string x.by_, .int .i64 x.no, .int .i64 x.at_, .int .i64 x.kind, .string x.piece, .int .i64 x.copy, .string x.singer]
def slipDat (x : SlipV) : DataW Unit := .agg [.lit (.string x.by_.data.toList), .lit (.int .i64 x.no), .lit (.int .i64 x.at_), .lit (.int .i64 x.kind), .lit (.string x.piece.data.toList), .lit (.int .i64 x.copy), .lit (.string x.singer.data.toList)]
theorem slipVal_inj (a b : SlipV) (h : slipVal a = slipVal b) : a = b := by
 unfold slipVal at h
 simp only [Value.agg.injEq] at h
 have e2 := congrArg Array.toList h
 simp only [List.cons.injEq, Value.string.injEq, Value.int.injEq, true_and, and_true] at e2
 cases a; cases b
 simp only at e2
 obtain ⟨rfl, rfl, rfl, rfl, rfl, rfl, rfl⟩ := e2
 rfl
theorem ba_inj {a b : ByteArray} (h : a.data.toList = b.data.toList) : a = b := by
 cases a; cases b
 simp only at h
 rw [Array.toList_inj.1 h]
theorem slipDat_inj (a b : SlipV) (h : slipDat a = slipDat b) : a = b := by
 unfold slipDat at h
 simp only [DataW.agg.injEq, List.cons.injEq, DataW.lit.injEq, Lit.string.injEq, Lit.int.injEq, true_and, and_true] at h
 obtain ⟨g1, h2, h3, h4, g5, h6, g7⟩ := h
 have h1 := ba_inj g1
 have h5 := ba_inj g5
 have h7 := ba_inj g7
 clear g1 g5 g7
 cases a; cases b
 simp only at h1 h2 h3 h4 h5 h6 h7
 subst h1 h2 h3 h4 h5 h6 h7
 rfl
noncomputable def ownS : KMap Tryz.prog IdV SlipV where
 kt := 214
 mt := 211
 vt := 79
 kv := snV
 ok := okSN
 val := slipVal
 dat := slipDat
 rd := rdOf slipVal slipDat
 zero := default
 keyed := own_keyed
 key := own_key
 inj := fun _ _ _ _ e => snV_inj e
 rd_mk := rdOf_mk slipVal_inj
 rd_inv := fun u v ps h => rdOf_inv slipDat_inj h
 und := Tryz.underlying211
 zer := fun w => Tryz.zeroValue79 w
end Go.Proofs.YtehboinleolihaaGreatDoor
