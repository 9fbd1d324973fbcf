/- More of own maps: an entry that is struck, a map that is none, kinds of maps made easily. Conditions: as each theorem says. The kinds of maps of a library of copies. Conditions: as each theorem says. -/
import Derived.Test.YtjggcofjgeiapaaGreatDoorCwKmA
import Derived.Test.YtjggcofjgeiapaaGreatDoorCwJ20
set_option linter.unusedSimpArgs false
set_option linter.unusedVariables false
namespace Go.Proofs.YtjggcofjgeiapaaGreatDoor
open Go Go.RowKit Go.Maps

section
variable {ν : Type} {val : ν → Value} {dat : ν → DataW Unit}
open Classical in
noncomputable def rdOf (val : ν → Value) (dat : ν → DataW Unit) (v : Value) : Option (DataW Unit × List MemPlace) := if h : ∃ x, v = val x then some (dat h.choose, []) else none
theorem rdOf_mk (hi : ∀ a b, val a = val b → a = b) (v : ν) : rdOf val dat (val v) = some (dat v, []) := by
  have h : ∃ x, val v = val x := ⟨v, rfl⟩
  unfold rdOf
  rw [dif_pos h, ← hi _ _ h.choose_spec]
theorem rdOf_inv (hd : ∀ a b, dat a = dat b → a = b) {u : Value} {v : ν} {ps : List MemPlace} (h : rdOf val dat u = some (dat v, ps)) : u = val v := by
  unfold rdOf at h
  split at h
  · rename_i hx
    have e := congrArg Prod.fst (Option.some.inj h)
    rw [← hd _ _ e]
    exact hx.choose_spec
  · cases h
end
section
variable {P : Program} {κ ν : Type} {M : KMap P κ ν}
def strikeK [DecidableEq κ] (f : κ → Option ν) (k : κ) : κ → Option ν := fun q => if q = k then none else f q
theorem OwnX.lookB {w : World} {b n : Nat} {f : κ → Option ν} (h : OwnX M w b n f) {k : κ} (hk : M.ok k) :
    (Instr.lookup M.mt (.map (some b)) (M.kv k) false).run P w = .ok (M.val ((f k).getD M.zero)) w := by
  obtain ⟨D, hD, hsz, hT, h1, h2, h4⟩ := h
  exact OwnK.look (n := n) ⟨D, by rw [hsz]; exact hD, hT, h1, h2, by omega⟩ hk
theorem look_none {w : World} {k : κ} (hk : M.ok k) : (Instr.lookup M.mt (.map none) (M.kv k) false).run P w = .ok (M.val M.zero) w := by
  obtain ⟨l, hl⟩ := M.key k hk
  exact Maps.look_nil false M.keyed M.und (M.zer w) hl
theorem OwnX.drop [DecidableEq κ] {w : World} {b n : Nat} {f : κ → Option ν} (h : OwnX M w b n f) {k : κ} (hk : M.ok k) (ty : TypeId) :
    ∃ w', (Builtin.delete_ #[M.mt, M.kt] ty #[.map (some b), M.kv k]).run P w = .ok (.tuple #[]) w' ∧ OwnX M w' b (if (f k).isSome then n - 1 else n) (strikeK f k) ∧ w.grownBy w' (some b) := by
  obtain ⟨D, hD, hsz, hT, h1, h2, h4⟩ := h
  obtain ⟨l, hl⟩ := M.key k hk
  obtain ⟨w', hrun, hD', hg⟩ := hD.drop M.keyed M.und hl ty
  have hs := size_del hT (k := l)
  rw [h1 k l hk hl] at hs
  have hsz' : Maps.size (D.del l) = if (f k).isSome then n - 1 else n := by split <;> simp_all <;> omega
  refine ⟨w', hrun, ⟨D.del l, by rw [← hsz']; exact ownv_sized hD', hsz', hT.del l, fun q lq hq hlq => ?_, fun q lq u hq hlq hu z => ?_, fun lq hlq => ?_⟩, hg.grown⟩
  · unfold strikeK
    by_cases e : q = k
    · subst e
      have : lq = l := Option.some.inj (hlq.symm.trans hl)
      subst this
      rw [if_pos rfl, has_del_same]; rfl
    · rw [if_neg e, has_del_other (KMap.lit_ne hq hk hlq hl e)]; exact h1 q lq hq hlq
  · unfold strikeK at hu
    by_cases e : q = k
    · rw [if_pos e] at hu; cases hu
    · rw [if_neg e] at hu; rw [atKey_del_other (KMap.lit_ne hq hk hlq hl e)]; exact h2 q lq u hq hlq hu z
  · by_cases e : lq = l
    · subst e; rw [has_del_same] at hlq; cases hlq
    · rw [has_del_other e] at hlq
      exact h4 lq hlq
theorem blk_mapK_ne {w : World} {b n g : Nat} {f : κ → Option ν} (h : OwnK M w b n f) {t : TypeId} {cs : Array Value} (hB : Blk w g t cs) : g ≠ b := by
  obtain ⟨D, ⟨es, clock, hb, -⟩, -⟩ := h
  rintro rfl
  have h3 : w.heap[g]? = some (.cells cs t) := hB
  rw [h3] at hb
  cases hb
theorem blk_mapX_ne {w : World} {b n g : Nat} {f : κ → Option ν} (h : OwnX M w b n f) {t : TypeId} {cs : Array Value} (hB : Blk w g t cs) : g ≠ b := by
  obtain ⟨D, ⟨es, clock, hb, -⟩, -⟩ := h
  rintro rfl
  have h3 : w.heap[g]? = some (.cells cs t) := hB
  rw [h3] at hb
  cases hb
theorem OwnX.toK {w : World} {b n : Nat} {f : κ → Option ν} (h : OwnX M w b n f) : OwnK M w b n f := by
  obtain ⟨D, hD, hsz, hT, h1, h2, h4⟩ := h
  exact ⟨D, by rw [hsz]; exact hD, hT, h1, h2, by omega⟩
theorem OwnK.at_ {w w' : World} {b n : Nat} {f : κ → Option ν} (h : OwnK M w b n f) (hb : w'.heap[b]? = w.heap[b]?) : OwnK M w' b n f := by
  obtain ⟨D, ⟨es, clock, a1, a2⟩, h2⟩ := h
  exact ⟨D, ⟨es, clock, hb.trans a1, a2⟩, h2⟩
end
section
variable {P : Program} {ops : Array Oper} {rest : List Oper} {o : Oper} {a : Act} {w : World} {Q : Exit → Act → World → Prop}
theorem wpList_dropM (hg : o.guard = none) (m x : Operand) (t k : TypeId) (hop : o.op = Op.call { callee := Callee.builtin Builtin.delete, args := #[m, x], argTypes := #[t, k] }) (mv kv : Value) (hm : a.eval m = mv) (hx : a.eval x = kv) (w' : World)
    (hrun : ∀ ty, (Builtin.delete_ #[t, k] ty #[mv, kv]).run P w = .ok (.tuple #[]) w') (hK : wpList P ops Q rest (a.put o.dst (.tuple #[])) w') : wpList P ops Q (o :: rest) a w := by
  refine wpList_plain hg fun K' hK' => ?_
  unfold Oper.wp
  simp [execOp, hop, resolve, invoke, builtin, hm, hx, hrun, Result.andThen]
  exact hK' _ _ hK
end
end Go.Proofs.YtjggcofjgeiapaaGreatDoor

namespace Go.Proofs.YtjggcofjgeiapaaGreatDoor
open Go Go.RowKit Go.Maps Go.WideMaps

/-- A key of a string and a number. -/
def snV (x : IdV) : Value := .agg #[.string x.1, .int .i64 x.2]
def okSN (x : IdV) : Prop := x.1.size ≤ 1000000 ∧ -1000000000000 ≤ x.2 ∧ x.2 ≤ 1000000000000
theorem snV_inj {x y : IdV} (e : snV x = snV y) : x = y := by
  have e1 : #[Value.string x.1, Value.int .i64 x.2] = #[Value.string y.1, Value.int .i64 y.2] := by
    injection e
  have e2 := congrArg Array.toList e1
  simp only [List.cons.injEq, Value.string.injEq, Value.int.injEq, true_and, and_true] at e2
  exact Prod.ext e2.1 e2.2
theorem int_wfL (n : Int) (h : -1000000000000 ≤ n ∧ n ≤ 1000000000000) : (Lit.int .i64 n).wf = true := by
  have h1 : IntKind.i64.min = -9223372036854775808 := by decide
  have h2 : IntKind.i64.max = 9223372036854775807 := by decide
  unfold Lit.wf
  simp only [h1, h2, Bool.and_eq_true, decide_eq_true_eq]
  omega
theorem int_litsL (d : Nat) (n : Int) (h : -1000000000000 ≤ n ∧ n ≤ 1000000000000) : Tryz.prog.keyLits (d + 1) 3 [.int .i64 n] = some [.int .i64 n] := by
  have hw := int_wfL n h
  unfold Program.keyLits
  rw [Tryz.underlying3]
  simp [hw]
theorem str_litsL (d : Nat) (s : ByteArray) (h : s.size ≤ 1000000) : Tryz.prog.keyLits (d + 1) 9 [.string s] = some [.string s.data.toList] := by
  have hw : s.size ≤ maxLen := by unfold maxLen; omega
  unfold Program.keyLits
  rw [Tryz.underlying9]
  simp [hw]
theorem id_keyed : Keyed Tryz.prog 109 := Keyed.of_law (deep_law (m := 3) (by decide) (by kernel_rfl) (by kernel_rfl) (by kernel_rfl))
theorem id_key (x : IdV) (h : okSN x) : ∃ l, keyOf Tryz.prog 109 (snV x) = some l := by
  obtain ⟨ha, hb⟩ := h
  have h1 : Tryz.prog.keyType 109 = true := by kernel_rfl
  have h2 : Tryz.prog.cellsOf 109 = 2 := by kernel_rfl
  have h3 : Tryz.prog.cellsOf 3 = 1 := by kernel_rfl
  have h3' : Tryz.prog.cellsOf 9 = 1 := by kernel_rfl
  obtain ⟨n, hn⟩ : ∃ n, Tryz.prog.types.size = n + 1 := ⟨Tryz.prog.types.size - 1, by kernel_rfl⟩
  have h4 : Tryz.prog.keyLits (Tryz.prog.types.size + 1) 109 [.string x.1, .int .i64 x.2] = some [.string x.1.data.toList, .int .i64 x.2] := by
    rw [hn]
    unfold Program.keyLits
    rw [Tryz.underlying109]
    simp [h2, h3, h3', int_litsL, str_litsL, ha, hb]
  unfold keyOf
  rw [Tryz.underlying109]
  simp only [h1]
  have h5 : (snV x).formed Tryz.prog 109 = true := by
    simp [snV, Value.formed, Tryz.underlying109, h2]
  rw [h5]
  simp only [snV, Value.cells, h4]
  exact ⟨_, rfl⟩
def strVal (s : ByteArray) : Value := .string s
def strDat (s : ByteArray) : DataW Unit := .lit (.string s.data.toList)
theorem strDat_inj (a b : ByteArray) (h : strDat a = strDat b) : a = b := by
  unfold strDat at h
  simp only [DataW.lit.injEq, Lit.string.injEq] at h
  cases a; cases b
  simp only at h
  rw [Array.toList_inj.1 h]
theorem strVal_inj (a b : ByteArray) (h : strVal a = strVal b) : a = b := by
  unfold strVal at h
  simpa using h
noncomputable def idS : KMap Tryz.prog IdV ByteArray where
  kt := 109
  mt := 110
  vt := 9
  kv := snV
  ok := okSN
  val := strVal
  dat := strDat
  rd := rdOf strVal strDat
  zero := ⟨#[]⟩
  keyed := id_keyed
  key := id_key
  inj := fun _ _ _ _ e => snV_inj e
  rd_mk := rdOf_mk strVal_inj
  rd_inv := fun u v ps h => rdOf_inv strDat_inj h
  und := Tryz.underlying110
  zer := fun w => Tryz.zeroValue9 w
def idI : KMap Tryz.prog IdV Int where
  kt := 109
  mt := 111
  vt := 3
  kv := snV
  ok := okSN
  val := fun v => .int .i64 v
  dat := fun v => .lit (.int .i64 v)
  rd := intRd
  zero := 0
  keyed := id_keyed
  key := id_key
  inj := fun _ _ _ _ e => snV_inj e
  rd_mk := fun _ => rfl
  rd_inv := fun u v ps h => by
    unfold intRd at h
    split at h
    · simp only [Option.some.injEq, Prod.mk.injEq, DataW.lit.injEq, Lit.int.injEq, true_and] at h
      rw [h.1]
    · cases h
  und := Tryz.underlying111
  zer := fun w => Tryz.zeroValue3 w
theorem str_keyL (p : ByteArray) (hp : p.size ≤ 1000000) : ∃ l, keyOf Tryz.prog 9 (.string p) = some l := ⟨_, Go.WideMaps.keyOf_string_mk Tryz.underlying9 (by unfold maxLen; omega)⟩
def strB : KMap Tryz.prog ByteArray Bool where
  kt := 9
  mt := 218
  vt := 4
  kv := fun p => .string p
  ok := fun p => p.size ≤ 1000000
  val := fun v => .bool v
  dat := fun v => .lit (.bool v)
  rd := boolRd
  zero := false
  keyed := string_keyed Tryz.underlying9
  key := str_keyL
  inj := fun a b _ _ e => by cases e; rfl
  rd_mk := fun _ => rfl
  rd_inv := fun u v ps h => boolRd_inv h
  und := Tryz.underlying218
  zer := fun w => Tryz.zeroValue4 w
def mapVal (m : Option Nat) : Value := .map m
def mapDat : Option Nat → DataW Unit
  | none => .lit (.bool false)
  | some n => .lit (.int .i64 (n : Int))
theorem mapDat_inj (a b : Option Nat) (h : mapDat a = mapDat b) : a = b := by
  cases a <;> cases b <;> simp [mapDat] at h ⊢
  exact Int.ofNat_inj.1 h
theorem mapVal_inj (a b : Option Nat) (h : mapVal a = mapVal b) : a = b := by
  unfold mapVal at h
  simpa using h
noncomputable def strM : KMap Tryz.prog ByteArray (Option Nat) where
  kt := 9
  mt := 113
  vt := 218
  kv := fun p => .string p
  ok := fun p => p.size ≤ 1000000
  val := mapVal
  dat := mapDat
  rd := rdOf mapVal mapDat
  zero := none
  keyed := string_keyed Tryz.underlying9
  key := str_keyL
  inj := fun a b _ _ e => by cases e; rfl
  rd_mk := rdOf_mk mapVal_inj
  rd_inv := fun u v ps h => rdOf_inv mapDat_inj h
  und := Tryz.underlying113
  zer := fun w => Tryz.zeroValue218 w
theorem int_keyL (k : Int) (h : -1000000000000 ≤ k ∧ k ≤ 1000000000000) : ∃ l, keyOf Tryz.prog 3 (.int .i64 k) = some l := ⟨_, keyOf_int_mk Tryz.underlying3 (int_wfL k h)⟩
noncomputable def intS : KMap Tryz.prog Int ByteArray where
  kt := 3
  mt := 246
  vt := 9
  kv := fun k => .int .i64 k
  ok := fun k => -1000000000000 ≤ k ∧ k ≤ 1000000000000
  val := strVal
  dat := strDat
  rd := rdOf strVal strDat
  zero := ⟨#[]⟩
  keyed := int_keyed Tryz.underlying3
  key := int_keyL
  inj := fun a b _ _ e => by simpa using e
  rd_mk := rdOf_mk strVal_inj
  rd_inv := fun u v ps h => rdOf_inv strDat_inj h
  und := Tryz.underlying246
  zer := fun w => Tryz.zeroValue9 w
def intE : KMap Tryz.prog Int Int where
  kt := 3
  mt := 140
  vt := 34
  kv := fun k => .int .i64 k
  ok := fun k => -1000000000000 ≤ k ∧ k ≤ 1000000000000
  val := fun v => .int .i64 v
  dat := fun v => .lit (.int .i64 v)
  rd := intRd
  zero := 0
  keyed := int_keyed Tryz.underlying3
  key := int_keyL
  inj := fun a b _ _ e => by simpa using e
  rd_mk := fun _ => rfl
  rd_inv := fun u v ps h => by
    unfold intRd at h
    split at h
    · simp only [Option.some.injEq, Prod.mk.injEq, DataW.lit.injEq, Lit.int.injEq, true_and] at h
      rw [h.1]
    · cases h
  und := Tryz.underlying140
  zer := fun w => Tryz.zeroValue34 w
def slipVal (x : SlipV) : Value := .agg #[.string x.by_, .int .i64 x.no, .int .i64 x.at_, .int .i64 x.kind, .string x.piece, .int .i64 x.copy, .string x.singer]
end Go.Proofs.YtjggcofjgeiapaaGreatDoor
