/- More of own maps: an entry that is struck, a map that is none, kinds of maps made easily. Conditions: as each theorem says. The kinds of maps of a library of copies. Conditions: as each theorem says. Slips of two lists are merged: the walk. Conditions: sizes. The maps of a library of copies in memory. Conditions: as each theorem says. -/
import Derived.Test.YtkjhbofbcmelgaaGreatDoorEzJ16
import Derived.Test.YtkjhbofbcmelgaaGreatDoorEzJ14
import Derived.Test.YtkjhbofbcmelgaaGreatDoorEzJ11
import Derived.Shelf.SlSortCmp.NoneTotal
set_option linter.unusedSimpArgs false
set_option linter.unusedVariables false
namespace Go.Proofs.YtkjhbofbcmelgaaGreatDoor
open Go Go.RowKit Go.Maps
section
variable {ν : Type} {val : ν → Value} {dat : ν → DataW Unit}
open Classical in
noncomputable def rdOf (val : ν → Value) (dat : ν → DataW Unit) (v : Value) : Option (DataW Unit × List MemPlace) := if h : ∃ x, v = val x then some (dat h.choose, []) else none
theorem rdOf_mk (hi : ∀ a b, val a = val b → a = b) (v : ν) : rdOf val dat (val v) = some (dat v, []) := by
 have h : ∃ x, val v = val x := ⟨v, rfl⟩
 unfold rdOf
 rw [dif_pos h, ← hi _ _ h.choose_spec]
theorem rdOf_inv (hd : ∀ a b, dat a = dat b → a = b) {u : Value} {v : ν} {ps : List MemPlace} (h : rdOf val dat u = some (dat v, ps)) : u = val v := by
 unfold rdOf at h
 split at h
 ·rename_i hx
  have e := congrArg Prod.fst (Option.some.inj h)
  rw [← hd _ _ e]
  exact hx.choose_spec
 ·cases h
end
section
variable {P : Program} {κ ν : Type} {M : KMap P κ ν}
def strikeK [DecidableEq κ] (f : κ → Option ν) (k : κ) : κ → Option ν := fun q => if q = k then none else f q
theorem OwnX.lookB {w : World} {b n : Nat} {f : κ → Option ν} (h : OwnX M w b n f) {k : κ} (hk : M.ok k) :
 (Instr.lookup M.mt (.map (some b)) (M.kv k) false).run P w = .ok (M.val ((f k).getD M.zero)) w := by
 obtain ⟨D, hD, hsz, hT, h1, h2, h4⟩ := h
 exact OwnK.look (n := n) ⟨D, by rw [hsz]; exact hD, hT, h1, h2, by omega⟩ hk
theorem look_none {w : World} {k : κ} (hk : M.ok k) : (Instr.lookup M.mt (.map none) (M.kv k) false).run P w = .ok (M.val M.zero) w := by
 obtain ⟨l, hl⟩ := M.key k hk
 exact Maps.look_nil false M.keyed M.und (M.zer w) hl
theorem OwnX.drop [DecidableEq κ] {w : World} {b n : Nat} {f : κ → Option ν} (h : OwnX M w b n f) {k : κ} (hk : M.ok k) (ty : TypeId) :
 ∃ w', (Builtin.delete_ #[M.mt, M.kt] ty #[.map (some b), M.kv k]).run P w = .ok (.tuple #[]) w' ∧ OwnX M w' b (if (f k).isSome then n - 1 else n) (strikeK f k) ∧ w.grownBy w' (some b) := by
 obtain ⟨D, hD, hsz, hT, h1, h2, h4⟩ := h
 obtain ⟨l, hl⟩ := M.key k hk
 obtain ⟨w', hrun, hD', hg⟩ := hD.drop M.keyed M.und hl ty
 have hs := size_del hT (k := l)
 rw [h1 k l hk hl] at hs
 have hsz' : Maps.size (D.del l) = if (f k).isSome then n - 1 else n := by split <;> simp_all <;> omega
 refine ⟨w', hrun, ⟨D.del l, by rw [← hsz']; exact ownv_sized hD', hsz', hT.del l, fun q lq hq hlq => ?_, fun q lq u hq hlq hu z => ?_, fun lq hlq => ?_⟩, hg.grown⟩
 ·unfold strikeK
  by_cases e : q = k
  ·subst e
   have : lq = l := Option.some.inj (hlq.symm.trans hl)
   subst this
   rw [if_pos rfl, has_del_same]; rfl
  ·rw [if_neg e, has_del_other (KMap.lit_ne hq hk hlq hl e)]; exact h1 q lq hq hlq
 ·unfold strikeK at hu
  by_cases e : q = k
  ·rw [if_pos e] at hu; cases hu
  ·rw [if_neg e] at hu; rw [atKey_del_other (KMap.lit_ne hq hk hlq hl e)]; exact h2 q lq u hq hlq hu z
 ·by_cases e : lq = l
  ·subst e; rw [has_del_same] at hlq; cases hlq
  ·rw [has_del_other e] at hlq
   exact h4 lq hlq
theorem blk_mapK_ne {w : World} {b n g : Nat} {f : κ → Option ν} (h : OwnK M w b n f) {t : TypeId} {cs : Array Value} (hB : Blk w g t cs) : g ≠ b := by
 obtain ⟨D, ⟨es, clock, hb, -⟩, -⟩ := h
 rintro rfl
 have h3 : w.heap[g]? = some (.cells cs t) := hB
 rw [h3] at hb
 cases hb
theorem blk_mapX_ne {w : World} {b n g : Nat} {f : κ → Option ν} (h : OwnX M w b n f) {t : TypeId} {cs : Array Value} (hB : Blk w g t cs) : g ≠ b := by
 obtain ⟨D, ⟨es, clock, hb, -⟩, -⟩ := h
 rintro rfl
 have h3 : w.heap[g]? = some (.cells cs t) := hB
 rw [h3] at hb
 cases hb
theorem OwnX.toK {w : World} {b n : Nat} {f : κ → Option ν} (h : OwnX M w b n f) : OwnK M w b n f := by
 obtain ⟨D, hD, hsz, hT, h1, h2, h4⟩ := h
 exact ⟨D, by rw [hsz]; exact hD, hT, h1, h2, by omega⟩
theorem OwnK.at_ {w w' : World} {b n : Nat} {f : κ → Option ν} (h : OwnK M w b n f) (hb : w'.heap[b]? = w.heap[b]?) : OwnK M w' b n f := by
 obtain ⟨D, ⟨es, clock, a1, a2⟩, h2⟩ := h
 exact ⟨D, ⟨es, clock, hb.trans a1, a2⟩, h2⟩
end
section
variable {P : Program} {ops : Array Oper} {rest : List Oper} {o : Oper} {a : Act} {w : World} {Q : Exit → Act → World → Prop}
theorem wpList_dropM (hg : o.guard = none) (m x : Operand) (t k : TypeId) (hop : o.op = Op.call { callee := Callee.builtin Builtin.delete, args := #[m, x], argTypes := #[t, k] }) (mv kv : Value) (hm : a.eval m = mv) (hx : a.eval x = kv) (w' : World)
 (hrun : ∀ ty, (Builtin.delete_ #[t, k] ty #[mv, kv]).run P w = .ok (.tuple #[]) w') (hK : wpList P ops Q rest (a.put o.dst (.tuple #[])) w') : wpList P ops Q (o :: rest) a w := by
 refine wpList_plain hg fun K' hK' => ?_
 unfold Oper.wp
 simp [execOp, hop, resolve, invoke, builtin, hm, hx, hrun, Result.andThen]
 exact hK' _ _ hK
end
end Go.Proofs.YtkjhbofbcmelgaaGreatDoor
namespace Go.Proofs.YtkjhbofbcmelgaaGreatDoor
open Go Go.RowKit Go.Maps Go.WideMaps
/-- A key of a string and a number. -/
def snV (x : IdV) : Value := .agg #[.string x.1, .int .i64 x.2]
def okSN (x : IdV) : Prop := x.1.size ≤ 1000000 ∧ -1000000000000 ≤ x.2 ∧ x.2 ≤ 1000000000000
theorem snV_inj {x y : IdV} (e : snV x = snV y) : x = y := by
 have e1 : #[Value.string x.1, Value.int .i64 x.2] = #[Value.string y.1, Value.int .i64 y.2] := by
  injection e
 have e2 := congrArg Array.toList e1
 simp only [List.cons.injEq, Value.string.injEq, Value.int.injEq, true_and, and_true] at e2
 exact Prod.ext e2.1 e2.2
theorem int_wfL (n : Int) (h : -1000000000000 ≤ n ∧ n ≤ 1000000000000) : (Lit.int .i64 n).wf = true := by
 have h1 : IntKind.i64.min = -9223372036854775808 := by decide
 have h2 : IntKind.i64.max = 9223372036854775807 := by decide
 unfold Lit.wf
 simp only [h1, h2, Bool.and_eq_true, decide_eq_true_eq]
 omega
theorem int_litsL (d : Nat) (n : Int) (h : -1000000000000 ≤ n ∧ n ≤ 1000000000000) : Tryz.prog.keyLits (d + 1) 3 [.int .i64 n] = some [.int .i64 n] := by
 have hw := int_wfL n h
 unfold Program.keyLits
 rw [Tryz.underlying3]
 simp [hw]
theorem str_litsL (d : Nat) (s : ByteArray) (h : s.size ≤ 1000000) : Tryz.prog.keyLits (d + 1) 9 [.string s] = some [.string s.data.toList] := by
 have hw : s.size ≤ maxLen := by unfold maxLen; omega
 unfold Program.keyLits
 rw [Tryz.underlying9]
 simp [hw]
theorem id_keyed : Keyed Tryz.prog 120 := Keyed.of_law (deep_law (m := 3) (by decide) (by kernel_rfl) (by kernel_rfl) (by kernel_rfl))
theorem id_key (x : IdV) (h : okSN x) : ∃ l, keyOf Tryz.prog 120 (snV x) = some l := by
 obtain ⟨ha, hb⟩ := h
 have h1 : Tryz.prog.keyType 120 = true := by kernel_rfl
 have h2 : Tryz.prog.cellsOf 120 = 2 := by kernel_rfl
 have h3 : Tryz.prog.cellsOf 3 = 1 := by kernel_rfl
 have h3' : Tryz.prog.cellsOf 9 = 1 := by kernel_rfl
 obtain ⟨n, hn⟩ : ∃ n, Tryz.prog.types.size = n + 1 := ⟨Tryz.prog.types.size - 1, by kernel_rfl⟩
 have h4 : Tryz.prog.keyLits (Tryz.prog.types.size + 1) 120 [.string x.1, .int .i64 x.2] = some [.string x.1.data.toList, .int .i64 x.2] := by
  rw [hn]
  unfold Program.keyLits
  rw [Tryz.underlying120]
  simp [h2, h3, h3', int_litsL, str_litsL, ha, hb]
 unfold keyOf
 rw [Tryz.underlying120]
 simp only [h1]
 have h5 : (snV x).formed Tryz.prog 120 = true := by
  simp [snV, Value.formed, Tryz.underlying120, h2]
 rw [h5]
 simp only [snV, Value.cells, h4]
 exact ⟨_, rfl⟩
def strVal (s : ByteArray) : Value := .string s
def strDat (s : ByteArray) : DataW Unit := .lit (.string s.data.toList)
theorem strDat_inj (a b : ByteArray) (h : strDat a = strDat b) : a = b := by
 unfold strDat at h
 simp only [DataW.lit.injEq, Lit.string.injEq] at h
 cases a; cases b
 simp only at h
 rw [Array.toList_inj.1 h]
theorem strVal_inj (a b : ByteArray) (h : strVal a = strVal b) : a = b := by
 unfold strVal at h
 simpa using h
noncomputable def idS : KMap Tryz.prog IdV ByteArray where
 kt := 120
 mt := 125
 vt := 9
 kv := snV
 ok := okSN
 val := strVal
 dat := strDat
 rd := rdOf strVal strDat
 zero := ⟨#[]⟩
 keyed := id_keyed
 key := id_key
 inj := fun _ _ _ _ e => snV_inj e
 rd_mk := rdOf_mk strVal_inj
 rd_inv := fun u v ps h => rdOf_inv strDat_inj h
 und := Tryz.underlying125
 zer := fun w => Tryz.zeroValue9 w
def idI : KMap Tryz.prog IdV Int where
 kt := 120
 mt := 126
 vt := 3
 kv := snV
 ok := okSN
 val := fun v => .int .i64 v
 dat := fun v => .lit (.int .i64 v)
 rd := intRd
 zero := 0
 keyed := id_keyed
 key := id_key
 inj := fun _ _ _ _ e => snV_inj e
 rd_mk := fun _ => rfl
 rd_inv := fun u v ps h => by
  unfold intRd at h
  split at h
  ·simp only [Option.some.injEq, Prod.mk.injEq, DataW.lit.injEq, Lit.int.injEq, true_and] at h
   rw [h.1]
  ·cases h
 und := Tryz.underlying126
 zer := fun w => Tryz.zeroValue3 w
theorem str_keyL (p : ByteArray) (hp : p.size ≤ 1000000) : ∃ l, keyOf Tryz.prog 9 (.string p) = some l := ⟨_, Go.WideMaps.keyOf_string_mk Tryz.underlying9 (by unfold maxLen; omega)⟩
def strB : KMap Tryz.prog ByteArray Bool where
 kt := 9
 mt := 255
 vt := 4
 kv := fun p => .string p
 ok := fun p => p.size ≤ 1000000
 val := fun v => .bool v
 dat := fun v => .lit (.bool v)
 rd := boolRd
 zero := false
 keyed := string_keyed Tryz.underlying9
 key := str_keyL
 inj := fun a b _ _ e => by cases e; rfl
 rd_mk := fun _ => rfl
 rd_inv := fun u v ps h => boolRd_inv h
 und := Tryz.underlying255
 zer := fun w => Tryz.zeroValue4 w
def mapVal (m : Option Nat) : Value := .map m
def mapDat : Option Nat → DataW Unit
 | none => .lit (.bool false)
 | some n => .lit (.int .i64 (n : Int))
theorem mapDat_inj (a b : Option Nat) (h : mapDat a = mapDat b) : a = b := by
 cases a <;> cases b <;> simp [mapDat] at h ⊢
 exact Int.ofNat_inj.1 h
theorem mapVal_inj (a b : Option Nat) (h : mapVal a = mapVal b) : a = b := by
 unfold mapVal at h
 simpa using h
noncomputable def strM : KMap Tryz.prog ByteArray (Option Nat) where
 kt := 9
 mt := 128
 vt := 255
 kv := fun p => .string p
 ok := fun p => p.size ≤ 1000000
 val := mapVal
 dat := mapDat
 rd := rdOf mapVal mapDat
 zero := none
 keyed := string_keyed Tryz.underlying9
 key := str_keyL
 inj := fun a b _ _ e => by cases e; rfl
 rd_mk := rdOf_mk mapVal_inj
 rd_inv := fun u v ps h => rdOf_inv mapDat_inj h
 und := Tryz.underlying128
 zer := fun w => Tryz.zeroValue255 w
theorem int_keyL (k : Int) (h : -1000000000000 ≤ k ∧ k ≤ 1000000000000) : ∃ l, keyOf Tryz.prog 3 (.int .i64 k) = some l := ⟨_, keyOf_int_mk Tryz.underlying3 (int_wfL k h)⟩
noncomputable def intS : KMap Tryz.prog Int ByteArray where
 kt := 3
 mt := 216
 vt := 9
 kv := fun k => .int .i64 k
 ok := fun k => -1000000000000 ≤ k ∧ k ≤ 1000000000000
 val := strVal
 dat := strDat
 rd := rdOf strVal strDat
 zero := ⟨#[]⟩
 keyed := int_keyed Tryz.underlying3
 key := int_keyL
 inj := fun a b _ _ e => by simpa using e
 rd_mk := rdOf_mk strVal_inj
 rd_inv := fun u v ps h => rdOf_inv strDat_inj h
 und := Tryz.underlying216
 zer := fun w => Tryz.zeroValue9 w
def intE : KMap Tryz.prog Int Int where
 kt := 3
 mt := 107
 vt := 36
 kv := fun k => .int .i64 k
 ok := fun k => -1000000000000 ≤ k ∧ k ≤ 1000000000000
 val := fun v => .int .i64 v
 dat := fun v => .lit (.int .i64 v)
 rd := intRd
 zero := 0
 keyed := int_keyed Tryz.underlying3
 key := int_keyL
 inj := fun a b _ _ e => by simpa using e
 rd_mk := fun _ => rfl
 rd_inv := fun u v ps h => by
  unfold intRd at h
  split at h
  ·simp only [Option.some.injEq, Prod.mk.injEq, DataW.lit.injEq, Lit.int.injEq, true_and] at h
   rw [h.1]
  ·cases h
 und := Tryz.underlying107
 zer := fun w => Tryz.zeroValue36 w
def slipVal (x : SlipV) : Value := .agg #[.string x.by_, .int .i64 x.no, .int .i64 x.at_, .int .i64 x.kind, .string x.piece, .int .i64 x.copy, .string x.singer]
end Go.Proofs.YtkjhbofbcmelgaaGreatDoor
namespace Go.Proofs.YtkjhbofbcmelgaaGreatDoor
open Go Go.RowKit Go.Maps Go.Sort
/-! ### the sort -/
theorem ltS_iff (a b : SlipV) : ltOf sliO a b = true ↔ sliLt a b := by
 rw [← sliLt_iff]
 unfold ltOf
 exact decide_eq_true_iff
theorem sliLt_left {a b c : SlipV} (e : a.by_ = b.by_ ∧ a.no = b.no) (h : sliLt a c) : sliLt b c := by
 unfold sliLt at h ⊢
 rw [← e.1, ← e.2]
 exact h
theorem sli_swo : SWO (ltOf sliO) where
 irrefl x := by
  rw [← Bool.not_eq_true, ltS_iff]
  exact fun h => sliLt_asym h h
 trans x y z h1 h2 := by
  rw [ltS_iff] at *
  exact sliLt_trans h1 h2
 ntrans x y z h1 h2 := by
  rw [← Bool.not_eq_true, ltS_iff] at *
  intro h
  rcases sliLt_tri x y with k | k | k
  ·exact h1 k
  ·exact h2 (sliLt_trans k h)
  ·exact h2 (sliLt_left k h)
/-! ### the merge -/
theorem ExtS.turned {s : Nat} {a b c : World} (h : ExtS s a b) (hg : b.grownBy c (some s)) : ExtS s a c := h.trans ⟨hg.os, hg.tape, hg.output, hg.size, fun k hk hn => hg.block k hk fun e => hn (by simpa using e)⟩
end Go.Proofs.YtkjhbofbcmelgaaGreatDoor
namespace Go.Proofs.YtkjhbofbcmelgaaGreatDoor
open Go Go.RowKit Go.Maps
section
variable {P : Program} {κ ν : Type} {M : KMap P κ ν}
theorem OwnK.isMap {w : World} {b n : Nat} {f : κ → Option ν} (h : OwnK M w b n f) : ∃ es c, w.heap[b]? = some (.map es c) := by
 obtain ⟨D, ⟨es, clock, hb, -⟩, -⟩ := h
 exact ⟨es, clock, hb⟩
theorem OwnX.isMap {w : World} {b n : Nat} {f : κ → Option ν} (h : OwnX M w b n f) : ∃ es c, w.heap[b]? = some (.map es c) := h.toK.isMap
end
/-- A row that is no map. -/
def NoMap (w : World) (row : Option Nat) : Prop := ∀ b es c, w.heap[b]? = some (.map es c) → some b ≠ row
theorem NoMap.none (w : World) : NoMap w none := fun _ _ _ _ => by simp
theorem NoMap.blk {w : World} {g : Nat} {t : TypeId} {cs : Array Value} (h : Blk w g t cs) : NoMap w (some g) := fun b es c hb e => by
 cases e
 have h3 : w.heap[g]? = some (.cells cs t) := h
 rw [h3] at hb
 cases hb
def memF (l : List ByteArray) : ByteArray → Option Bool := fun p => if p ∈ l then some true else none
structure Inner (base : Nat) (w : World) (ms ml mh b : Nat) (l : List ByteArray) : Prop where
 low : base ≤ b
 ns : b ≠ ms
 nl : b ≠ ml
 nh : b ≠ mh
 own : OwnX strB w b l.length (memF l)
theorem Inner.grown {base : Nat} {w w' : World} {ms ml mh b : Nat} {l : List ByteArray} (h : Inner base w ms ml mh b l) {row : Option Nat} (hg : w.grownBy w' row) (hne : some b ≠ row) : Inner base w' ms ml mh b l :=
 ⟨h.low, h.ns, h.nl, h.nh, h.own.grown hg hne⟩
/-- What singers have. -/
def HasM (base : Nat) (w : World) (ms ml mh q : Nat) (H : ByteArray → Option (List ByteArray)) : Prop :=
 ∃ f : ByteArray → Option (Option Nat), OwnK strM w mh q f ∧ (∀ s, f s = none ↔ H s = none) ∧ (∀ s l, H s = some l → ∃ b, f s = some (some b) ∧ Inner base w ms ml mh b l) ∧ (∀ s s' b, f s = some (some b) → f s' = some (some b) → s = s')
theorem HasM.grown {base : Nat} {w w' : World} {ms ml mh q : Nat} {H : ByteArray → Option (List ByteArray)} (h : HasM base w ms ml mh q H) {row : Option Nat} (hg : w.grownBy w' row) (hne : some mh ≠ row) (hin : ∀ b l, Inner base w ms ml mh b l → some b ≠ row) : HasM base w' ms ml mh q H := by
 obtain ⟨f, h1, h2, h3, h4⟩ := h
 refine ⟨f, h1.grown hg hne, h2, fun s l hs => ?_, h4⟩
 obtain ⟨b, e, hb⟩ := h3 s l hs
 exact ⟨b, e, hb.grown hg (hin b l hb)⟩
/-- A singer's row can be changed. -/
def Can (base : Nat) (w : World) (ms ml mh q : Nat) (H : ByteArray → Option (List ByteArray)) (s : ByteArray) (b : Nat) (l : List ByteArray) : Prop :=
 Inner base w ms ml mh b l ∧ ∀ w' l', w.grownBy w' (some b) → OwnX strB w' b l'.length (memF l') → HasM base w' ms ml mh q (updK H s l')
theorem HasM.can {base : Nat} {w : World} {ms ml mh q : Nat} {H : ByteArray → Option (List ByteArray)} {f : ByteArray → Option (Option Nat)} (h1 : OwnK strM w mh q f) (h2 : ∀ s, f s = none ↔ H s = none) (h3 : ∀ s l, H s = some l → ∃ b, f s = some (some b) ∧ Inner base w ms ml mh b l)
 (h4 : ∀ s s' b, f s = some (some b) → f s' = some (some b) → s = s') {s : ByteArray} {b : Nat} {l : List ByteArray} (hf : f s = some (some b)) (hb : Inner base w ms ml mh b l) : Can base w ms ml mh q H s b l := by
 refine ⟨hb, fun w' l' hg ho => ⟨f, h1.grown hg (by simp; exact hb.nh.symm), fun z => ?_, fun z lz hz => ?_, h4⟩⟩
 ·unfold updK
  by_cases e : z = s
  ·subst e; rw [if_pos rfl, hf]; simp
  ·rw [if_neg e]; exact h2 z
 ·unfold updK at hz
  by_cases e : z = s
  ·subst e
   rw [if_pos rfl] at hz
   cases hz
   exact ⟨b, hf, hb.low, hb.ns, hb.nl, hb.nh, ho⟩
  ·rw [if_neg e] at hz
   obtain ⟨c, hc, hi⟩ := h3 z lz hz
   refine ⟨c, hc, hi.grown hg fun e2 => e ?_⟩
   cases e2
   exact h4 z s b hc hf
theorem HasM.look {base : Nat} {w : World} {ms ml mh q : Nat} {H : ByteArray → Option (List ByteArray)} (h : HasM base w ms ml mh q H) {s : ByteArray} (hs : s.size ≤ 1000000) :
 ∃ m : Option Nat, (Instr.lookup 128 (.map (some mh)) (.string s) false).run Tryz.prog w = .ok (.map m) w ∧ (H s = none → m = none) ∧ ∀ l, H s = some l → ∃ b, m = some b ∧ Can base w ms ml mh q H s b l := by
 obtain ⟨f, h1, h2, h3, h4⟩ := h
 have hr := h1.look (k := s) hs
 refine ⟨(f s).getD none, hr, fun hn => ?_, fun l hl => ?_⟩
 ·rw [(h2 s).2 hn]; rfl
 ·obtain ⟨b, e, hb⟩ := h3 s l hl
  refine ⟨b, by rw [e]; rfl, HasM.can h1 h2 h3 h4 e hb⟩
theorem HasM.ext {base : Nat} {w w' : World} {ms ml mh q : Nat} {H : ByteArray → Option (List ByteArray)} (h : HasM base w ms ml mh q H) (he : Ext w w') : HasM base w' ms ml mh q H :=
 h.grown (row := none) ⟨he.os, he.tape, he.output, he.size, fun k hk _ => he.block k hk⟩ (by simp) (fun _ _ _ => by simp)
/-- A new singer. -/
theorem HasM.fresh {base : Nat} {w : World} {ms ml mh q : Nat} {H : ByteArray → Option (List ByteArray)} (h : HasM base w ms ml mh q H) {s : ByteArray} (hs : s.size ≤ 1000000) (hn : H s = none) (hq : q ≤ 1000000000) (hbase : base ≤ w.heap.size) (hms : ms < w.heap.size) (hml : ml < w.heap.size) {u : World} (hu : Ext (w.alloc (.map #[] 0)) u) :
 ∃ w', (Instr.mapUpdate 128 (.map (some mh)) (.string s) (.map (some w.heap.size))).run Tryz.prog u = .ok () w' ∧ Can base w' ms ml mh (q + 1) (updK H s []) s w.heap.size [] ∧ u.grownBy w' (some mh) := by
 obtain ⟨f, h1, h2, h3, h4⟩ := h
 have hE : Ext w u := ((Ext.refl w).alloc _).trans hu
 have hG : w.grownBy u none := ⟨hE.os, hE.tape, hE.output, hE.size, fun k hk _ => hE.block k hk⟩
 have hmh := h1.lt
 have hlt : ∀ z c, f z = some (some c) → c < w.heap.size := fun z c hz => by
  cases hH : H z with
  | none => rw [(h2 z).2 hH] at hz; cases hz
  | some l =>
    obtain ⟨b1, e1, i1⟩ := h3 z l hH
    rw [hz] at e1
    cases e1
    exact i1.own.lt
 obtain ⟨w', r1, r2, r3⟩ := (h1.grown hG (by simp)).put (k := s) hs (by omega) (some w.heap.size)
 have hm0 : memF [] = fun _ => none := by funext p; simp [memF]
 have hI : Inner base w' ms ml mh w.heap.size [] := ⟨hbase, by omega, by omega, by omega, by
  rw [hm0]
  exact ((OwnX.made w).ext hu).grown r3 (by simp; omega)⟩
 refine ⟨w', r1, HasM.can (f := updK f s (some w.heap.size)) r2 (fun z => ?_) (fun z l hz => ?_) (fun z z' c hz hz' => ?_) (by unfold updK; rw [if_pos rfl]) hI, r3⟩
 ·unfold updK
  by_cases e : z = s
  ·rw [if_pos e, if_pos e]; simp
  ·rw [if_neg e, if_neg e]; exact h2 z
 ·unfold updK at hz ⊢
  by_cases e : z = s
  ·rw [if_pos e] at hz ⊢
   cases hz
   exact ⟨_, rfl, hI⟩
  ·rw [if_neg e] at hz ⊢
   obtain ⟨c, hc, hi⟩ := h3 z l hz
   exact ⟨c, hc, (hi.grown hG (by simp)).grown r3 (by simp; exact hi.nh)⟩
 ·unfold updK at hz hz'
  by_cases e : z = s
  ·by_cases e' : z' = s
   ·rw [e, e']
   ·rw [if_pos e] at hz
    rw [if_neg e'] at hz'
    cases hz
    exact absurd (hlt _ _ hz') (Nat.lt_irrefl _)
  ·by_cases e' : z' = s
   ·rw [if_neg e] at hz
    rw [if_pos e'] at hz'
    cases hz'
    exact absurd (hlt _ _ hz) (Nat.lt_irrefl _)
   ·rw [if_neg e] at hz
    rw [if_neg e'] at hz'
    exact h4 z z' c hz hz'
/-- One piece more, one fewer. -/
theorem mem_more {w : World} {b : Nat} {l : List ByteArray} (h : OwnX strB w b l.length (memF l)) {p : ByteArray} (hp : p.size ≤ 1000000) (hn : p ∉ l) (hl : l.length ≤ 1000000000) :
 ∃ w', (Instr.mapUpdate 255 (.map (some b)) (.string p) (.bool true)).run Tryz.prog w = .ok () w' ∧ OwnX strB w' b (l ++ [p]).length (memF (l ++ [p])) ∧ w.grownBy w' (some b) := by
 obtain ⟨w', r1, r2, r3⟩ := h.put (k := p) hp (by omega) true
 have e1 : (memF l p).isSome = false := by simp [memF, hn]
 have e2 : updK (memF l) p true = memF (l ++ [p]) := by
  funext z
  unfold updK memF
  by_cases e : z = p <;> simp [e, List.mem_append]
 rw [e1, e2] at r2
 exact ⟨w', r1, by simpa using r2, r3⟩
theorem filter_ne_len {l : List ByteArray} (hd : l.Nodup) {p : ByteArray} : (l.filter fun z => decide (z ≠ p)).length = if p ∈ l then l.length - 1 else l.length := by
 induction l with
 | nil => simp
 | cons a l ih =>
   obtain ⟨h1, h2⟩ := List.nodup_cons.1 hd
   have ih := ih h2
   by_cases e : a = p
   ·subst e
    rw [if_neg h1] at ih
    rw [List.filter_cons_of_neg (by simp), ih, if_pos List.mem_cons_self]
    simp
   ·rw [List.filter_cons_of_pos (by simpa using e), List.length_cons, ih]
    by_cases hm : p ∈ l
    ·have := List.length_pos_of_mem hm
     rw [if_pos hm, if_pos (List.mem_cons_of_mem _ hm)]
     simp only [List.length_cons]
     omega
    ·rw [if_neg hm, if_neg (by simp [hm]; exact fun h => e h.symm)]
     rfl
theorem mem_less {w : World} {b : Nat} {l : List ByteArray} (h : OwnX strB w b l.length (memF l)) {p : ByteArray} (hp : p.size ≤ 1000000) (hd : l.Nodup) (ty : TypeId) :
 ∃ w', (Builtin.delete_ #[255,9] ty #[.map (some b), .string p]).run Tryz.prog w = .ok (.tuple #[]) w' ∧ OwnX strB w' b (l.filter fun z => decide (z ≠ p)).length (memF (l.filter fun z => decide (z ≠ p))) ∧ w.grownBy w' (some b) := by
 obtain ⟨w', r1, r2, r3⟩ := h.drop (k := p) hp ty
 have e1 : (memF l p).isSome = decide (p ∈ l) := by by_cases hm : p ∈ l <;> simp [memF, hm]
 have e2 : strikeK (memF l) p = memF (l.filter fun z => decide (z ≠ p)) := by
  funext z
  unfold strikeK memF
  by_cases e : z = p <;> simp [e, List.mem_filter]
 rw [e1, e2] at r2
 refine ⟨w', r1, ?_, r3⟩
 rw [filter_ne_len hd]
 simpa using r2
/-- The three maps. -/
structure MapsM (base : Nat) (w : World) (ms ml mh q : Nat) (L : LibS) : Prop where
 st : OwnK idS w ms q L.st
 last : OwnK idI w ml q L.last
 has : HasM base w ms ml mh q L.has
 sl : ms ≠ ml
 sh : ms ≠ mh
 lh : ml ≠ mh
section
variable {base : Nat} {w w' : World} {ms ml mh q : Nat} {L : LibS}
theorem HasM.lt {H : ByteArray → Option (List ByteArray)} (h : HasM base w ms ml mh q H) : mh < w.heap.size := by
 obtain ⟨f, h1, -⟩ := h
 exact h1.lt
theorem HasM.le {H : ByteArray → Option (List ByteArray)} (h : HasM base w ms ml mh q H) {q' : Nat} (hq : q ≤ q') : HasM base w ms ml mh q' H := by
 obtain ⟨f, h1, h2⟩ := h
 exact ⟨f, h1.le hq, h2⟩
theorem HasM.isMap {H : ByteArray → Option (List ByteArray)} (h : HasM base w ms ml mh q H) : ∃ es c, w.heap[mh]? = some (.map es c) := by
 obtain ⟨f, h1, -⟩ := h
 exact h1.isMap
theorem MapsM.kept (h : MapsM base w ms ml mh q L) {row : Option Nat} (hg : w.grownBy w' row) (hn : NoMap w row) : MapsM base w' ms ml mh q L := by
 refine ⟨h.st.grown hg ?_, h.last.grown hg ?_, h.has.grown hg ?_ fun b l hb => ?_, h.sl, h.sh, h.lh⟩
 ·obtain ⟨es, c, e⟩ := h.st.isMap; exact hn _ _ _ e
 ·obtain ⟨es, c, e⟩ := h.last.isMap; exact hn _ _ _ e
 ·obtain ⟨es, c, e⟩ := h.has.isMap; exact hn _ _ _ e
 ·obtain ⟨es, c, e⟩ := hb.own.isMap; exact hn _ _ _ e
theorem MapsM.ext (h : MapsM base w ms ml mh q L) (he : Ext w w') : MapsM base w' ms ml mh q L :=
 h.kept (row := none) ⟨he.os, he.tape, he.output, he.size, fun k hk _ => he.block k hk⟩ (NoMap.none w)
theorem MapsM.le (h : MapsM base w ms ml mh q L) {q' : Nat} (hq : q ≤ q') : MapsM base w ms ml mh q' L := ⟨h.st.le hq, h.last.le hq, h.has.le hq, h.sl, h.sh, h.lh⟩
theorem MapsM.putSt (h : MapsM base w ms ml mh q L) {k : IdV} (hk : okSN k) (hq : q ≤ 1000000000) (v : ByteArray) :
 ∃ w', (Instr.mapUpdate 125 (.map (some ms)) (snV k) (.string v)).run Tryz.prog w = .ok () w' ∧ MapsM base w' ms ml mh (q + 1) { L with st := setF L.st k v } ∧ w.grownBy w' (some ms) := by
 obtain ⟨w', r1, r2, r3⟩ := h.st.put (k := k) hk (by omega) v
 exact ⟨w', r1, ⟨r2, (h.last.grown r3 (by simpa using h.sl.symm)).le (by omega), (h.has.grown r3 (by simpa using h.sh.symm) fun b l hb => by simpa using hb.ns).le (by omega), h.sl, h.sh, h.lh⟩, r3⟩
theorem MapsM.putLast (h : MapsM base w ms ml mh q L) {k : IdV} (hk : okSN k) (hq : q ≤ 1000000000) (v : Int) :
 ∃ w', (Instr.mapUpdate 126 (.map (some ml)) (snV k) (.int .i64 v)).run Tryz.prog w = .ok () w' ∧ MapsM base w' ms ml mh (q + 1) { L with last := setF L.last k v } ∧ w.grownBy w' (some ml) := by
 obtain ⟨w', r1, r2, r3⟩ := h.last.put (k := k) hk (by omega) v
 exact ⟨w', r1, ⟨(h.st.grown r3 (by simpa using h.sl)).le (by omega), r2, (h.has.grown r3 (by simpa using h.lh.symm) fun b l hb => by simpa using hb.nl).le (by omega), h.sl, h.sh, h.lh⟩, r3⟩
end
end Go.Proofs.YtkjhbofbcmelgaaGreatDoor
