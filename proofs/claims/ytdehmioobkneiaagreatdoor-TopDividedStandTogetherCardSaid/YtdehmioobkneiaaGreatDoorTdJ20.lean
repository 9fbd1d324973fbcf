/- Keys that are arrays of four numbers; an own map with any keys. Conditions: as each theorem says. An own map with any keys and any values. Conditions: as each theorem says. The ranges of a moment, by both texts. Conditions: sizes. What is wrong with singers and moments; the parts that a singer can sing, by both texts. Conditions: sizes. -/
import Derived.Test.YtdehmioobkneiaaGreatDoorTdJ19
import Derived.DeepKeys3
import Derived.Test.YtdehmioobkneiaaGreatDoorTdPartsC
import Derived.Shelf.SlicesE.IndexFunc
set_option linter.unusedSimpArgs false
set_option linter.unusedVariables false
namespace Go.Proofs.YtdehmioobkneiaaGreatDoor
open Go Go.RowKit Go.Maps Go.Sort Go.Shelf
theorem many_keyed : Keyed Tryz.prog 81 := Keyed.of_law (deep_law (m := 3) (by decide) (by kernel_rfl) (by kernel_rfl) (by kernel_rfl))
theorem int_wf (n : Nat) (h : n ≤ 1000000) : (Lit.int .i64 (n : Int)).wf = true := by
  have h1 : IntKind.i64.min = -9223372036854775808 := by decide
  have h2 : IntKind.i64.max = 9223372036854775807 := by decide
  unfold Lit.wf
  simp only [h1, h2, Bool.and_eq_true, decide_eq_true_eq]
  omega
theorem int_lits (d : Nat) (n : Nat) (h : n ≤ 1000000) : Tryz.prog.keyLits (d + 1) 3 [.int .i64 n] = some [.int .i64 n] := by
  have hw := int_wf n h
  unfold Program.keyLits
  rw [Tryz.underlying3]
  simp [hw]
theorem many_key (a b c d : Nat) (ha : a ≤ 1000000) (hb : b ≤ 1000000) (hc : c ≤ 1000000) (hd : d ≤ 1000000) : ∃ l, keyOf Tryz.prog 81 (.agg #[.int .i64 a, .int .i64 b, .int .i64 c, .int .i64 d]) = some l := by
  have h1 : Tryz.prog.keyType 81 = true := by kernel_rfl
  have h2 : Tryz.prog.cellsOf 81 = 4 := by kernel_rfl
  have h3 : Tryz.prog.cellsOf 3 = 1 := by kernel_rfl
  obtain ⟨n, hn⟩ : ∃ n, Tryz.prog.types.size = n + 1 := ⟨Tryz.prog.types.size - 1, by kernel_rfl⟩
  have h4 : Tryz.prog.keyLits (Tryz.prog.types.size + 1) 81 [.int .i64 a, .int .i64 b, .int .i64 c, .int .i64 d] = some [.int .i64 a, .int .i64 b, .int .i64 c, .int .i64 d] := by
    rw [hn]
    unfold Program.keyLits
    rw [Tryz.underlying81]
    simp only [h2, h3]
    have e : List.range 4 = [0, 1, 2, 3] := by decide
    simp [e, int_lits, ha, hb, hc, hd]
  unfold keyOf
  rw [Tryz.underlying81]
  simp only [h1]
  have h5 : (Value.agg #[.int .i64 a, .int .i64 b, .int .i64 c, .int .i64 d]).formed Tryz.prog 81 = true := by
    simp [Value.formed, Tryz.underlying81, h2]
  rw [h5]
  simp only [Value.cells, h4]
  exact ⟨_, rfl⟩
end Go.Proofs.YtdehmioobkneiaaGreatDoor
namespace Go.Proofs.YtdehmioobkneiaaGreatDoor
open Go Go.RowKit Go.Maps Go.Sort Go.Shelf
/-- A kind of map: its keys, its values. -/
structure KMap (P : Program) (κ ν : Type) where
  kt : TypeId
  mt : TypeId
  vt : TypeId
  kv : κ → Value
  ok : κ → Prop
  val : ν → Value
  dat : ν → DataW Unit
  rd : Value → Option (DataW Unit × List MemPlace)
  zero : ν
  keyed : Keyed P kt
  key : ∀ k, ok k → ∃ l, keyOf P kt (kv k) = some l
  inj : ∀ a b, ok a → ok b → kv a = kv b → a = b
  rd_mk : ∀ v, rd (val v) = some (dat v, [])
  rd_inv : ∀ u v ps, rd u = some (dat v, ps) → u = val v
  und : P.underlying mt = some (.map kt vt)
  zer : ∀ w, (zeroValue vt).run P w = .ok (val zero) w
section
variable {P : Program} {κ ν : Type} {M : KMap P κ ν}
/-- What an own map with n entries at most holds. -/
def OwnK (M : KMap P κ ν) (w : World) (b n : Nat) (f : κ → Option ν) : Prop :=
  ∃ D : DataW Unit, w.ownsMap P M.kt M.rd b (Maps.size D) D ∧ Maps.Tidy D ∧ (∀ k l, M.ok k → keyOf P M.kt (M.kv k) = some l → Maps.has D l = (f k).isSome) ∧
    (∀ k l v, M.ok k → keyOf P M.kt (M.kv k) = some l → f k = some v → ∀ z, D.atKey l z = M.dat v) ∧ Maps.size D ≤ n
def updK [DecidableEq κ] (f : κ → Option ν) (k : κ) (v : ν) : κ → Option ν := fun q => if q = k then some v else f q
theorem KMap.lit_ne {a b : κ} (h : M.ok a) (h' : M.ok b) {la lb : Lit} (ha : keyOf P M.kt (M.kv a) = some la) (hb : keyOf P M.kt (M.kv b) = some lb) (hne : a ≠ b) : la ≠ lb := fun e => by
  subst e
  exact hne (M.inj a b h h' (M.keyed.inj ha hb))
theorem OwnK.made (w : World) : OwnK M (w.alloc (.map #[] 0)) w.heap.size 0 (fun _ => none) :=
  ⟨.map [], World.ownsMap_made w _ _ _, tidy_empty, (fun _ _ _ _ => rfl), (fun k l v _ _ h => by cases h), by simp [Maps.size]⟩
theorem OwnK.lt {w : World} {b n : Nat} {f : κ → Option ν} (h : OwnK M w b n f) : b < w.heap.size := by
  obtain ⟨D, hD, -⟩ := h
  exact hD.lt
theorem OwnK.le {w : World} {b n m : Nat} {f : κ → Option ν} (h : OwnK M w b n f) (hnm : n ≤ m) : OwnK M w b m f := by
  obtain ⟨D, h1, h2, h3, h4, h5⟩ := h
  exact ⟨D, h1, h2, h3, h4, Nat.le_trans h5 hnm⟩
theorem OwnK.grown {w w' : World} {b n : Nat} {f : κ → Option ν} (h : OwnK M w b n f) {row : Option Nat} (hg : w.grownBy w' row) (hne : some b ≠ row) : OwnK M w' b n f := by
  obtain ⟨D, hD, h2⟩ := h
  exact ⟨D, hD.kept hg hne, h2⟩
theorem OwnK.ext {w w' : World} {b n : Nat} {f : κ → Option ν} (h : OwnK M w b n f) (he : Ext w w') : OwnK M w' b n f :=
  h.grown (row := none) ⟨he.os, he.tape, he.output, he.size, fun k hk _ => he.block k hk⟩ (by simp)
theorem OwnK.atk {f : κ → Option ν} {D : DataW Unit} (h1 : ∀ k l, M.ok k → keyOf P M.kt (M.kv k) = some l → Maps.has D l = (f k).isSome) (h2 : ∀ k l v, M.ok k → keyOf P M.kt (M.kv k) = some l → f k = some v → ∀ z, D.atKey l z = M.dat v) {k : κ} {l : Lit} (hk : M.ok k) (hl : keyOf P M.kt (M.kv k) = some l) :
    D.atKey l (M.dat M.zero) = M.dat ((f k).getD M.zero) := by
  cases hf : f k with
  | none => exact atKey_of_not_has (by rw [h1 k l hk hl, hf]; rfl) _
  | some v => exact h2 k l v hk hl hf _
theorem OwnK.look_ok {w : World} {b n : Nat} {f : κ → Option ν} (h : OwnK M w b n f) {k : κ} (hk : M.ok k) :
    (Instr.lookup M.mt (.map (some b)) (M.kv k) true).run P w = .ok (.tuple #[M.val ((f k).getD M.zero), .bool (f k).isSome]) w := by
  obtain ⟨D, hD, hT, h1, h2, h3⟩ := h
  obtain ⟨l, hl⟩ := M.key k hk
  obtain ⟨v, ps, hrun, hv⟩ := hD.look_ok M.keyed M.und (M.zer w) (M.rd_mk M.zero) hl
  rw [OwnK.atk h1 h2 hk hl] at hv
  rw [hrun, M.rd_inv _ _ _ hv, h1 k l hk hl]
theorem OwnK.look {w : World} {b n : Nat} {f : κ → Option ν} (h : OwnK M w b n f) {k : κ} (hk : M.ok k) :
    (Instr.lookup M.mt (.map (some b)) (M.kv k) false).run P w = .ok (M.val ((f k).getD M.zero)) w := by
  obtain ⟨D, hD, hT, h1, h2, h3⟩ := h
  obtain ⟨l, hl⟩ := M.key k hk
  obtain ⟨v, ps, hrun, hv⟩ := hD.lookup M.keyed M.und (M.zer w) (M.rd_mk M.zero) hl
  rw [OwnK.atk h1 h2 hk hl] at hv
  rw [hrun, M.rd_inv _ _ _ hv]
theorem OwnK.put1 [DecidableEq κ] {w : World} {b n : Nat} {f : κ → Option ν} (h : OwnK M w b n f) {k : κ} (hk : M.ok k) (hn : n ≤ 1000000000000000000) (v : ν) :
    ∃ w', (Instr.mapUpdate M.mt (.map (some b)) (M.kv k) (M.val v)).run P w = .ok () w' ∧ OwnK M w' b (if (f k).isSome then n else n + 1) (updK f k v) ∧ w.grownBy w' (some b) := by
  obtain ⟨D, hD, hT, h1, h2, h3⟩ := h
  obtain ⟨l, hl⟩ := M.key k hk
  have hil := M.keyed.key hl
  obtain ⟨w', hrun, hD', hg⟩ := hD.update M.keyed M.und (by unfold maxLen; omega) hl (M.rd_mk v)
  refine ⟨w', hrun, ⟨_, ownv_sized hD', hT.put hil _, fun q lq hq hlq => ?_, fun q lq u hq hlq hu z => ?_, ?_⟩, hg⟩
  · unfold updK
    by_cases e : q = k
    · subst e
      have : lq = l := Option.some.inj (hlq.symm.trans hl)
      subst this
      rw [if_pos rfl, has_put_same hT.isMap hil]; rfl
    · rw [if_neg e, has_put_other (KMap.lit_ne hq hk hlq hl e)]; exact h1 q lq hq hlq
  · unfold updK at hu
    by_cases e : q = k
    · subst e
      have : lq = l := Option.some.inj (hlq.symm.trans hl)
      subst this
      rw [if_pos rfl] at hu; cases hu; exact atKey_put_same hT.isMap hil _ _
    · rw [if_neg e] at hu; rw [atKey_put_other (KMap.lit_ne hq hk hlq hl e)]; exact h2 q lq u hq hlq hu z
  · rw [size_put hT, h1 k l hk hl]
    split <;> omega
theorem OwnK.put [DecidableEq κ] {w : World} {b n : Nat} {f : κ → Option ν} (h : OwnK M w b n f) {k : κ} (hk : M.ok k) (hn : n ≤ 1000000000000000000) (v : ν) :
    ∃ w', (Instr.mapUpdate M.mt (.map (some b)) (M.kv k) (M.val v)).run P w = .ok () w' ∧ OwnK M w' b (n + 1) (updK f k v) ∧ w.grownBy w' (some b) := by
  obtain ⟨w', h1, h2, h3⟩ := h.put1 hk hn v
  exact ⟨w', h1, h2.le (by split <;> omega), h3⟩
end
/-! ### maps from arrays of four numbers to numbers -/
def manV (N : List Nat) : Value := .agg (N.map fun (x : Nat) => Value.int .i64 (x : Int)).toArray
def ManOk (N : List Nat) : Prop := N.length = 4 ∧ ∀ x ∈ N, x ≤ 1000
def intRd : Value → Option (DataW Unit × List MemPlace)
  | .int .i64 a => some (.lit (.int .i64 a), [])
  | _ => none
theorem man4 {N : List Nat} (h : N.length = 4) : ∃ a b c d, N = [a, b, c, d] := by
  match N, h with
  | [a, b, c, d], _ => exact ⟨a, b, c, d, rfl⟩
theorem manV_key (N : List Nat) (h : ManOk N) : ∃ l, keyOf Tryz.prog 81 (manV N) = some l := by
  obtain ⟨a, b, c, d, rfl⟩ := man4 h.1
  exact many_key a b c d (Nat.le_trans (h.2 a (by simp)) (by decide)) (Nat.le_trans (h.2 b (by simp)) (by decide)) (Nat.le_trans (h.2 c (by simp)) (by decide)) (Nat.le_trans (h.2 d (by simp)) (by decide))
theorem manV_inj (M N : List Nat) (h : ManOk M) (k : ManOk N) (e : manV M = manV N) : M = N := by
  obtain ⟨a, b, c, d, rfl⟩ := man4 h.1
  obtain ⟨a', b', c', d', rfl⟩ := man4 k.1
  simp only [manV, List.map_cons, List.map_nil, Value.agg.injEq, List.toArray_inj, List.cons.injEq, Value.int.injEq, true_and, and_true] at e
  obtain ⟨e1, e2, e3, e4⟩ := e
  first
    | rfl
    | (rw [Int.ofNat_inj.1 e1, Int.ofNat_inj.1 e2, Int.ofNat_inj.1 e3, Int.ofNat_inj.1 e4])
def manyI : KMap Tryz.prog (List Nat) Int where
  kt := 81
  mt := 137
  vt := 3
  kv := manV
  ok := ManOk
  val := fun v => .int .i64 v
  dat := fun v => .lit (.int .i64 v)
  rd := intRd
  zero := 0
  keyed := many_keyed
  key := manV_key
  inj := manV_inj
  rd_mk := fun _ => rfl
  rd_inv := fun u v ps h => by
    unfold intRd at h
    split at h
    · simp only [Option.some.injEq, Prod.mk.injEq, DataW.lit.injEq, Lit.int.injEq, true_and] at h
      rw [h.1]
    · cases h
  und := Tryz.underlying137
  zer := fun w => Tryz.zeroValue3 w
end Go.Proofs.YtdehmioobkneiaaGreatDoor
namespace Go.Proofs.YtdehmioobkneiaaGreatDoor
open Go Go.RowKit
section
variable {P : Program} {w : World} {ops : Array Oper} {rest : List Oper} {o : Oper} {a : Act} {Q : Exit → Act → World → Prop}
theorem wpList_lookV (hg : o.guard = none) (m x : Operand) (t : TypeId) (ok : Bool) (hop : o.op = Op.lookup t m x ok) (mv kv v : Value) (hm : a.eval m = mv) (hx : a.eval x = kv) (hrun : (Instr.lookup t mv kv ok).run P w = .ok v w)
    (hK : wpList P ops Q rest (a.put o.dst v) w) : wpList P ops Q (o :: rest) a w := by
  refine wpList_plain hg fun K' hK' => ?_
  unfold Oper.wp
  simp [execOp, hop, hm, hx, hrun, Result.andThen]
  exact hK' _ _ hK
theorem wpList_putV (hg : o.guard = none) (m x y : Operand) (t : TypeId) (hop : o.op = Op.mapUpdate t m x y) (mv kv v : Value) (hm : a.eval m = mv) (hx : a.eval x = kv) (hy : a.eval y = v) (w' : World) (hrun : (Instr.mapUpdate t mv kv v).run P w = .ok () w')
    (hK : wpList P ops Q rest (a.put o.dst undef) w') : wpList P ops Q (o :: rest) a w := by
  refine wpList_plain hg fun K' hK' => ?_
  unfold Oper.wp
  simp [execOp, hop, hm, hx, hy, hrun, Result.andThen]
  exact hK' _ _ hK
end
/-- The range of a name among the first k voices, at a moment. -/
def rgOf (V : List VoiceV) (t : Int) (p : ByteArray) (k : Nat) : Option (Int × Int) := (V.take k).foldl (fun acc x => if x.fr ≤ t ∧ x.name = p then some (x.lo, x.hi) else acc) none
def rgS (V : List VoiceV) (t : Int) (k : Nat) : St := fun p => rgOf V t p k
theorem take_snocV {α : Type} {L : List α} {k : Nat} {x : α} (h : L[k]? = some x) : L.take (k + 1) = L.take k ++ [x] := by
  rw [List.take_add_one, h]; rfl
theorem rgOf_succ {V : List VoiceV} {t : Int} {p : ByteArray} {k : Nat} {x : VoiceV} (h : V[k]? = some x) : rgOf V t p (k + 1) = if x.fr ≤ t ∧ x.name = p then some (x.lo, x.hi) else rgOf V t p k := by
  unfold rgOf; rw [take_snocV h, List.foldl_append]; rfl
theorem rgS_in {V : List VoiceV} {t : Int} {k : Nat} {x : VoiceV} (h : V[k]? = some x) (ht : x.fr ≤ t) : rgS V t (k + 1) = (rgS V t k).upd x.name (x.lo, x.hi) := by
  funext p
  show rgOf V t p (k + 1) = _
  rw [rgOf_succ h]
  by_cases e : x.name = p
  · subst e; rw [if_pos ⟨ht, rfl⟩, St.upd_same]
  · rw [if_neg (fun h => e h.2), St.upd_other _ _ (fun h => e h.symm)]; rfl
theorem rgS_out {V : List VoiceV} {t : Int} {k : Nat} {x : VoiceV} (h : V[k]? = some x) (ht : ¬ x.fr ≤ t) : rgS V t (k + 1) = rgS V t k := by
  funext p
  show rgOf V t p (k + 1) = _
  rw [rgOf_succ h, if_neg (fun h => ht h.1)]; rfl
set_option maxRecDepth 100000 in
set_option maxHeartbeats 1600000 in
theorem rangesAt_any (p : Option Addr) (n c : Nat) (V : List VoiceV) (t : Int) (w : World) (h : Sl 4 voiC w p n V) (hs : ∀ x ∈ V, x.Small) (hn : n ≤ 200) :
    Calls Tryz.prog 50 #[.slice p n c, .int .i64 t] w fun e w' => ∃ b, e = .returned (.map (some b)) ∧ w.heap.size ≤ b ∧ OwnR w' b n (rgS V t n) ∧ Ext w w' := by
  have hl := h.1
  have hO := OwnR.made w
  have hE0 : Ext w (w.alloc (.map #[] 0)) := (Ext.refl _).alloc _
  have hmm := @run_makeMap Tryz.prog
  go_enter Tryz.func50, Tryz.ntmps50
  go_upto_region 3 with fail
  clear hmm
  go_loopw [11] (fun v11 wr => ∃ k : Nat, v11 = .int .i64 k ∧ k ≤ n ∧ OwnR wr w.heap.size k (rgS V t k) ∧ Ext w wr) (fun v11 _ => n - (intOf v11).toNat)
  case atStart => exact ⟨0, rfl, Nat.zero_le _, hO, hE0⟩
  case round =>
    clear hO hE0
    obtain ⟨k, rfl, hk, hO, he⟩ := hrel
    by_cases hlt : k < n
    · obtain ⟨b, off, rfl, hb, hE⟩ := h.2.2 (by omega)
      obtain ⟨x, hx⟩ := getD_some hl hlt
      have hbw := Nat.lt_of_lt_of_le hb he.size
      obtain ⟨c0, c1, c2, c3⟩ := (hE.ext he hb).voi hx
      obtain ⟨s1, ⟨s2, s3⟩, ⟨s4, s5⟩, ⟨s6, s7⟩⟩ := hs x (List.mem_of_getElem? hx)
      have he0 : Ext wr (wr.alloc (.cells #[.string x.name, .int .i64 x.fr, .int .i64 x.lo, .int .i64 x.hi] 71)) := (Ext.refl _).alloc _
      have hO1 := hO.ext he0
      have hE1 := he.trans he0
      have hkI : (k : Int) < n := by omega
      clear hE hO
      by_cases ht : x.fr ≤ t
      · obtain ⟨w5, hput, hO5, hg5⟩ := hO1.put s1 (by omega) (x.lo, x.hi)
        rw [← rgS_in hx ht] at hO5
        replace hx := Lib.hid hx; replace hput := Lib.hid hput; clear hO1
        go_wp2_with (refine wpList_putV rfl _ _ _ 114 rfl (.map (some w.heap.size)) (.string x.name) (rngV (x.lo, x.hi)) rfl rfl rfl w5 hput.out ?_)
        go_roundw
        case rel => exact ⟨k + 1, by go_num, by omega, hO5, hE1.grown hg5 (fun j e => by cases e; exact Nat.le_refl _)⟩
        case measure => simp [intOf]; omega
      · have hr := rgS_out hx ht
        replace hx := Lib.hid hx
        have htI : ¬ x.fr ≤ t := ht
        go_wp2
        go_roundw
        case rel => exact ⟨k + 1, by go_num, by omega, by rw [hr]; obtain ⟨D, a1, a2, a3, a4, a5⟩ := hO1; exact ⟨D, a1, a2, a3, a4, by omega⟩, hE1⟩
        case measure => simp [intOf]; omega
    · obtain rfl : k = n := by omega
      go_wp2
      go_ret
      exact ⟨_, rfl, Nat.le_refl _, hO, he⟩
/-- The names of those who have a range at a moment, as they stand. -/
def namesAt (V : List VoiceV) (t : Int) (k : Nat) : List ByteArray := ((V.take k).filter fun x => decide (x.fr ≤ t)).map (·.name)
def singersL (V : List VoiceV) (t : Int) : List ByteArray := onceL (namesAt V t V.length)
theorem namesAt_in {V : List VoiceV} {t : Int} {k : Nat} {x : VoiceV} (h : V[k]? = some x) (ht : x.fr ≤ t) : namesAt V t (k + 1) = namesAt V t k ++ [x.name] := by
  unfold namesAt; rw [take_snocV h, List.filter_append, List.map_append]; simp [ht]
theorem namesAt_out {V : List VoiceV} {t : Int} {k : Nat} {x : VoiceV} (h : V[k]? = some x) (ht : ¬ x.fr ≤ t) : namesAt V t (k + 1) = namesAt V t k := by
  unfold namesAt; rw [take_snocV h, List.filter_append, List.map_append]; simp [ht]
theorem namesAt_len (V : List VoiceV) (t : Int) (k : Nat) : (namesAt V t k).length ≤ k := by
  unfold namesAt
  rw [List.length_map]
  exact Nat.le_trans (List.length_filter_le _ _) (by rw [List.length_take]; omega)
theorem rgS_some {V : List VoiceV} {t : Int} {p : ByteArray} : ∀ k, k ≤ V.length → ((rgS V t k p).isSome = true ↔ p ∈ namesAt V t k)
  | 0, _ => by simp [rgS, rgOf, namesAt]
  | k + 1, hk => by
    obtain ⟨x, hx⟩ := getD_some (rfl : V.length = V.length) (show k < V.length by omega)
    have ih := rgS_some (V := V) (t := t) (p := p) k (by omega)
    by_cases ht : x.fr ≤ t
    · rw [rgS_in hx ht, namesAt_in hx ht, List.mem_append, List.mem_singleton, ← ih]
      by_cases e : p = x.name
      · subst e; rw [St.upd_same]; simp
      · rw [St.upd_other _ _ e]; simp [e]
    · rw [rgS_out hx ht, namesAt_out hx ht]; exact ih
theorem singers_rise (V : List VoiceV) (t : Int) : RiseN (singersL V t) := onceL_rise _
theorem singers_mem {V : List VoiceV} {t : Int} (p : ByteArray) : p ∈ singersL V t ↔ (rgS V t V.length p).isSome = true := by
  unfold singersL; rw [onceL_mem, rgS_some _ (Nat.le_refl _)]
theorem singers_len (V : List VoiceV) (t : Int) : (singersL V t).length ≤ V.length := Nat.le_trans (onceL_len_le _) (namesAt_len V t _)
theorem singers_small {V : List VoiceV} (hs : ∀ x ∈ V, x.Small) (t : Int) : ∀ p ∈ singersL V t, p.size ≤ 1000 := fun p hp => by
  unfold singersL at hp
  rw [onceL_mem] at hp
  obtain ⟨x, hx, rfl⟩ := List.mem_map.1 hp
  exact (hs x (List.mem_of_mem_take (List.mem_filter.1 hx).1)).1
def comF (v p : Int × Int) : Int := min (p.1 - v.1) (v.2 - p.2)
set_option maxRecDepth 100000 in
theorem comfortV_any (v p : Int × Int) (w : World) (h1 : -1000 ≤ v.1 ∧ v.1 ≤ 1000) (h2 : -1000 ≤ v.2 ∧ v.2 ≤ 1000) (h3 : -1000 ≤ p.1 ∧ p.1 ≤ 1000) (h4 : -1000 ≤ p.2 ∧ p.2 ≤ 1000) :
    Calls Tryz.prog 51 #[rngV v, rngV p] w fun e w' => e = .returned (.int .i64 (comF v p)) ∧ Ext w w' := by
  obtain ⟨a, b⟩ := v
  obtain ⟨c, d⟩ := p
  simp only at h1 h2 h3 h4
  have hC : comF (a, b) (c, d) = min (c - a) (b - d) := rfl
  replace hC := Lib.hid hC
  show Calls Tryz.prog 51 #[.agg #[.int .i64 a, .int .i64 b], .agg #[.int .i64 c, .int .i64 d]] w _
  go_enter Tryz.func51, Tryz.ntmps51
  go_wp2
  all_goals
    go_ret
    exact ⟨ret_int (by rw [hC.out]; try omega), by (repeat (with_reducible first | assumption | exact Ext.refl _ | refine Ext.drew ?_ | refine Ext.alloc ?_ _ | refine Ext.setCell ?_ (by simp <;> omega) _ | refine Ext.trans ?_ (by assumption)))⟩
end Go.Proofs.YtdehmioobkneiaaGreatDoor
namespace Go.Proofs.YtdehmioobkneiaaGreatDoor
open Go Go.RowKit
set_option maxRecDepth 100000 in
theorem isMomP_any (n : Int) (w : World) :
    Calls Tryz.prog 49 #[.int .i64 n] w fun e w' => e = .returned (.bool (momB n)) ∧ w = w' := by
  have hm : momB n = !outB n 0 345686399999 := by unfold momB; rw [outB_inB]; simp
  have ho := fun w => outside_any n 0 345686399999 w
  replace hm := Lib.hid hm
  generalize outB n 0 345686399999 = v at *
  replace ho := Lib.hid ho
  go_enter Tryz.func49, Tryz.ntmps49
  go_wp2_with (go_at_call 42; (with_reducible refine Calls.mono (ho.out _) ?_); rintro e w' ⟨rfl, rfl⟩)
  go_ret
  exact ⟨ret_bool (by rw [hm.out]), rfl⟩
set_option maxRecDepth 100000 in
theorem momPred (w : World) : PredAt Tryz.prog 99 #[] (fun x : Int => .int .i64 x) (fun x => !momB x) w := fun W x _ => by
  show Calls Tryz.prog 99 #[.int .i64 x] W _
  have hp := fun u => isMomP_any x u
  obtain ⟨v, hv⟩ : ∃ v, momB x = v := ⟨_, rfl⟩
  rw [hv] at hp
  replace hv := Lib.hid hv; replace hp := Lib.hid hp
  go_enter Tryz.func99, Tryz.ntmps99
  go_wp2_with (go_at_call 49; (with_reducible refine Calls.mono (hp.out _) ?_); rintro e w' ⟨rfl, rfl⟩)
  go_ret
  exact ⟨by rw [hv.out]; rfl, 0, rfl⟩
set_option maxRecDepth 100000 in
theorem momentFault1_any (t : Int) (g ty cap : Nat) (w : World) (hB : Blk w g ty #[.int .i64 t]) :
    Calls Tryz.prog 58 #[.slice (some ⟨g, 0, none⟩) 1 cap] w fun e w' => e = .returned (.int .i64 (if momB t then 0 else 1)) ∧ Ext w w' := by
  have hc : Calls Tryz.prog 98 #[.slice (some ⟨g, 0, none⟩) 1 cap, .func (.func 99) #[] #[]] w fun e w' => e = .returned (.bool (([t].take 1).any fun x => !momB x)) ∧ ∃ q, w' = w.drewN q := AnyE.slices_ContainsFunc Tryz.lqcInt (fun x : Int => .int .i64 x) (fun x => !momB x) 99 #[] (enters_of Tryz.func99 (by kernel_rfl) rfl) g 0 1 cap [t] w (momPred w) (by simp) (by omega) (fun j hj => by
    obtain rfl : j = 0 := by simp at hj; omega
    exact hB.cell 0)
  have e1 : ([t].take 1).any (fun x => !momB x) = !momB t := by simp
  rw [e1] at hc
  clear e1
  cases hm : momB t
  all_goals
    rw [hm] at hc
    replace hc := Lib.hid hc
    go_enter Tryz.func58, Tryz.ntmps58
    go_wp2_with (go_at_call 98; (with_reducible refine Calls.mono hc.out ?_); rintro e w1 ⟨rfl, q, rfl⟩)
    go_ret
    exact ⟨rfl, below_drewN' (Below.refl _ w) q⟩
/-- Voices and parts in memory. -/
structure VpM (w : World) (vp : Option Addr) (vc : Nat) (V : List VoiceV) (pp : Option Addr) (pc : Nat) (P : List PartV) : Prop where
  voi : Slc 4 voiC w vp V.length vc V
  par : Slc 5 partC w pp P.length pc P
  sV : ∀ x ∈ V, x.Small
  sP : ∀ x ∈ P, x.Small
  nV : V.length ≤ 200
  nP : P.length ≤ 1000
theorem VpM.more {w w' : World} {vp pp : Option Addr} {vc pc : Nat} {V : List VoiceV} {P : List PartV} (h : VpM w vp vc V pp pc P) (he : Ext w w') : VpM w' vp vc V pp pc P := ⟨h.voi.ext he, h.par.ext he, h.sV, h.sP, h.nV, h.nP⟩
section
variable {w : World} {vp pp : Option Addr} {vc pc : Nat} {V : List VoiceV} {P : List PartV}
set_option maxRecDepth 100000 in
theorem bothFault_any (h : VpM w vp vc V pp pc P) :
    Calls Tryz.prog 57 #[.slice vp V.length vc, .slice pp P.length pc] w fun e w' => e = .returned (.int .i64 (if voicesF V = 0 then partsF P else voicesF V)) ∧ Ext w w' := by
  have h1 := checkVoices_any vp V.length vc V w h.voi.1 h.sV h.nV
  have h2 := fun u (hu : Ext w u) => checkParts_any pp P.length pc P u (h.par.ext hu).1 h.sP h.nP h.par.2.1
  by_cases hz : voicesF V = 0
  · rw [if_pos hz]
    rw [hz] at h1
    generalize partsF P = f at *
    replace h1 := Lib.hid h1; replace h2 := Lib.hid h2; replace hz := Lib.hid hz; clear h
    go_enter Tryz.func57, Tryz.ntmps57
    go_wp2_with (first
      | (go_at_call 47; (with_reducible refine Calls.mono h1.out ?_); rintro e w1 ⟨rfl, hb1⟩)
      | (go_at_call 45; (with_reducible refine Calls.mono (h2.out _ hb1) ?_); rintro e w2 ⟨rfl, hb2⟩))
    go_ret
    exact ⟨rfl, hb1.trans hb2⟩
  · rw [if_neg hz]
    generalize voicesF V = f at *
    replace h1 := Lib.hid h1; clear h h2
    go_enter Tryz.func57, Tryz.ntmps57
    go_wp2_with (go_at_call 47; (with_reducible refine Calls.mono h1.out ?_); rintro e w1 ⟨rfl, hb1⟩)
    go_ret
    exact ⟨rfl, hb1⟩
end
theorem rgOf_small {V : List VoiceV} (hs : ∀ x ∈ V, x.Small) (t : Int) (p : ByteArray) : ∀ k, k ≤ V.length → ∀ r, rgOf V t p k = some r → (-1000 ≤ r.1 ∧ r.1 ≤ 1000) ∧ -1000 ≤ r.2 ∧ r.2 ≤ 1000
  | 0, _, r, h => by simp [rgOf] at h
  | k + 1, hk, r, h => by
    obtain ⟨x, hx⟩ := getD_some (rfl : V.length = V.length) (show k < V.length by omega)
    rw [rgOf_succ hx] at h
    split at h
    · cases h
      obtain ⟨-, -, h1, h2⟩ := hs x (List.mem_of_getElem? hx)
      exact ⟨h1, h2⟩
    · exact rgOf_small hs t p k (by omega) r h
theorem rg_bounds {V : List VoiceV} (hs : ∀ x ∈ V, x.Small) (t : Int) (p : ByteArray) : (-1000 ≤ ((rgS V t V.length p).getD (0, 0)).1 ∧ ((rgS V t V.length p).getD (0, 0)).1 ≤ 1000) ∧ -1000 ≤ ((rgS V t V.length p).getD (0, 0)).2 ∧ ((rgS V t V.length p).getD (0, 0)).2 ≤ 1000 := by
  cases h : rgS V t V.length p with
  | none => simp
  | some r => exact rgOf_small hs t p V.length (Nat.le_refl _) r h
end Go.Proofs.YtdehmioobkneiaaGreatDoor
