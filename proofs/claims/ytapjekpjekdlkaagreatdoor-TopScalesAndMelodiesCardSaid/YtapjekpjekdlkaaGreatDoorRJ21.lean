/- Maps from intervals: their keys, what they hold. Conditions: as each theorem says. Steps of melodies in memory; what is wrong with them. Conditions: as each theorem says. -/
import Derived.Test.YtapjekpjekdlkaaGreatDoorRJ5
import Derived.Test.YtapjekpjekdlkaaGreatDoorRJ19
import Derived.Test.YtapjekpjekdlkaaGreatDoorRKmA
import Derived.Test.YtapjekpjekdlkaaGreatDoorRJ7
set_option linter.unusedSimpArgs false
set_option linter.unusedVariables false
namespace Go.Proofs.YtapjekpjekdlkaaGreatDoor
open Go Go.RowKit Go.Maps

def i4V (x : I4) : Value := .agg #[.int .i64 x.a, .int .i64 x.b, .int .i64 x.c, .int .i64 x.d]
theorem ivl_keyed : Keyed Tryz.prog 27 := Keyed.of_law (deep_law (m := 3) (by decide) (by kernel_rfl) (by kernel_rfl) (by kernel_rfl))
/-- A key that is small enough to be told. -/
def okK (x : I4) : Prop := (-1000000 ≤ x.a ∧ x.a ≤ 1000000) ∧ (-1000000 ≤ x.b ∧ x.b ≤ 1000000) ∧ (-1000000 ≤ x.c ∧ x.c ≤ 1000000) ∧ (-1000000 ≤ x.d ∧ x.d ≤ 1000000)
theorem okK_right {x : I4} (h : rightB x = true) : okK x := by
  have := right_bounds h
  unfold okK
  omega
theorem okK_add {x y : I4} (hx : rightB x = true) (hy : rightB y = true) : okK (addI x y) := by
  rw [add_plain hx hy]
  have := right_bounds hx
  have := right_bounds hy
  unfold okK addP
  simp only
  omega
theorem int_wfZ (n : Int) (h : -1000000 ≤ n ∧ n ≤ 1000000) : (Lit.int .i64 n).wf = true := by
  have h1 : IntKind.i64.min = -9223372036854775808 := by decide
  have h2 : IntKind.i64.max = 9223372036854775807 := by decide
  unfold Lit.wf
  simp only [h1, h2, Bool.and_eq_true, decide_eq_true_eq]
  omega
theorem int_litsZ (d : Nat) (n : Int) (h : -1000000 ≤ n ∧ n ≤ 1000000) : Tryz.prog.keyLits (d + 1) 3 [.int .i64 n] = some [.int .i64 n] := by
  have hw := int_wfZ n h
  unfold Program.keyLits
  rw [Tryz.underlying3]
  simp [hw]
theorem ivl_key (x : I4) (h : okK x) : ∃ l, keyOf Tryz.prog 27 (i4V x) = some l := by
  obtain ⟨ha, hb, hc, hd⟩ := h
  have h1 : Tryz.prog.keyType 27 = true := by kernel_rfl
  have h2 : Tryz.prog.cellsOf 27 = 4 := by kernel_rfl
  have h3 : Tryz.prog.cellsOf 3 = 1 := by kernel_rfl
  obtain ⟨n, hn⟩ : ∃ n, Tryz.prog.types.size = n + 1 := ⟨Tryz.prog.types.size - 1, by kernel_rfl⟩
  have h4 : Tryz.prog.keyLits (Tryz.prog.types.size + 1) 27 [.int .i64 x.a, .int .i64 x.b, .int .i64 x.c, .int .i64 x.d] = some [.int .i64 x.a, .int .i64 x.b, .int .i64 x.c, .int .i64 x.d] := by
    rw [hn]
    unfold Program.keyLits
    rw [Tryz.underlying27]
    simp [h2, h3, int_litsZ, ha, hb, hc, hd]
  unfold keyOf
  rw [Tryz.underlying27]
  simp only [h1]
  have h5 : (i4V x).formed Tryz.prog 27 = true := by
    simp [i4V, Value.formed, Tryz.underlying27, h2]
  rw [h5]
  simp only [i4V, Value.cells, h4]
  exact ⟨_, rfl⟩
theorem i4V_inj {x y : I4} (e : i4V x = i4V y) : x = y := by
  have e1 : #[Value.int .i64 x.a, Value.int .i64 x.b, Value.int .i64 x.c, Value.int .i64 x.d] = #[Value.int .i64 y.a, Value.int .i64 y.b, Value.int .i64 y.c, Value.int .i64 y.d] := by
    injection e
  have e2 := congrArg Array.toList e1
  simp only [List.cons.injEq, Value.int.injEq, true_and, and_true] at e2
  exact I4.eq e2.1 e2.2.1 e2.2.2.1 e2.2.2.2
def ivB : KMap Tryz.prog I4 Bool where
  kt := 27
  mt := 97
  vt := 4
  kv := i4V
  ok := okK
  val := fun v => .bool v
  dat := fun v => .lit (.bool v)
  rd := boolRd
  zero := false
  keyed := ivl_keyed
  key := ivl_key
  inj := fun _ _ _ _ e => i4V_inj e
  rd_mk := fun _ => rfl
  rd_inv := fun u v ps h => boolRd_inv h
  und := Tryz.underlying97
  zer := fun w => Tryz.zeroValue4 w
def ivI : KMap Tryz.prog I4 Int where
  kt := 27
  mt := 80
  vt := 3
  kv := i4V
  ok := okK
  val := fun v => .int .i64 v
  dat := fun v => .lit (.int .i64 v)
  rd := intRd
  zero := 0
  keyed := ivl_keyed
  key := ivl_key
  inj := fun _ _ _ _ e => i4V_inj e
  rd_mk := fun _ => rfl
  rd_inv := fun u v ps h => by
    unfold intRd at h
    split at h
    · simp only [Option.some.injEq, Prod.mk.injEq, DataW.lit.injEq, Lit.int.injEq, true_and] at h
      rw [h.1]
    · cases h
  und := Tryz.underlying80
  zer := fun w => Tryz.zeroValue3 w
/-- An own map with its keys. -/
def OwnL {κ ν : Type} {P : Program} (M : KMap P κ ν) (w : World) (b : Nat) (ks : List κ) (f : κ → Option ν) : Prop := OwnX M w b ks.length f ∧ ks.Nodup ∧ (∀ k, k ∈ ks ↔ (f k).isSome = true) ∧ ∀ k ∈ ks, M.ok k
section
variable {κ ν : Type} {P : Program} {M : KMap P κ ν} {w w' : World} {b n : Nat} {ks : List κ} {f : κ → Option ν}
theorem OwnL.made (w : World) : OwnL M (w.alloc (.map #[] 0)) w.heap.size [] (fun _ => none) := ⟨OwnX.made w, List.nodup_nil, fun k => by simp, fun k hk => by cases hk⟩
theorem OwnL.grown (h : OwnL M w b ks f) {row : Option Nat} (hg : w.grownBy w' row) (hne : some b ≠ row) : OwnL M w' b ks f := ⟨h.1.grown hg hne, h.2⟩
theorem OwnL.ext (h : OwnL M w b ks f) (he : Ext w w') : OwnL M w' b ks f := ⟨h.1.ext he, h.2⟩
theorem OwnL.lt (h : OwnL M w b ks f) : b < w.heap.size := h.1.lt
theorem OwnL.put [DecidableEq κ] (h : OwnL M w b ks f) {k : κ} (hk : M.ok k) (hn : ks.length ≤ 1000000000000000000) (v : ν) :
    ∃ w' ks', (Instr.mapUpdate M.mt (.map (some b)) (M.kv k) (M.val v)).run P w = .ok () w' ∧ OwnL M w' b ks' (updK f k v) ∧ w.grownBy w' (some b) ∧ ks.length ≤ ks'.length ∧ ks'.length ≤ ks.length + 1 := by
  obtain ⟨w', h1, h2, h3⟩ := h.1.put hk hn v
  by_cases hf : (f k).isSome = true
  · rw [if_pos hf] at h2
    refine ⟨w', ks, h1, ⟨h2, h.2.1, fun q => ?_, h.2.2.2⟩, h3, Nat.le_refl _, Nat.le_succ _⟩
    unfold updK
    by_cases e : q = k
    · subst e; rw [if_pos rfl]; exact ⟨fun _ => rfl, fun _ => (h.2.2.1 q).2 hf⟩
    · rw [if_neg e]; exact h.2.2.1 q
  · rw [if_neg hf] at h2
    refine ⟨w', k :: ks, h1, ⟨h2, List.nodup_cons.2 ⟨fun hin => hf ((h.2.2.1 k).1 hin), h.2.1⟩, fun q => ?_, fun q hq => ?_⟩, h3, Nat.le_succ _, Nat.le_refl _⟩
    · unfold updK
      rw [List.mem_cons]
      by_cases e : q = k
      · subst e; rw [if_pos rfl]; exact ⟨fun _ => rfl, fun _ => .inl rfl⟩
      · rw [if_neg e, ← h.2.2.1 q]; exact ⟨fun hq => hq.resolve_left e, .inr⟩
    · rcases List.mem_cons.1 hq with rfl | hq
      · exact hk
      · exact h.2.2.2 q hq
theorem OwnX.atk (h : OwnX M w b n f) {k : κ} {l : Lit} (hk : M.ok k) (hl : keyOf P M.kt (M.kv k) = some l) : ∃ D : DataW Unit, w.ownsMap P M.kt M.rd b n D ∧ Maps.has D l = (f k).isSome ∧ D.atKey l (M.dat M.zero) = M.dat ((f k).getD M.zero) := by
  obtain ⟨D, hD, hsz, hT, h1, h2, h4⟩ := h
  exact ⟨D, hD, h1 k l hk hl, OwnK.atk h1 h2 hk hl⟩
theorem OwnX.look_ok (h : OwnX M w b n f) {k : κ} (hk : M.ok k) :
    (Instr.lookup M.mt (.map (some b)) (M.kv k) true).run P w = .ok (.tuple #[M.val ((f k).getD M.zero), .bool (f k).isSome]) w := by
  obtain ⟨l, hl⟩ := M.key k hk
  obtain ⟨D, hD, h1, h2⟩ := h.atk hk hl
  obtain ⟨v, ps, hrun, hv⟩ := hD.look_ok M.keyed M.und (M.zer w) (M.rd_mk M.zero) hl
  rw [h2] at hv
  rw [hrun, M.rd_inv _ _ _ hv, h1]
theorem OwnX.look (h : OwnX M w b n f) {k : κ} (hk : M.ok k) :
    (Instr.lookup M.mt (.map (some b)) (M.kv k) false).run P w = .ok (M.val ((f k).getD M.zero)) w := by
  obtain ⟨l, hl⟩ := M.key k hk
  obtain ⟨D, hD, h1, h2⟩ := h.atk hk hl
  obtain ⟨v, ps, hrun, hv⟩ := hD.lookup M.keyed M.und (M.zer w) (M.rd_mk M.zero) hl
  rw [h2] at hv
  rw [hrun, M.rd_inv _ _ _ hv]
end
/-! ### which map tells what -/
/-- The map of a note: it tells which intervals it can have. -/
def TellsR (C : List (List I4)) (k : Nat) (f : I4 → Option Bool) : Prop := ∀ x, (f x = some true ↔ Rch C k x) ∧ (f x = some true ∨ f x = none)
/-- The map of the fewest: for each interval that a note can have, the fewest unusual choices behind it. -/
def TellsF (e : I4) (C : List (List I4)) (k : Nat) (f : I4 → Option Int) : Prop := ∀ x v, f x = some v ↔ (Rch C k x ∧ ∃ m, fewL e (C.drop k) x = some m ∧ v = (m : Int))
end Go.Proofs.YtapjekpjekdlkaaGreatDoor

namespace Go.Proofs.YtapjekpjekdlkaaGreatDoor
open Go Go.RowKit

structure StepV where
  size : Int
  cs : List I4
structure StpR where
  size : Int
  p : Option Addr
  n : Nat
  c : Nat
deriving Inhabited
def stpC (s : StpR) : List Value := [.int .i64 s.size, .slice s.p s.n s.c]
theorem stpC_len (s : StpR) : (stpC s).length = 2 := rfl
/-- Steps in memory, with their cells. -/
def StpW (w : World) (p : Option Addr) (n c : Nat) (R : List StpR) (X : List StepV) : Prop :=
  R.length = X.length ∧ Slc 2 stpC w p n c R ∧ ∀ (i : Nat) (x : StepV), X[i]? = some x → ∃ s, R[i]? = some s ∧ s.size = x.size ∧ s.n = x.cs.length ∧ Slc 4 i4C w s.p s.n s.c x.cs
/-- Steps in memory. -/
def StpM (w : World) (p : Option Addr) (n c : Nat) (X : List StepV) : Prop := ∃ R, StpW w p n c R X
theorem StpM.ext {w w' : World} {p : Option Addr} {n c : Nat} {X : List StepV} (h : StpM w p n c X) (he : Ext w w') : StpM w' p n c X := by
  obtain ⟨R, h1, h2, h3⟩ := h
  exact ⟨R, h1, h2.ext he, fun i x hx => let ⟨s, a, a1, a2, b⟩ := h3 i x hx; ⟨s, a, a1, a2, b.ext he⟩⟩
theorem StpM.len {w : World} {p : Option Addr} {n c : Nat} {X : List StepV} (h : StpM w p n c X) : X.length = n := by
  obtain ⟨R, h1, h2, h3⟩ := h
  rw [← h1]; exact h2.1.1
theorem StpM.le {w : World} {p : Option Addr} {n c : Nat} {X : List StepV} (h : StpM w p n c X) : n ≤ c ∧ n ≤ 1000000000 := by
  obtain ⟨R, h1, h2, h3⟩ := h
  exact ⟨h2.2.1, h2.1.2.1⟩
theorem StpM.at_ {w : World} {p : Option Addr} {n c : Nat} {X : List StepV} (h : StpM w p n c X) {i : Nat} {x : StepV} (hx : X[i]? = some x) :
    ∃ b off q d, p = some ⟨b, off, none⟩ ∧ b < w.heap.size ∧ w.cell? ⟨b, off + i * 2, none⟩ = some (.int .i64 x.size) ∧ w.cell? ⟨b, off + i * 2 + 1, none⟩ = some (.slice q x.cs.length d) ∧ Slc 4 i4C w q x.cs.length d x.cs := by
  have hl := h.len
  obtain ⟨R, h1, h2, h3⟩ := h
  obtain ⟨s, a, a1, a2, e⟩ := h3 i x hx
  have hi := (List.getElem?_eq_some_iff.1 hx).1
  obtain ⟨b, off, hp, hb, hE⟩ := h2.1.2.2 (by omega)
  refine ⟨b, off, s.p, s.c, hp, hb, ?_, ?_, by rw [← a2]; exact e⟩
  · have := hE i _ a 0 (.int .i64 s.size) rfl
    rw [← a1]
    simpa using this
  · have := hE i _ a 1 (.slice s.p s.n s.c) rfl
    rw [← a2]
    simpa using this
theorem StpM.nil {w : World} {n c : Nat} {X : List StepV} (h : StpM w none n c X) : X = [] := by
  have hl := h.len
  obtain ⟨R, h1, h2, h3⟩ := h
  have := h2.2.2.1 rfl
  exact List.eq_nil_of_length_eq_zero (by omega)
theorem StpM.form {w : World} {p : Option Addr} {n c : Nat} {X : List StepV} (h : StpM w p n c X) : (p = none ∧ X = []) ∨ ∃ b off, p = some ⟨b, off, none⟩ ∧ b < w.heap.size := by
  cases p with
  | none => exact .inl ⟨rfl, h.nil⟩
  | some a =>
    obtain ⟨R, h1, h2, h3⟩ := h
    obtain ⟨b, off, rfl, hb⟩ := h2.2.2.2 a rfl
    exact .inr ⟨b, off, rfl, hb⟩
/-- Rows of intervals, read. -/
def RowsI (w : World) (p : Option Addr) (m c : Nat) (C : List (List I4)) : Prop :=
  ∃ vs : List Value, Slc 1 (fun v => [v]) w p m c vs ∧ vs.length = C.length ∧ ∀ (i : Nat) (r : List I4), C[i]? = some r → ∃ q d, vs[i]? = some (.slice q r.length d) ∧ Slc 4 i4C w q r.length d r
theorem RowsI.ext {w w' : World} {p : Option Addr} {m c : Nat} {C : List (List I4)} (h : RowsI w p m c C) (he : Ext w w') : RowsI w' p m c C := by
  obtain ⟨vs, h1, h2, h3⟩ := h
  exact ⟨vs, h1.ext he, h2, fun i r hr => let ⟨q, d, a, b⟩ := h3 i r hr; ⟨q, d, a, b.ext he⟩⟩
theorem RowsI.len {w : World} {p : Option Addr} {m c : Nat} {C : List (List I4)} (h : RowsI w p m c C) : C.length = m := by
  obtain ⟨vs, h1, h2, h3⟩ := h
  rw [← h2]; exact h1.1.1
theorem RowsI.form {w : World} {p : Option Addr} {m c : Nat} {C : List (List I4)} (h : RowsI w p m c C) : (p = none ∧ C = []) ∨ ∃ b off, p = some ⟨b, off, none⟩ ∧ b < w.heap.size := by
  have hl := h.len
  obtain ⟨vs, h1, h2, h3⟩ := h
  cases p with
  | none => exact .inl ⟨rfl, List.eq_nil_of_length_eq_zero (by have := h1.2.2.1 rfl; omega)⟩
  | some a =>
    obtain ⟨b, off, rfl, hb⟩ := h1.2.2.2 a rfl
    exact .inr ⟨b, off, rfl, hb⟩
theorem RowsI.at_ {w : World} {p : Option Addr} {m c : Nat} {C : List (List I4)} (h : RowsI w p m c C) {i : Nat} {r : List I4} (hr : C[i]? = some r) :
    ∃ b off q d, p = some ⟨b, off, none⟩ ∧ b < w.heap.size ∧ w.cell? ⟨b, off + i, none⟩ = some (.slice q r.length d) ∧ Slc 4 i4C w q r.length d r := by
  obtain ⟨vs, h1, h2, h3⟩ := h
  obtain ⟨q, d, a, e⟩ := h3 i r hr
  have hi := (List.getElem?_eq_some_iff.1 a).1
  have hl := h1.1.1
  obtain ⟨b, off, hp, hb, hE⟩ := h1.1.2.2 (by omega)
  refine ⟨b, off, q, d, hp, hb, ?_, e⟩
  have := hE i _ a 0 (.slice q r.length d) rfl
  simpa using this
theorem Elems.iv {w : World} {b off : Nat} {xs : List I4} (h : Elems 4 i4C w b off xs) {i : Nat} {x : I4} (hx : xs[i]? = some x) :
    w.cell? ⟨b, off + i * 4, none⟩ = some (.int .i64 x.a) ∧ w.cell? ⟨b, off + i * 4 + 1, none⟩ = some (.int .i64 x.b) ∧ w.cell? ⟨b, off + i * 4 + 2, none⟩ = some (.int .i64 x.c) ∧ w.cell? ⟨b, off + i * 4 + 3, none⟩ = some (.int .i64 x.d) :=
  ⟨h i x hx 0 _ rfl, h i x hx 1 _ rfl, h i x hx 2 _ rfl, h i x hx 3 _ rfl⟩
/-! ### what is wrong with steps -/
def choiceF (cs : List I4) (i : Nat) : Int := if rightB (atL zeroI cs i) then (if atL zeroI cs i ∈ cs.take i then 6 else 0) else 1
def choicesF (cs : List I4) : Int := if cs.length = 0 then 8 else if 4 < cs.length then 2 else scanF cs.length (choiceF cs)
def sizeAt (X : List StepV) (i : Nat) : Int := (atL ⟨0, []⟩ X i).size
def choicesAt (X : List StepV) (i : Nat) : List I4 := (atL ⟨0, []⟩ X i).cs
def stepF (X : List StepV) (i : Nat) : Int := if outB (sizeAt X i) (-24) 24 then 1 else if 0 < i ∧ sizeAt X i ≤ sizeAt X (i - 1) then 7 else choicesF (choicesAt X i)
def stepsF (X : List StepV) : Int := if 25 < X.length then 2 else scanF X.length (stepF X)
/-- The choices of a step of so many half tones. -/
def findX (X : List StepV) (d : Int) : Option StepV := X.find? fun s => decide (s.size = d)
def gapAt (m : List Int) (i : Nat) : Int := atL 0 m (i + 1) - atL 0 m i
def kindF (X : List StepV) (m : List Int) (i : Nat) : Int := if (findX X (gapAt m i)).isSome then 0 else 10
/-- What is wrong with steps and a melody. -/
def melF (X : List StepV) (m : List Int) : Int :=
  if stepsF X ≠ 0 then stepsF X else if m.length = 0 then 8 else if 400 < m.length then 2 else if (∃ n ∈ m, outB n 0 127 = true) then 1 else scanF (m.length - 1) (kindF X m)
/-- The choices of each step of a melody. -/
def melC (X : List StepV) (m : List Int) : List (List I4) := (List.range (m.length - 1)).map fun i => ((findX X (gapAt m i)).map (·.cs)).getD []
theorem melC_len (X : List StepV) (m : List Int) : (melC X m).length = m.length - 1 := by simp [melC]
end Go.Proofs.YtapjekpjekdlkaaGreatDoor
