/- Rows of numbers of the call's own that grow; a stage that is made. Conditions: as each theorem says. A stage that the stream makes. Conditions: sizes. Rows of the call's own: appended (with the place of the new row), cut. Conditions: as each theorem says. Numbers in some order, made by the stream. Conditions: as each theorem says. Stands that the stream makes. Conditions: sizes. Stands the other way round: the program's walk. Conditions: people, a stage and stands are right. The solver's memory while it tries. Conditions: as each theorem says. The solver's memory: a place taken or left, those who stand cut, the best so far kept. Conditions: as each theorem says. Lists of numbers, and of who is hidden, that are equal; no error. Conditions: as each theorem says. What is wrong with stands: the document's walk. Conditions: sizes. Which part is seen, by the document's text; the choir that the laws try out. Conditions: as each theorem says. Lists of stands that are equal; a name found among them. Conditions: as each theorem says. -/
import Derived.Test.YtdehmioobkneiaaGreatDoorTdJ33
import Derived.Test.YtdehmioobkneiaaGreatDoorTdStR
import Derived.ArgAppend
import Derived.Test.YtdehmioobkneiaaGreatDoorTdJ3
import Derived.Test.YtdehmioobkneiaaGreatDoorTdJ35
import Derived.Test.YtdehmioobkneiaaGreatDoorTdJ37
import Derived.Shelf.SlicesE.Clone
import Derived.Laws.StructEq
import Derived.Test.YtdehmioobkneiaaGreatDoorTdJ34
import Derived.Shelf.SlicesQ.IndexFunc
set_option linter.unusedSimpArgs false
set_option linter.unusedVariables false
namespace Go.Proofs.YtdehmioobkneiaaGreatDoor
open Go Go.RowKit
theorem own_lowT {w : World} {base base' k n : Nat} {e : TypeId} {v : Value} {xs : List Value} (h : w.ownsRow base' e k v n xs) (hb : base ≤ base') : w.ownsRow base e k v n xs :=
  ⟨h.1, h.2.imp id fun ⟨g, cap, cur, hv, hg, r⟩ => ⟨g, cap, cur, hv, Nat.le_trans hb hg, r⟩⟩
theorem grown_noneT {w w' : World} (h : w.grownBy w' none) (row : Option Nat) : w.grownBy w' row := ⟨h.os, h.tape, h.output, h.size, fun k hk _ => h.block k hk (by simp)⟩
theorem own_same {w w' : World} {base k n : Nat} {e : TypeId} {v : Value} {xs : List Value} (ho : w.ownsRow base e k v n xs) (h : ∀ g, v.ownBlock = some g → w'.heap[g]? = w.heap[g]?) : w'.ownsRow base e k v n xs := by
  refine ⟨ho.1, ?_⟩
  rcases ho.2 with h1 | ⟨g, cap, cur, rfl, hb, hg, rest⟩
  · exact .inl h1
  · exact .inr ⟨g, cap, cur, rfl, hb, (h g rfl).trans hg, rest⟩
theorem intInfoT : (Tryz.prog.info? 3).map (fun i => (i.zero, i.size, i.bytes)) = some (some (.int .i64 0), 1, 8) := by kernel_rfl
/-- A row of n small numbers of the call's own. -/
def OwI (w : World) (base : Nat) (p : Option Addr) (n c : Nat) : Prop := ∃ xs : List Int, xs.length = n ∧ SmallL xs ∧ w.ownsRow base 3 1 (.slice p n c) n (xs.flatMap intC)
theorem OwI.same {w w' : World} {base n c : Nat} {p : Option Addr} (h : OwI w base p n c) (hs : ∀ a, p = some a → w'.heap[a.block]? = w.heap[a.block]?) : OwI w' base p n c := by
  obtain ⟨xs, h1, h2, h3⟩ := h
  refine ⟨xs, h1, h2, own_same h3 fun g hg => ?_⟩
  cases p with
  | none => simp [Value.ownBlock] at hg
  | some a =>
    have : a.block = g := by simpa [Value.ownBlock] using hg
    rw [← this]
    exact hs a rfl
theorem OwI.lt {w : World} {base n c : Nat} {p : Option Addr} (h : OwI w base p n c) {a : Addr} (ha : p = some a) : base ≤ a.block ∧ a.block < w.heap.size := by
  obtain ⟨xs, h1, h2, h3⟩ := h
  subst ha
  exact h3.lt a.block rfl
theorem OwI.ext {w w' : World} {base n c : Nat} {p : Option Addr} (h : OwI w base p n c) (he : Ext w w') : OwI w' base p n c := h.same fun a ha => he.blk (h.lt ha).2
theorem OwI.extS {s : Nat} {w w' : World} {base n c : Nat} {p : Option Addr} (h : OwI w base p n c) (hs : s < base) (he : ExtS s w w') : OwI w' base p n c := h.same fun a ha => he.2.2.2.2 _ (h.lt ha).2 (by have := (h.lt ha).1; omega)
theorem OwI.nil (w : World) (base : Nat) : OwI w base none 0 0 := ⟨[], rfl, (fun x hx => by cases hx), World.ownsRow_nil _ _ _ _⟩
theorem OwI.slc {w : World} {base n c : Nat} {p : Option Addr} (h : OwI w base p n c) (hn : n ≤ 1000000000) : ∃ xs : List Int, xs.length = n ∧ SmallL xs ∧ Slc 1 intC w p n c xs := by
  obtain ⟨xs, h1, h2, h3⟩ := h
  obtain ⟨p', c', e, hS⟩ := slc_of_own intC_len h3 (by decide) hn
  cases e
  exact ⟨xs, h1, h2, hS⟩
theorem OwI.form {w : World} {base n c : Nat} {p : Option Addr} (h : OwI w base p n c) (hn : 0 < n) : ∃ b, p = some ⟨b, 0, none⟩ ∧ base ≤ b ∧ b < w.heap.size := by
  obtain ⟨xs, h1, h2, h3⟩ := h
  obtain ⟨b, c', e, hb, hl⟩ := h3.form hn
  cases e
  exact ⟨b, rfl, hb, hl⟩
theorem OwI.cell {w : World} {base n c b : Nat} (h : OwI w base (some ⟨b, 0, none⟩) n c) {i : Nat} (hi : i < n) : ∃ x : Int, w.cell? ⟨b, i, none⟩ = some (.int .i64 x) := by
  obtain ⟨xs, h1, h2, h3⟩ := h
  obtain ⟨x, hx⟩ := getD_some h1 hi
  have := own_cell intC_len h3 hx 0 (v := .int .i64 x) rfl hi
  exact ⟨x, by simpa using this⟩
theorem OwI.frozen {w : World} {base n c b : Nat} (h : OwI w base (some ⟨b, 0, none⟩) n c) (i : Nat) : w.frozen? ⟨b, i, none⟩ = false := by
  obtain ⟨xs, h1, h2, h3⟩ := h
  exact h3.frozenAt i
theorem OwI.set {w : World} {base n c b : Nat} (h : OwI w base (some ⟨b, 0, none⟩) n c) {i : Nat} (hi : i < n) (v : Int) (hv : -1099511627776 ≤ v ∧ v ≤ 1099511627776) : OwI (w.setCell ⟨b, i, none⟩ (.int .i64 v)) base (some ⟨b, 0, none⟩) n c := by
  obtain ⟨xs, h1, h2, h3⟩ := h
  obtain ⟨x, hx⟩ := getD_some h1 hi
  refine ⟨xs.set i v, by rw [List.length_set, h1], fun y hy => ?_, ?_⟩
  · rcases List.mem_or_eq_of_mem_set hy with h4 | h4
    · exact h2 y h4
    · subst h4; exact hv
  · have := own_set1 intC_len h3 v hx 0 (by decide) (.int .i64 v) rfl
    simpa using this
theorem OwI.far {w : World} {base n c : Nat} {p : Option Addr} (h : OwI w base p n c) {q : Addr} (hq : ∀ a, p = some a → a.block ≠ q.block) (u : Value) : OwI (w.setCell q u) base p n c := h.same fun a ha => Below.heap_setCell w q u a.block (hq a ha)
theorem OwI.grown {w w' : World} {base n c : Nat} {p : Option Addr} {r : Option Nat} (h : OwI w base p n c) (hg : w.grownBy w' r) (hr : ∀ a, p = some a → some a.block ≠ r) : OwI w' base p n c := h.same fun a ha => hg.block _ (h.lt ha).2 (hr a ha)
theorem OwI.app {w : World} {base n c : Nat} {p : Option Addr} (h : OwI w base p n c) (g : Nat) (v : Int) (hv : -1099511627776 ≤ v ∧ v ≤ 1099511627776) (hB : Blk w g 3 #[.int .i64 v]) (hn : n ≤ 1000) (hbase : base ≤ w.heap.size) :
    ∃ b c' w', (Builtin.append_ #[22, 22] 22 #[.slice p n c, .slice (some ⟨g, 0, none⟩) 1 1]).run Tryz.prog w = .ok (.slice (some ⟨b, 0, none⟩) (n + 1) c') w' ∧ OwI w' base (some ⟨b, 0, none⟩) (n + 1) c' ∧ w.grownBy w' (Value.slice p n c).ownBlock ∧ (n + 1 ≤ c → p = some ⟨b, 0, none⟩ ∧ c' = c) ∧ (¬ n + 1 ≤ c → w.heap.size ≤ b) ∧ (p = some ⟨b, 0, none⟩ ∨ w.heap.size ≤ b) := by
  obtain ⟨xs, hl, hs, hown⟩ := h
  have hcell : ∀ (j : Nat) (u : Value), (intC v)[j]? = some u → w.cell? ((⟨g, 0, none⟩ : Addr).add j) = some u := fun j u hu => by
    have : (⟨g, 0, none⟩ : Addr).add j = ⟨g, j, none⟩ := by unfold Addr.add; split <;> simp_all
    rw [this, hB.cell j]
    simpa [intC] using hu
  have h1 : ∀ u ∈ intC v, u.oneCell' = true := by simp [intC, Value.oneCell']
  have hnew : ∀ {w' : World} {b c' : Nat}, w'.ownsRow base 3 1 (.slice (some ⟨b, 0, none⟩) (n + 1) c') (n + 1) (xs.flatMap intC ++ intC v) → OwI w' base (some ⟨b, 0, none⟩) (n + 1) c' := fun ho => ⟨xs ++ [v], by simp [hl], fun y hy => by
    rcases List.mem_append.1 hy with h4 | h4
    · exact hs y h4
    · rw [List.mem_singleton] at h4; subst h4; exact hv, by rw [flat_snoc]; exact ho⟩
  have ht := Tryz.underlying22
  obtain ⟨i0, hi, hz0, hz1, hz2⟩ := info_parts intInfoT
  rcases hown.2 with ⟨he, hn0⟩ | ⟨b, cap, cur, he, hb, hg, hnc, hcm, hcs, htk⟩
  · cases he
    obtain rfl : xs = [] := List.eq_nil_of_length_eq_zero (by omega)
    obtain ⟨v', w', hr, h2, h3, -⟩ := run_append_own (P := Tryz.prog) w w.heap.size 22 22 3 i0 (.int .i64 0) 1 8 ht hi hz0 hz1 hz2 rfl (by decide) (.slice none 0 0) 0 [] (World.ownsRow_nil _ _ _ _) ⟨g, 0, none⟩ 1 1 (intC v) rfl hcell h1 (by unfold maxLen; omega) (by omega) (Nat.le_refl _)
    obtain ⟨b, c', rfl, hb, _⟩ := h2.form (by omega)
    exact ⟨b, c', w', hr, hnew (own_lowT h2 hbase), h3, fun h => absurd h (by omega), fun _ => hb, .inr hb⟩
  · cases he
    by_cases hroom : n + 1 ≤ c
    · obtain ⟨w', hr, h2, h3⟩ := run_append_fits (P := Tryz.prog) w base 22 22 3 i0 1 ht hi hz1 b n c (xs.flatMap intC) hown ⟨g, 0, none⟩ 1 1 (intC v) rfl hcell h1 hroom
      exact ⟨b, c, w', hr, hnew h2, h3, fun _ => ⟨rfl, rfl⟩, fun h => absurd hroom h, .inl rfl⟩
    · obtain ⟨v', w', hr, h2, h3⟩ := run_append_arg_grows (P := Tryz.prog) w 22 22 3 i0 (.int .i64 0) 1 8 ht hi hz0 hz1 hz2 rfl (by decide) ⟨b, 0, none⟩ n c (xs.flatMap intC) hown.1 (fun j u hj => by
        have := hown.cells (g := b) rfl j u hj
        have e2 : (⟨b, 0, none⟩ : Addr).add j = ⟨b, j, none⟩ := by unfold Addr.add; split <;> simp_all
        simpa [e2] using this) ⟨g, 0, none⟩ 1 1 (intC v) rfl hcell (by omega) (by unfold maxLen; omega) (by omega)
      obtain ⟨b', c', rfl, hb', _⟩ := h2.form (by omega)
      exact ⟨b', c', w', hr, hnew (own_lowT h2 hbase), grown_noneT h3 _, fun h => absurd h hroom, fun _ => hb', .inr hb'⟩
/-- All that was there stands but the stream and what lies between. -/
def ExtN (s z n0 : Nat) (w w' : World) : Prop := w'.os = w.os ∧ w'.tape = w.tape ∧ w'.output = w.output ∧ w.heap.size ≤ w'.heap.size ∧ ∀ k, k < w.heap.size → k ≠ s → (k ≤ z ∨ n0 ≤ k) → w'.heap[k]? = w.heap[k]?
theorem ExtN.refl (s z n0 : Nat) (w : World) : ExtN s z n0 w w := ⟨rfl, rfl, rfl, Nat.le_refl _, fun _ _ _ _ => rfl⟩
theorem ExtN.trans {s z n0 : Nat} {a b c : World} (h : ExtN s z n0 a b) (k : ExtN s z n0 b c) : ExtN s z n0 a c :=
  ⟨k.1.trans h.1, k.2.1.trans h.2.1, k.2.2.1.trans h.2.2.1, Nat.le_trans h.2.2.2.1 k.2.2.2.1, fun i hi h1 h2 => (k.2.2.2.2 i (Nat.lt_of_lt_of_le hi h.2.2.2.1) h1 h2).trans (h.2.2.2.2 i hi h1 h2)⟩
theorem ExtN.grown {s z n0 : Nat} {a b : World} {r : Option Nat} (h : a.grownBy b r) (hr : ∀ g, r = some g → z < g ∧ g < n0) : ExtN s z n0 a b := ⟨h.os, h.tape, h.output, h.size, fun k hk _ h2 => h.block k hk fun e => by have := hr k e.symm; omega⟩
theorem ExtN.set {s z n0 : Nat} {a b : World} (h : ExtN s z n0 a b) {p : Addr} (hp : z < p.block ∧ p.block < n0) (u : Value) : ExtN s z n0 a (b.setCell p u) :=
  h.trans ⟨rfl, rfl, rfl, by simp, fun k _ _ h2 => Below.heap_setCell b p u k (by omega)⟩
theorem ExtN.back {s z n0 : Nat} {a b c : World} (h : ExtS s a b) (hz : a.heap.size ≤ z + 1) (k : ExtN s z n0 b c) : ExtS s a c :=
  ⟨k.1.trans h.1, k.2.1.trans h.2.1, k.2.2.1.trans h.2.2.1, Nat.le_trans h.2.2.2.1 k.2.2.2.1, fun i hi h1 => (k.2.2.2.2 i (Nat.lt_of_lt_of_le hi h.2.2.2.1) h1 (.inl (by omega))).trans (h.2.2.2.2 i hi h1)⟩
end Go.Proofs.YtdehmioobkneiaaGreatDoor
namespace Go.Proofs.YtdehmioobkneiaaGreatDoor
open Go Go.RowKit
theorem Str.grown {s q : Nat} {b c : World} {r : Option Nat} (h : Str b s q) (hg : b.grownBy c r) (hr : ∀ g, r = some g → s < g) : Str c s q :=
  h.low fun j hj => hg.block j (Nat.lt_of_le_of_lt hj h.lt) fun e => by have := hr j e.symm; omega
/-- A stage that is being made. -/
structure StgM (w0 w : World) (s k z : Nat) (pw : Option Addr) (cw : Nat) (ph : Option Addr) (ch n m : Nat) : Prop where
  ext : ExtS s w0 w
  str : Str w s k
  low : s < w0.heap.size
  zz : z = w0.heap.size + 1
  res : Blk w w0.heap.size 48 #[.slice none 0 0, .slice none 0 0]
  blk : Blk w z 48 #[.slice pw n cw, .slice ph m ch]
  wr : OwI w (z + 1) pw n cw
  hr : OwI w (z + 1) ph m ch
  far : ∀ a b, pw = some a → ph = some b → a.block ≠ b.block
theorem StgM.extS {w0 w w' : World} {s k k' z cw ch n m : Nat} {pw ph : Option Addr} (h : StgM w0 w s k z pw cw ph ch n m) (he : ExtS s w w') (hs : Str w' s k') : StgM w0 w' s k' z pw cw ph ch n m := by
  have h1 := h.low
  have h2 := h.zz
  exact ⟨h.ext.trans he, hs, h1, h2, h.res.extS (by omega) he, h.blk.extS (by omega) he, h.wr.extS (by omega) he, h.hr.extS (by omega) he, h.far⟩
theorem StgM.more {w0 w w' : World} {s k z cw ch n m : Nat} {pw ph : Option Addr} (h : StgM w0 w s k z pw cw ph ch n m) (he : Ext w w') : StgM w0 w' s k z pw cw ph ch n m := h.extS he.extS (h.str.ext he)
def StageP (s k : Nat) (w : World) (e : Ending) (w' : World) : Prop := ∃ (wp : Option Addr) (wc : Nat) (hp : Option Addr) (hc : Nat) (wide high : List Int), e = .returned (.agg #[.slice wp wide.length wc, .slice hp high.length hc]) ∧ wide.length ≤ 4 ∧ high.length ≤ 4 ∧ SmallL wide ∧ SmallL high ∧ Slc 1 intC w' wp wide.length wc wide ∧ Slc 1 intC w' hp high.length hc high ∧ (∀ a, wp = some a → w.heap.size ≤ a.block) ∧ (∀ a, hp = some a → w.heap.size ≤ a.block) ∧ Str w' s (k + 40) ∧ ExtS s w w'
theorem StgM.post {w w' : World} {s k k' cw ch n m : Nat} {pw ph : Option Addr} (h : StgM w w' s k' (w.heap.size + 1) pw cw ph ch n m) (hn : n ≤ 4) (hm : m ≤ 4) (hk : k' ≤ k + 40) :
    StageP s k w (.returned (.agg #[.slice pw n cw, .slice ph m ch])) ((w'.setCell ⟨w.heap.size, 0, none⟩ (.slice pw n cw)).setCell ⟨w.heap.size, 1, none⟩ (.slice ph m ch)) ∧ Blk ((w'.setCell ⟨w.heap.size, 0, none⟩ (.slice pw n cw)).setCell ⟨w.heap.size, 1, none⟩ (.slice ph m ch)) w.heap.size 48 #[.slice pw n cw, .slice ph m ch] := by
  have hw1 := (h.wr.far (q := ⟨w.heap.size, 0, none⟩) (fun a ha => by have := (h.wr.lt ha).1; simp only; omega) (.slice pw n cw))
  have hw2 := (hw1.far (q := ⟨w.heap.size, 1, none⟩) (fun a ha => by have := (h.wr.lt ha).1; simp only; omega) (.slice ph m ch))
  have hh1 := (h.hr.far (q := ⟨w.heap.size, 0, none⟩) (fun a ha => by have := (h.hr.lt ha).1; simp only; omega) (.slice pw n cw))
  have hh2 := (hh1.far (q := ⟨w.heap.size, 1, none⟩) (fun a ha => by have := (h.hr.lt ha).1; simp only; omega) (.slice ph m ch))
  obtain ⟨wide, l1, s1, S1⟩ := hw2.slc (by omega)
  obtain ⟨high, l2, s2, S2⟩ := hh2.slc (by omega)
  have hl := h.low
  subst l1; subst l2
  exact ⟨⟨pw, cw, ph, ch, wide, high, rfl, hn, hm, s1, s2, S1, S2, (fun a ha => by have := (h.wr.lt ha).1; omega), (fun a ha => by have := (h.hr.lt ha).1; omega), ((h.str.set (p := ⟨w.heap.size, 0, none⟩) hl _).set (p := ⟨w.heap.size, 1, none⟩) hl _).more hk, (h.ext.setCell (p := ⟨w.heap.size, 0, none⟩) (.inr (Nat.le_refl _)) _).setCell (p := ⟨w.heap.size, 1, none⟩) (.inr (Nat.le_refl _)) _⟩, ((h.res.set_ 0 _).set_ 1 _).cast (by simp)⟩
end Go.Proofs.YtdehmioobkneiaaGreatDoor
namespace Go.Proofs.YtdehmioobkneiaaGreatDoor
open Go Go.RowKit
end Go.Proofs.YtdehmioobkneiaaGreatDoor
namespace Go.Proofs.YtdehmioobkneiaaGreatDoor
open Go Go.RowKit
/-- A row of n numbers of the call's own, each of a kind. -/
def OwG (Q : Int → Prop) (w : World) (base : Nat) (p : Option Addr) (n c : Nat) : Prop := ∃ xs : List Int, xs.length = n ∧ (∀ x ∈ xs, Q x) ∧ w.ownsRow base 3 1 (.slice p n c) n (xs.flatMap intC)
section
variable {Q : Int → Prop}
theorem OwG.same {w w' : World} {base n c : Nat} {p : Option Addr} (h : OwG Q w base p n c) (hs : ∀ a, p = some a → w'.heap[a.block]? = w.heap[a.block]?) : OwG Q w' base p n c := by
  obtain ⟨xs, h1, h2, h3⟩ := h
  refine ⟨xs, h1, h2, own_same h3 fun g hg => ?_⟩
  cases p with
  | none => simp [Value.ownBlock] at hg
  | some a =>
    have : a.block = g := by simpa [Value.ownBlock] using hg
    rw [← this]
    exact hs a rfl
theorem OwG.lt {w : World} {base n c : Nat} {p : Option Addr} (h : OwG Q w base p n c) {a : Addr} (ha : p = some a) : base ≤ a.block ∧ a.block < w.heap.size := by
  obtain ⟨xs, h1, h2, h3⟩ := h
  subst ha
  exact h3.lt a.block rfl
theorem OwG.ext {w w' : World} {base n c : Nat} {p : Option Addr} (h : OwG Q w base p n c) (he : Ext w w') : OwG Q w' base p n c := h.same fun a ha => he.blk (h.lt ha).2
theorem OwG.extS {s : Nat} {w w' : World} {base n c : Nat} {p : Option Addr} (h : OwG Q w base p n c) (hs : s < base) (he : ExtS s w w') : OwG Q w' base p n c := h.same fun a ha => he.2.2.2.2 _ (h.lt ha).2 (by have := (h.lt ha).1; omega)
theorem OwG.nil (w : World) (base : Nat) : OwG Q w base none 0 0 := ⟨[], rfl, (fun x hx => by cases hx), World.ownsRow_nil _ _ _ _⟩
theorem OwG.slc {w : World} {base n c : Nat} {p : Option Addr} (h : OwG Q w base p n c) (hn : n ≤ 1000000000) : ∃ xs : List Int, xs.length = n ∧ (∀ x ∈ xs, Q x) ∧ Slc 1 intC w p n c xs := by
  obtain ⟨xs, h1, h2, h3⟩ := h
  obtain ⟨p', c', e, hS⟩ := slc_of_own intC_len h3 (by decide) hn
  cases e
  exact ⟨xs, h1, h2, hS⟩
theorem OwG.form {w : World} {base n c : Nat} {p : Option Addr} (h : OwG Q w base p n c) (hn : 0 < n) : ∃ b, p = some ⟨b, 0, none⟩ ∧ base ≤ b ∧ b < w.heap.size := by
  obtain ⟨xs, h1, h2, h3⟩ := h
  obtain ⟨b, c', e, hb, hl⟩ := h3.form hn
  cases e
  exact ⟨b, rfl, hb, hl⟩
theorem OwG.cell {w : World} {base n c b : Nat} (h : OwG Q w base (some ⟨b, 0, none⟩) n c) {i : Nat} (hi : i < n) : ∃ x : Int, Q x ∧ w.cell? ⟨b, i, none⟩ = some (.int .i64 x) := by
  obtain ⟨xs, h1, h2, h3⟩ := h
  obtain ⟨x, hx⟩ := getD_some h1 hi
  have := own_cell intC_len h3 hx 0 (v := .int .i64 x) rfl hi
  exact ⟨x, h2 x (List.mem_of_getElem? hx), by simpa using this⟩
theorem OwG.frozen {w : World} {base n c b : Nat} (h : OwG Q w base (some ⟨b, 0, none⟩) n c) (i : Nat) : w.frozen? ⟨b, i, none⟩ = false := by
  obtain ⟨xs, h1, h2, h3⟩ := h
  exact h3.frozenAt i
theorem OwG.set {w : World} {base n c b : Nat} (h : OwG Q w base (some ⟨b, 0, none⟩) n c) {i : Nat} (hi : i < n) (v : Int) (hv : Q v) : OwG Q (w.setCell ⟨b, i, none⟩ (.int .i64 v)) base (some ⟨b, 0, none⟩) n c := by
  obtain ⟨xs, h1, h2, h3⟩ := h
  obtain ⟨x, hx⟩ := getD_some h1 hi
  refine ⟨xs.set i v, by rw [List.length_set, h1], fun y hy => ?_, ?_⟩
  · rcases List.mem_or_eq_of_mem_set hy with h4 | h4
    · exact h2 y h4
    · subst h4; exact hv
  · have := own_set1 intC_len h3 v hx 0 (by decide) (.int .i64 v) rfl
    simpa using this
theorem OwG.far {w : World} {base n c : Nat} {p : Option Addr} (h : OwG Q w base p n c) {q : Addr} (hq : ∀ a, p = some a → a.block ≠ q.block) (u : Value) : OwG Q (w.setCell q u) base p n c := h.same fun a ha => Below.heap_setCell w q u a.block (hq a ha)
theorem OwG.grown {w w' : World} {base n c : Nat} {p : Option Addr} {r : Option Nat} (h : OwG Q w base p n c) (hg : w.grownBy w' r) (hr : ∀ a, p = some a → some a.block ≠ r) : OwG Q w' base p n c := h.same fun a ha => hg.block _ (h.lt ha).2 (hr a ha)
theorem OwG.app {w : World} {base n c : Nat} {p : Option Addr} (h : OwG Q w base p n c) (g : Nat) (v : Int) (hv : Q v) (hB : Blk w g 3 #[.int .i64 v]) (hn : n ≤ 1000) (hbase : base ≤ w.heap.size) :
    ∃ b c' w', (Builtin.append_ #[22, 22] 22 #[.slice p n c, .slice (some ⟨g, 0, none⟩) 1 1]).run Tryz.prog w = .ok (.slice (some ⟨b, 0, none⟩) (n + 1) c') w' ∧ OwG Q w' base (some ⟨b, 0, none⟩) (n + 1) c' ∧ w.grownBy w' (Value.slice p n c).ownBlock ∧ (n + 1 ≤ c → p = some ⟨b, 0, none⟩ ∧ c' = c) ∧ (¬ n + 1 ≤ c → w.heap.size ≤ b) ∧ (p = some ⟨b, 0, none⟩ ∨ w.heap.size ≤ b) := by
  obtain ⟨xs, hl, hs, hown⟩ := h
  have hcell : ∀ (j : Nat) (u : Value), (intC v)[j]? = some u → w.cell? ((⟨g, 0, none⟩ : Addr).add j) = some u := fun j u hu => by
    have : (⟨g, 0, none⟩ : Addr).add j = ⟨g, j, none⟩ := by unfold Addr.add; split <;> simp_all
    rw [this, hB.cell j]
    simpa [intC] using hu
  have h1 : ∀ u ∈ intC v, u.oneCell' = true := by simp [intC, Value.oneCell']
  have hnew : ∀ {w' : World} {b c' : Nat}, w'.ownsRow base 3 1 (.slice (some ⟨b, 0, none⟩) (n + 1) c') (n + 1) (xs.flatMap intC ++ intC v) → OwG Q w' base (some ⟨b, 0, none⟩) (n + 1) c' := fun ho => ⟨xs ++ [v], by simp [hl], fun y hy => by
    rcases List.mem_append.1 hy with h4 | h4
    · exact hs y h4
    · rw [List.mem_singleton] at h4; subst h4; exact hv, by rw [flat_snoc]; exact ho⟩
  have ht := Tryz.underlying22
  obtain ⟨i0, hi, hz0, hz1, hz2⟩ := info_parts intInfoT
  rcases hown.2 with ⟨he, hn0⟩ | ⟨b, cap, cur, he, hb, hg, hnc, hcm, hcs, htk⟩
  · cases he
    obtain rfl : xs = [] := List.eq_nil_of_length_eq_zero (by omega)
    obtain ⟨v', w', hr, h2, h3, -⟩ := run_append_own (P := Tryz.prog) w w.heap.size 22 22 3 i0 (.int .i64 0) 1 8 ht hi hz0 hz1 hz2 rfl (by decide) (.slice none 0 0) 0 [] (World.ownsRow_nil _ _ _ _) ⟨g, 0, none⟩ 1 1 (intC v) rfl hcell h1 (by unfold maxLen; omega) (by omega) (Nat.le_refl _)
    obtain ⟨b, c', rfl, hb, _⟩ := h2.form (by omega)
    exact ⟨b, c', w', hr, hnew (own_lowT h2 hbase), h3, fun h => absurd h (by omega), fun _ => hb, .inr hb⟩
  · cases he
    by_cases hroom : n + 1 ≤ c
    · obtain ⟨w', hr, h2, h3⟩ := run_append_fits (P := Tryz.prog) w base 22 22 3 i0 1 ht hi hz1 b n c (xs.flatMap intC) hown ⟨g, 0, none⟩ 1 1 (intC v) rfl hcell h1 hroom
      exact ⟨b, c, w', hr, hnew h2, h3, fun _ => ⟨rfl, rfl⟩, fun h => absurd hroom h, .inl rfl⟩
    · obtain ⟨v', w', hr, h2, h3⟩ := run_append_arg_grows (P := Tryz.prog) w 22 22 3 i0 (.int .i64 0) 1 8 ht hi hz0 hz1 hz2 rfl (by decide) ⟨b, 0, none⟩ n c (xs.flatMap intC) hown.1 (fun j u hj => by
        have := hown.cells (g := b) rfl j u hj
        have e2 : (⟨b, 0, none⟩ : Addr).add j = ⟨b, j, none⟩ := by unfold Addr.add; split <;> simp_all
        simpa [e2] using this) ⟨g, 0, none⟩ 1 1 (intC v) rfl hcell (by omega) (by unfold maxLen; omega) (by omega)
      obtain ⟨b', c', rfl, hb', _⟩ := h2.form (by omega)
      exact ⟨b', c', w', hr, hnew (own_lowT h2 hbase), grown_noneT h3 _, fun h => absurd h hroom, fun _ => hb', .inr hb'⟩
theorem OwG.own {w : World} {base n c : Nat} {p : Option Addr} (h : OwG Q w base p n c) : ∀ q, (Value.slice p n c).ownBlock = some q → base ≤ q := fun q hq => by
  cases p with
  | none => simp [Value.ownBlock] at hq
  | some a =>
    have e : a.block = q := by simpa [Value.ownBlock] using hq
    have := (h.lt rfl).1
    omega
end
end Go.Proofs.YtdehmioobkneiaaGreatDoor
namespace Go.Proofs.YtdehmioobkneiaaGreatDoor
open Go Go.RowKit
theorem staInfo : (Tryz.prog.info? 54).map (fun i => (i.zero, i.size, i.bytes)) = some (some (.agg #[.string ⟨#[]⟩, .int .i64 0, .int .i64 0]), 3, 32) := by kernel_rfl
theorem sta_one (x : StandV) : ∀ u ∈ staC x, u.oneCell' = true := by simp [staC, Value.oneCell']
/-- Stands that are being made. -/
structure SlM (s k0 : Nat) (w : World) (base : Nat) (wr : World) (P : List PersonV) (p0 : Option Addr) (c0 lo : Nat) (v7 : Value) (po : Option Addr) (m co : Nat) (S : List StandV) : Prop where
  own : wr.ownsRow base 54 3 v7 S.length (S.flatMap staC)
  sum : S.length + m = P.length
  small : ∀ x ∈ S, x.Small
  cap : m ≤ co
  at_ : m ≠ 0 → ∃ bo off, po = some ⟨bo, off, none⟩ ∧ p0 = some ⟨bo, 0, none⟩ ∧ off + m ≤ P.length
  ord : OwG (fun x => 0 ≤ x ∧ x < P.length) wr lo p0 P.length c0
  low : s < lo ∧ s < base ∧ w.heap.size ≤ base
  szb : base ≤ wr.heap.size
  str : Str wr s k0
  ext : ExtS s w wr
theorem SlM.extS {s k0 k1 : Nat} {w : World} {base : Nat} {wr wq : World} {P : List PersonV} {p0 : Option Addr} {c0 lo : Nat} {v7 : Value} {po : Option Addr} {m co : Nat} {S : List StandV} (h : SlM s k0 w base wr P p0 c0 lo v7 po m co S) (he : ExtS s wr wq) (hs : Str wq s k1) : SlM s k1 w base wq P p0 c0 lo v7 po m co S :=
  ⟨own_extS he h.low.2.1 h.own, h.sum, h.small, h.cap, h.at_, h.ord.extS h.low.1 he, h.low, Nat.le_trans h.szb he.2.2.2.1, hs, h.ext.trans he⟩
theorem SlM.more {s k0 : Nat} {w : World} {base : Nat} {wr wq : World} {P : List PersonV} {p0 : Option Addr} {c0 lo : Nat} {v7 : Value} {po : Option Addr} {m co : Nat} {S : List StandV} (h : SlM s k0 w base wr P p0 c0 lo v7 po m co S) (he : Ext wr wq) : SlM s k0 w base wq P p0 c0 lo v7 po m co S := h.extS he.extS (h.str.ext he)
end Go.Proofs.YtdehmioobkneiaaGreatDoor
namespace Go.Proofs.YtdehmioobkneiaaGreatDoor
open Go Go.RowKit Go.Sort
end Go.Proofs.YtdehmioobkneiaaGreatDoor
namespace Go.Proofs.YtdehmioobkneiaaGreatDoor
open Go Go.RowKit
section
variable {w0 w : World} {v gk ck : Nat} {pp : Option Addr} {pc : Nat} {P : List PersonV} {wp : Option Addr} {wcap : Nat} {wide : List Int} {hp : Option Addr} {hc : Nat} {high : List Int} {plp : Option Addr} {plc : Nat} {all : List StandV} {K : List Bool} {np : Option Addr} {nc : Nat} {T : List StandV} {bp : Option Addr} {bc : Nat} {fw : Int} {bst : List StandV}
end
end Go.Proofs.YtdehmioobkneiaaGreatDoor
namespace Go.Proofs.YtdehmioobkneiaaGreatDoor
open Go Go.RowKit
section
variable {w0 w : World} {v gk ck : Nat} {pp : Option Addr} {pc : Nat} {P : List PersonV} {wp : Option Addr} {wcap : Nat} {wide : List Int} {hp : Option Addr} {hc : Nat} {high : List Int} {plp : Option Addr} {plc : Nat} {all : List StandV} {K : List Bool} {np : Option Addr} {nc : Nat} {T : List StandV} {bp : Option Addr} {bc : Nat} {fw : Int} {bst : List StandV}
end
end Go.Proofs.YtdehmioobkneiaaGreatDoor
namespace Go.Proofs.YtdehmioobkneiaaGreatDoor
open Go Go.RowKit
end Go.Proofs.YtdehmioobkneiaaGreatDoor
namespace Go.Proofs.YtdehmioobkneiaaGreatDoor
open Go Go.RowKit
theorem strInfo : (Tryz.prog.info? 9).map (fun i => (i.zero, i.size, i.bytes)) = some (some (.string ⟨#[]⟩), 1, 16) := by kernel_rfl
end Go.Proofs.YtdehmioobkneiaaGreatDoor
namespace Go.Proofs.YtdehmioobkneiaaGreatDoor
open Go Go.RowKit
end Go.Proofs.YtdehmioobkneiaaGreatDoor
namespace Go.Proofs.YtdehmioobkneiaaGreatDoor
open Go Go.RowKit
end Go.Proofs.YtdehmioobkneiaaGreatDoor
