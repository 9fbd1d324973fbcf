/- Rows of numbers of the call's own that grow; a stage that is made. Conditions: as each theorem says. Who hides whom, by the document's text: the walks. Conditions: people, stage and stands are right. Who is hidden, by the document's text: the walk. Conditions: people, stage and stands are right. -/
import Derived.Test.YtfcoeikekbjgpaaGreatDoorSxStD
import Derived.Test.YtfcoeikekbjgpaaGreatDoorSxStR
import Derived.ArgAppend
import Derived.Test.YtfcoeikekbjgpaaGreatDoorSxJ23
set_option linter.unusedSimpArgs false
set_option linter.unusedVariables false
namespace Go.Proofs.YtfcoeikekbjgpaaGreatDoor
open Go Go.RowKit

theorem own_lowT {w : World} {base base' k n : Nat} {e : TypeId} {v : Value} {xs : List Value} (h : w.ownsRow base' e k v n xs) (hb : base ≤ base') : w.ownsRow base e k v n xs :=
  ⟨h.1, h.2.imp id fun ⟨g, cap, cur, hv, hg, r⟩ => ⟨g, cap, cur, hv, Nat.le_trans hb hg, r⟩⟩
theorem grown_noneT {w w' : World} (h : w.grownBy w' none) (row : Option Nat) : w.grownBy w' row := ⟨h.os, h.tape, h.output, h.size, fun k hk _ => h.block k hk (by simp)⟩
theorem own_same {w w' : World} {base k n : Nat} {e : TypeId} {v : Value} {xs : List Value} (ho : w.ownsRow base e k v n xs) (h : ∀ g, v.ownBlock = some g → w'.heap[g]? = w.heap[g]?) : w'.ownsRow base e k v n xs := by
  refine ⟨ho.1, ?_⟩
  rcases ho.2 with h1 | ⟨g, cap, cur, rfl, hb, hg, rest⟩
  · exact .inl h1
  · exact .inr ⟨g, cap, cur, rfl, hb, (h g rfl).trans hg, rest⟩
theorem intInfoT : (Tryz.prog.info? 3).map (fun i => (i.zero, i.size, i.bytes)) = some (some (.int .i64 0), 1, 8) := by kernel_rfl

/-- A row of n small numbers of the call's own. -/
def OwI (w : World) (base : Nat) (p : Option Addr) (n c : Nat) : Prop := ∃ xs : List Int, xs.length = n ∧ SmallL xs ∧ w.ownsRow base 3 1 (.slice p n c) n (xs.flatMap intC)
theorem OwI.same {w w' : World} {base n c : Nat} {p : Option Addr} (h : OwI w base p n c) (hs : ∀ a, p = some a → w'.heap[a.block]? = w.heap[a.block]?) : OwI w' base p n c := by
  obtain ⟨xs, h1, h2, h3⟩ := h
  refine ⟨xs, h1, h2, own_same h3 fun g hg => ?_⟩
  cases p with
  | none => simp [Value.ownBlock] at hg
  | some a =>
    have : a.block = g := by simpa [Value.ownBlock] using hg
    rw [← this]
    exact hs a rfl
theorem OwI.lt {w : World} {base n c : Nat} {p : Option Addr} (h : OwI w base p n c) {a : Addr} (ha : p = some a) : base ≤ a.block ∧ a.block < w.heap.size := by
  obtain ⟨xs, h1, h2, h3⟩ := h
  subst ha
  exact h3.lt a.block rfl
theorem OwI.ext {w w' : World} {base n c : Nat} {p : Option Addr} (h : OwI w base p n c) (he : Ext w w') : OwI w' base p n c := h.same fun a ha => he.blk (h.lt ha).2
theorem OwI.extS {s : Nat} {w w' : World} {base n c : Nat} {p : Option Addr} (h : OwI w base p n c) (hs : s < base) (he : ExtS s w w') : OwI w' base p n c := h.same fun a ha => he.2.2.2.2 _ (h.lt ha).2 (by have := (h.lt ha).1; omega)
theorem OwI.nil (w : World) (base : Nat) : OwI w base none 0 0 := ⟨[], rfl, (fun x hx => by cases hx), World.ownsRow_nil _ _ _ _⟩
theorem OwI.slc {w : World} {base n c : Nat} {p : Option Addr} (h : OwI w base p n c) (hn : n ≤ 1000000000) : ∃ xs : List Int, xs.length = n ∧ SmallL xs ∧ Slc 1 intC w p n c xs := by
  obtain ⟨xs, h1, h2, h3⟩ := h
  obtain ⟨p', c', e, hS⟩ := slc_of_own intC_len h3 (by decide) hn
  cases e
  exact ⟨xs, h1, h2, hS⟩
theorem OwI.form {w : World} {base n c : Nat} {p : Option Addr} (h : OwI w base p n c) (hn : 0 < n) : ∃ b, p = some ⟨b, 0, none⟩ ∧ base ≤ b ∧ b < w.heap.size := by
  obtain ⟨xs, h1, h2, h3⟩ := h
  obtain ⟨b, c', e, hb, hl⟩ := h3.form hn
  cases e
  exact ⟨b, rfl, hb, hl⟩
theorem OwI.cell {w : World} {base n c b : Nat} (h : OwI w base (some ⟨b, 0, none⟩) n c) {i : Nat} (hi : i < n) : ∃ x : Int, w.cell? ⟨b, i, none⟩ = some (.int .i64 x) := by
  obtain ⟨xs, h1, h2, h3⟩ := h
  obtain ⟨x, hx⟩ := getD_some h1 hi
  have := own_cell intC_len h3 hx 0 (v := .int .i64 x) rfl hi
  exact ⟨x, by simpa using this⟩
theorem OwI.frozen {w : World} {base n c b : Nat} (h : OwI w base (some ⟨b, 0, none⟩) n c) (i : Nat) : w.frozen? ⟨b, i, none⟩ = false := by
  obtain ⟨xs, h1, h2, h3⟩ := h
  exact h3.frozenAt i
theorem OwI.set {w : World} {base n c b : Nat} (h : OwI w base (some ⟨b, 0, none⟩) n c) {i : Nat} (hi : i < n) (v : Int) (hv : -1099511627776 ≤ v ∧ v ≤ 1099511627776) : OwI (w.setCell ⟨b, i, none⟩ (.int .i64 v)) base (some ⟨b, 0, none⟩) n c := by
  obtain ⟨xs, h1, h2, h3⟩ := h
  obtain ⟨x, hx⟩ := getD_some h1 hi
  refine ⟨xs.set i v, by rw [List.length_set, h1], fun y hy => ?_, ?_⟩
  · rcases List.mem_or_eq_of_mem_set hy with h4 | h4
    · exact h2 y h4
    · subst h4; exact hv
  · have := own_set1 intC_len h3 v hx 0 (by decide) (.int .i64 v) rfl
    simpa using this
theorem OwI.far {w : World} {base n c : Nat} {p : Option Addr} (h : OwI w base p n c) {q : Addr} (hq : ∀ a, p = some a → a.block ≠ q.block) (u : Value) : OwI (w.setCell q u) base p n c := h.same fun a ha => Below.heap_setCell w q u a.block (hq a ha)
theorem OwI.grown {w w' : World} {base n c : Nat} {p : Option Addr} {r : Option Nat} (h : OwI w base p n c) (hg : w.grownBy w' r) (hr : ∀ a, p = some a → some a.block ≠ r) : OwI w' base p n c := h.same fun a ha => hg.block _ (h.lt ha).2 (hr a ha)

theorem OwI.app {w : World} {base n c : Nat} {p : Option Addr} (h : OwI w base p n c) (g : Nat) (v : Int) (hv : -1099511627776 ≤ v ∧ v ≤ 1099511627776) (hB : Blk w g 3 #[.int .i64 v]) (hn : n ≤ 1000) (hbase : base ≤ w.heap.size) :
    ∃ b c' w', (Builtin.append_ #[22, 22] 22 #[.slice p n c, .slice (some ⟨g, 0, none⟩) 1 1]).run Tryz.prog w = .ok (.slice (some ⟨b, 0, none⟩) (n + 1) c') w' ∧ OwI w' base (some ⟨b, 0, none⟩) (n + 1) c' ∧ w.grownBy w' (Value.slice p n c).ownBlock ∧ (n + 1 ≤ c → p = some ⟨b, 0, none⟩ ∧ c' = c) ∧ (¬ n + 1 ≤ c → w.heap.size ≤ b) ∧ (p = some ⟨b, 0, none⟩ ∨ w.heap.size ≤ b) := by
  obtain ⟨xs, hl, hs, hown⟩ := h
  have hcell : ∀ (j : Nat) (u : Value), (intC v)[j]? = some u → w.cell? ((⟨g, 0, none⟩ : Addr).add j) = some u := fun j u hu => by
    have : (⟨g, 0, none⟩ : Addr).add j = ⟨g, j, none⟩ := by unfold Addr.add; split <;> simp_all
    rw [this, hB.cell j]
    simpa [intC] using hu
  have h1 : ∀ u ∈ intC v, u.oneCell' = true := by simp [intC, Value.oneCell']
  have hnew : ∀ {w' : World} {b c' : Nat}, w'.ownsRow base 3 1 (.slice (some ⟨b, 0, none⟩) (n + 1) c') (n + 1) (xs.flatMap intC ++ intC v) → OwI w' base (some ⟨b, 0, none⟩) (n + 1) c' := fun ho => ⟨xs ++ [v], by simp [hl], fun y hy => by
    rcases List.mem_append.1 hy with h4 | h4
    · exact hs y h4
    · rw [List.mem_singleton] at h4; subst h4; exact hv, by rw [flat_snoc]; exact ho⟩
  have ht := Tryz.underlying22
  obtain ⟨i0, hi, hz0, hz1, hz2⟩ := info_parts intInfoT
  rcases hown.2 with ⟨he, hn0⟩ | ⟨b, cap, cur, he, hb, hg, hnc, hcm, hcs, htk⟩
  · cases he
    obtain rfl : xs = [] := List.eq_nil_of_length_eq_zero (by omega)
    obtain ⟨v', w', hr, h2, h3, -⟩ := run_append_own (P := Tryz.prog) w w.heap.size 22 22 3 i0 (.int .i64 0) 1 8 ht hi hz0 hz1 hz2 rfl (by decide) (.slice none 0 0) 0 [] (World.ownsRow_nil _ _ _ _) ⟨g, 0, none⟩ 1 1 (intC v) rfl hcell h1 (by unfold maxLen; omega) (by omega) (Nat.le_refl _)
    obtain ⟨b, c', rfl, hb, _⟩ := h2.form (by omega)
    exact ⟨b, c', w', hr, hnew (own_lowT h2 hbase), h3, fun h => absurd h (by omega), fun _ => hb, .inr hb⟩
  · cases he
    by_cases hroom : n + 1 ≤ c
    · obtain ⟨w', hr, h2, h3⟩ := run_append_fits (P := Tryz.prog) w base 22 22 3 i0 1 ht hi hz1 b n c (xs.flatMap intC) hown ⟨g, 0, none⟩ 1 1 (intC v) rfl hcell h1 hroom
      exact ⟨b, c, w', hr, hnew h2, h3, fun _ => ⟨rfl, rfl⟩, fun h => absurd hroom h, .inl rfl⟩
    · obtain ⟨v', w', hr, h2, h3⟩ := run_append_arg_grows (P := Tryz.prog) w 22 22 3 i0 (.int .i64 0) 1 8 ht hi hz0 hz1 hz2 rfl (by decide) ⟨b, 0, none⟩ n c (xs.flatMap intC) hown.1 (fun j u hj => by
        have := hown.cells (g := b) rfl j u hj
        have e2 : (⟨b, 0, none⟩ : Addr).add j = ⟨b, j, none⟩ := by unfold Addr.add; split <;> simp_all
        simpa [e2] using this) ⟨g, 0, none⟩ 1 1 (intC v) rfl hcell (by omega) (by unfold maxLen; omega) (by omega)
      obtain ⟨b', c', rfl, hb', _⟩ := h2.form (by omega)
      exact ⟨b', c', w', hr, hnew (own_lowT h2 hbase), grown_noneT h3 _, fun h => absurd h hroom, fun _ => hb', .inr hb'⟩

/-- All that was there stands but the stream and what lies between. -/
def ExtN (s z n0 : Nat) (w w' : World) : Prop := w'.os = w.os ∧ w'.tape = w.tape ∧ w'.output = w.output ∧ w.heap.size ≤ w'.heap.size ∧ ∀ k, k < w.heap.size → k ≠ s → (k ≤ z ∨ n0 ≤ k) → w'.heap[k]? = w.heap[k]?
theorem ExtN.refl (s z n0 : Nat) (w : World) : ExtN s z n0 w w := ⟨rfl, rfl, rfl, Nat.le_refl _, fun _ _ _ _ => rfl⟩
theorem ExtN.trans {s z n0 : Nat} {a b c : World} (h : ExtN s z n0 a b) (k : ExtN s z n0 b c) : ExtN s z n0 a c :=
  ⟨k.1.trans h.1, k.2.1.trans h.2.1, k.2.2.1.trans h.2.2.1, Nat.le_trans h.2.2.2.1 k.2.2.2.1, fun i hi h1 h2 => (k.2.2.2.2 i (Nat.lt_of_lt_of_le hi h.2.2.2.1) h1 h2).trans (h.2.2.2.2 i hi h1 h2)⟩
theorem Ext.extN {s z n0 : Nat} {a b : World} (h : Ext a b) : ExtN s z n0 a b := ⟨h.os, h.tape, h.output, h.size, fun k hk _ _ => h.block k hk⟩
theorem ExtS.extN {s z n0 : Nat} {a b : World} (h : ExtS s a b) : ExtN s z n0 a b := ⟨h.1, h.2.1, h.2.2.1, h.2.2.2.1, fun k hk h1 _ => h.2.2.2.2 k hk h1⟩
theorem Blk.extN {s z n0 : Nat} {w w' : World} {g : Nat} {t : TypeId} {cs : Array Value} (h : Blk w g t cs) (h1 : g ≠ s) (h2 : g ≤ z ∨ n0 ≤ g) (he : ExtN s z n0 w w') : Blk w' g t cs := (he.2.2.2.2 g h.lt h1 h2).trans h
theorem ExtN.grown {s z n0 : Nat} {a b : World} {r : Option Nat} (h : a.grownBy b r) (hr : ∀ g, r = some g → z < g ∧ g < n0) : ExtN s z n0 a b := ⟨h.os, h.tape, h.output, h.size, fun k hk _ h2 => h.block k hk fun e => by have := hr k e.symm; omega⟩
theorem ExtN.set {s z n0 : Nat} {a b : World} (h : ExtN s z n0 a b) {p : Addr} (hp : z < p.block ∧ p.block < n0) (u : Value) : ExtN s z n0 a (b.setCell p u) :=
  h.trans ⟨rfl, rfl, rfl, by simp, fun k _ _ h2 => Below.heap_setCell b p u k (by omega)⟩
theorem ExtN.back {s z n0 : Nat} {a b c : World} (h : ExtS s a b) (hz : a.heap.size ≤ z + 1) (k : ExtN s z n0 b c) : ExtS s a c :=
  ⟨k.1.trans h.1, k.2.1.trans h.2.1, k.2.2.1.trans h.2.2.1, Nat.le_trans h.2.2.2.1 k.2.2.2.1, fun i hi h1 => (k.2.2.2.2 i (Nat.lt_of_lt_of_le hi h.2.2.2.1) h1 (.inl (by omega))).trans (h.2.2.2.2 i hi h1)⟩
theorem OwI.extN {s z n0 : Nat} {w w' : World} {base n c b : Nat} (h : OwI w base (some ⟨b, 0, none⟩) n c) (h1 : b ≠ s) (h2 : n0 ≤ b) (he : ExtN s z n0 w w') : OwI w' base (some ⟨b, 0, none⟩) n c :=
  h.same fun a ha => by cases ha; exact he.2.2.2.2 b (h.lt rfl).2 h1 (.inr h2)
end Go.Proofs.YtfcoeikekbjgpaaGreatDoor

namespace Go.Proofs.YtfcoeikekbjgpaaGreatDoor
open Go Go.RowKit

end Go.Proofs.YtfcoeikekbjgpaaGreatDoor

namespace Go.Proofs.YtfcoeikekbjgpaaGreatDoor
open Go Go.RowKit

theorem own_noT {w : World} {base k n g : Nat} {t e : TypeId} {v : Value} {xs : List Value} {cs : Array Value} (ho : w.ownsRow base e k v n xs) (h : Blk w g t cs) (ht : t ≠ e) : v.ownBlock ≠ some g := by
  intro hv
  rcases ho.2 with ⟨rfl, -⟩ | ⟨g', cap, cur, rfl, -, hg, -⟩
  · simp [Value.ownBlock] at hv
  · simp [Value.ownBlock] at hv
    subst hv
    unfold Blk at h
    rw [hg] at h
    cases h
    exact ht rfl
theorem Blk.appT {b c : World} {base g : Nat} {t e : TypeId} {k n : Nat} {v : Value} {xs : List Value} {cs : Array Value} (h : Blk b g t cs) (ho : b.ownsRow base e k v n xs) (ht : t ≠ e) (hg : b.grownBy c v.ownBlock) : Blk c g t cs :=
  (hg.block g h.lt fun e => own_noT ho h ht e.symm).trans h

end Go.Proofs.YtfcoeikekbjgpaaGreatDoor
