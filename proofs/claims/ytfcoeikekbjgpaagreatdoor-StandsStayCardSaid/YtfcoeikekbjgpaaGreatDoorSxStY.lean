/- Numbers in some order, made by the stream. Conditions: as each theorem says. -/
import Derived.Test.YtfcoeikekbjgpaaGreatDoorSxStX
set_option linter.unusedSimpArgs false
set_option linter.unusedVariables false
namespace Go.Proofs.YtfcoeikekbjgpaaGreatDoor
open Go Go.RowKit

/-- A row of n numbers of the call's own, each of a kind. -/
def OwG (Q : Int → Prop) (w : World) (base : Nat) (p : Option Addr) (n c : Nat) : Prop := ∃ xs : List Int, xs.length = n ∧ (∀ x ∈ xs, Q x) ∧ w.ownsRow base 3 1 (.slice p n c) n (xs.flatMap intC)
section
variable {Q : Int → Prop}
theorem OwG.same {w w' : World} {base n c : Nat} {p : Option Addr} (h : OwG Q w base p n c) (hs : ∀ a, p = some a → w'.heap[a.block]? = w.heap[a.block]?) : OwG Q w' base p n c := by
  obtain ⟨xs, h1, h2, h3⟩ := h
  refine ⟨xs, h1, h2, own_same h3 fun g hg => ?_⟩
  cases p with
  | none => simp [Value.ownBlock] at hg
  | some a =>
    have : a.block = g := by simpa [Value.ownBlock] using hg
    rw [← this]
    exact hs a rfl
theorem OwG.lt {w : World} {base n c : Nat} {p : Option Addr} (h : OwG Q w base p n c) {a : Addr} (ha : p = some a) : base ≤ a.block ∧ a.block < w.heap.size := by
  obtain ⟨xs, h1, h2, h3⟩ := h
  subst ha
  exact h3.lt a.block rfl
theorem OwG.ext {w w' : World} {base n c : Nat} {p : Option Addr} (h : OwG Q w base p n c) (he : Ext w w') : OwG Q w' base p n c := h.same fun a ha => he.blk (h.lt ha).2
theorem OwG.extS {s : Nat} {w w' : World} {base n c : Nat} {p : Option Addr} (h : OwG Q w base p n c) (hs : s < base) (he : ExtS s w w') : OwG Q w' base p n c := h.same fun a ha => he.2.2.2.2 _ (h.lt ha).2 (by have := (h.lt ha).1; omega)
theorem OwG.nil (w : World) (base : Nat) : OwG Q w base none 0 0 := ⟨[], rfl, (fun x hx => by cases hx), World.ownsRow_nil _ _ _ _⟩
theorem OwG.slc {w : World} {base n c : Nat} {p : Option Addr} (h : OwG Q w base p n c) (hn : n ≤ 1000000000) : ∃ xs : List Int, xs.length = n ∧ (∀ x ∈ xs, Q x) ∧ Slc 1 intC w p n c xs := by
  obtain ⟨xs, h1, h2, h3⟩ := h
  obtain ⟨p', c', e, hS⟩ := slc_of_own intC_len h3 (by decide) hn
  cases e
  exact ⟨xs, h1, h2, hS⟩
theorem OwG.form {w : World} {base n c : Nat} {p : Option Addr} (h : OwG Q w base p n c) (hn : 0 < n) : ∃ b, p = some ⟨b, 0, none⟩ ∧ base ≤ b ∧ b < w.heap.size := by
  obtain ⟨xs, h1, h2, h3⟩ := h
  obtain ⟨b, c', e, hb, hl⟩ := h3.form hn
  cases e
  exact ⟨b, rfl, hb, hl⟩
theorem OwG.cell {w : World} {base n c b : Nat} (h : OwG Q w base (some ⟨b, 0, none⟩) n c) {i : Nat} (hi : i < n) : ∃ x : Int, Q x ∧ w.cell? ⟨b, i, none⟩ = some (.int .i64 x) := by
  obtain ⟨xs, h1, h2, h3⟩ := h
  obtain ⟨x, hx⟩ := getD_some h1 hi
  have := own_cell intC_len h3 hx 0 (v := .int .i64 x) rfl hi
  exact ⟨x, h2 x (List.mem_of_getElem? hx), by simpa using this⟩
theorem OwG.frozen {w : World} {base n c b : Nat} (h : OwG Q w base (some ⟨b, 0, none⟩) n c) (i : Nat) : w.frozen? ⟨b, i, none⟩ = false := by
  obtain ⟨xs, h1, h2, h3⟩ := h
  exact h3.frozenAt i
theorem OwG.set {w : World} {base n c b : Nat} (h : OwG Q w base (some ⟨b, 0, none⟩) n c) {i : Nat} (hi : i < n) (v : Int) (hv : Q v) : OwG Q (w.setCell ⟨b, i, none⟩ (.int .i64 v)) base (some ⟨b, 0, none⟩) n c := by
  obtain ⟨xs, h1, h2, h3⟩ := h
  obtain ⟨x, hx⟩ := getD_some h1 hi
  refine ⟨xs.set i v, by rw [List.length_set, h1], fun y hy => ?_, ?_⟩
  · rcases List.mem_or_eq_of_mem_set hy with h4 | h4
    · exact h2 y h4
    · subst h4; exact hv
  · have := own_set1 intC_len h3 v hx 0 (by decide) (.int .i64 v) rfl
    simpa using this
theorem OwG.far {w : World} {base n c : Nat} {p : Option Addr} (h : OwG Q w base p n c) {q : Addr} (hq : ∀ a, p = some a → a.block ≠ q.block) (u : Value) : OwG Q (w.setCell q u) base p n c := h.same fun a ha => Below.heap_setCell w q u a.block (hq a ha)
theorem OwG.grown {w w' : World} {base n c : Nat} {p : Option Addr} {r : Option Nat} (h : OwG Q w base p n c) (hg : w.grownBy w' r) (hr : ∀ a, p = some a → some a.block ≠ r) : OwG Q w' base p n c := h.same fun a ha => hg.block _ (h.lt ha).2 (hr a ha)

theorem OwG.app {w : World} {base n c : Nat} {p : Option Addr} (h : OwG Q w base p n c) (g : Nat) (v : Int) (hv : Q v) (hB : Blk w g 3 #[.int .i64 v]) (hn : n ≤ 1000) (hbase : base ≤ w.heap.size) :
    ∃ b c' w', (Builtin.append_ #[22, 22] 22 #[.slice p n c, .slice (some ⟨g, 0, none⟩) 1 1]).run Tryz.prog w = .ok (.slice (some ⟨b, 0, none⟩) (n + 1) c') w' ∧ OwG Q w' base (some ⟨b, 0, none⟩) (n + 1) c' ∧ w.grownBy w' (Value.slice p n c).ownBlock ∧ (n + 1 ≤ c → p = some ⟨b, 0, none⟩ ∧ c' = c) ∧ (¬ n + 1 ≤ c → w.heap.size ≤ b) ∧ (p = some ⟨b, 0, none⟩ ∨ w.heap.size ≤ b) := by
  obtain ⟨xs, hl, hs, hown⟩ := h
  have hcell : ∀ (j : Nat) (u : Value), (intC v)[j]? = some u → w.cell? ((⟨g, 0, none⟩ : Addr).add j) = some u := fun j u hu => by
    have : (⟨g, 0, none⟩ : Addr).add j = ⟨g, j, none⟩ := by unfold Addr.add; split <;> simp_all
    rw [this, hB.cell j]
    simpa [intC] using hu
  have h1 : ∀ u ∈ intC v, u.oneCell' = true := by simp [intC, Value.oneCell']
  have hnew : ∀ {w' : World} {b c' : Nat}, w'.ownsRow base 3 1 (.slice (some ⟨b, 0, none⟩) (n + 1) c') (n + 1) (xs.flatMap intC ++ intC v) → OwG Q w' base (some ⟨b, 0, none⟩) (n + 1) c' := fun ho => ⟨xs ++ [v], by simp [hl], fun y hy => by
    rcases List.mem_append.1 hy with h4 | h4
    · exact hs y h4
    · rw [List.mem_singleton] at h4; subst h4; exact hv, by rw [flat_snoc]; exact ho⟩
  have ht := Tryz.underlying22
  obtain ⟨i0, hi, hz0, hz1, hz2⟩ := info_parts intInfoT
  rcases hown.2 with ⟨he, hn0⟩ | ⟨b, cap, cur, he, hb, hg, hnc, hcm, hcs, htk⟩
  · cases he
    obtain rfl : xs = [] := List.eq_nil_of_length_eq_zero (by omega)
    obtain ⟨v', w', hr, h2, h3, -⟩ := run_append_own (P := Tryz.prog) w w.heap.size 22 22 3 i0 (.int .i64 0) 1 8 ht hi hz0 hz1 hz2 rfl (by decide) (.slice none 0 0) 0 [] (World.ownsRow_nil _ _ _ _) ⟨g, 0, none⟩ 1 1 (intC v) rfl hcell h1 (by unfold maxLen; omega) (by omega) (Nat.le_refl _)
    obtain ⟨b, c', rfl, hb, _⟩ := h2.form (by omega)
    exact ⟨b, c', w', hr, hnew (own_lowT h2 hbase), h3, fun h => absurd h (by omega), fun _ => hb, .inr hb⟩
  · cases he
    by_cases hroom : n + 1 ≤ c
    · obtain ⟨w', hr, h2, h3⟩ := run_append_fits (P := Tryz.prog) w base 22 22 3 i0 1 ht hi hz1 b n c (xs.flatMap intC) hown ⟨g, 0, none⟩ 1 1 (intC v) rfl hcell h1 hroom
      exact ⟨b, c, w', hr, hnew h2, h3, fun _ => ⟨rfl, rfl⟩, fun h => absurd hroom h, .inl rfl⟩
    · obtain ⟨v', w', hr, h2, h3⟩ := run_append_arg_grows (P := Tryz.prog) w 22 22 3 i0 (.int .i64 0) 1 8 ht hi hz0 hz1 hz2 rfl (by decide) ⟨b, 0, none⟩ n c (xs.flatMap intC) hown.1 (fun j u hj => by
        have := hown.cells (g := b) rfl j u hj
        have e2 : (⟨b, 0, none⟩ : Addr).add j = ⟨b, j, none⟩ := by unfold Addr.add; split <;> simp_all
        simpa [e2] using this) ⟨g, 0, none⟩ 1 1 (intC v) rfl hcell (by omega) (by unfold maxLen; omega) (by omega)
      obtain ⟨b', c', rfl, hb', _⟩ := h2.form (by omega)
      exact ⟨b', c', w', hr, hnew (own_lowT h2 hbase), grown_noneT h3 _, fun h => absurd h hroom, fun _ => hb', .inr hb'⟩

theorem OwG.own {w : World} {base n c : Nat} {p : Option Addr} (h : OwG Q w base p n c) : ∀ q, (Value.slice p n c).ownBlock = some q → base ≤ q := fun q hq => by
  cases p with
  | none => simp [Value.ownBlock] at hq
  | some a =>
    have e : a.block = q := by simpa [Value.ownBlock] using hq
    have := (h.lt rfl).1
    omega
end

theorem ExtS.grownX {s : Nat} {a b c : World} {r : Option Nat} (h : ExtS s a b) (hg : b.grownBy c r) (hr : ∀ q, r = some q → a.heap.size ≤ q) : ExtS s a c :=
  ⟨hg.os.trans h.1, hg.tape.trans h.2.1, hg.output.trans h.2.2.1, Nat.le_trans h.2.2.2.1 hg.size, fun j hj hn => (hg.block j (Nat.lt_of_lt_of_le hj h.2.2.2.1) fun e => by have := hr j e.symm; omega).trans (h.2.2.2.2 j hj hn)⟩

end Go.Proofs.YtfcoeikekbjgpaaGreatDoor
