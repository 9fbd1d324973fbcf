/- Rows of the call's own: appended, with the place of the new row; cut. Conditions: as each theorem says. -/
import Derived.Test.YtjggcofjgeiapaaGreatDoorSoJ4
import Derived.ArgAppend
set_option linter.unusedSimpArgs false
set_option linter.unusedVariables false
namespace Go.Proofs.YtjggcofjgeiapaaGreatDoor
open Go Go.RowKit

theorem own_low {w : World} {base base' k n : Nat} {e : TypeId} {v : Value} {xs : List Value} (h : w.ownsRow base' e k v n xs) (hb : base ≤ base') : w.ownsRow base e k v n xs :=
  ⟨h.1, h.2.imp id fun ⟨g, cap, cur, hv, hg, r⟩ => ⟨g, cap, cur, hv, Nat.le_trans hb hg, r⟩⟩
theorem own_no {w : World} {base k n g : Nat} {t e : TypeId} {v : Value} {xs : List Value} {cs : Array Value} (ho : w.ownsRow base e k v n xs) (h : Blk w g t cs) (ht : t ≠ e) : v.ownBlock ≠ some g := by
  rcases ho.2 with ⟨rfl, _⟩ | ⟨b, cap, cur, rfl, _, h3, _⟩
  · simp [Value.ownBlock]
  · intro e1
    have e2 : b = g := by simpa [Value.ownBlock] using e1
    subst e2
    unfold Blk at h
    rw [h3] at h
    simp at h
    exact ht h.2.symm
theorem grown_set (w : World) (p : Addr) (u : Value) : w.grownBy (w.setCell p u) (some p.block) :=
  ⟨rfl, rfl, rfl, by simp [World.setCell], fun k _ h => Below.heap_setCell w p u k fun e => h (e ▸ rfl)⟩
theorem grown_of_none {w w' : World} (h : w.grownBy w' none) (row : Option Nat) : w.grownBy w' row := ⟨h.os, h.tape, h.output, h.size, fun k hk _ => h.block k hk (by simp)⟩
/-- 'out = append(out, x)', and where the row then lies: where it lay, or in a new block. -/
theorem wp_appL {P : Program} (w : World) {ops : Array Oper} {rest : List Oper} {o : Oper} {a : Act} {Q : Exit → Act → World → Prop} (s x : Operand) (t e : TypeId) (size bytes : Nat) (z : Value) (hgd : o.guard = none)
    (ho : o.op = .call { callee := .builtin .append, args := #[s, x], argTypes := #[t, t] })
    (ht : P.underlying t = some (.slice e)) (hinfo : (P.info? e).map (fun i => (i.zero, i.size, i.bytes)) = some (some z, size, bytes)) (hzs : z.cells.size = size) (hsz : 0 < size) (hby : bytes ≤ 1000)
    (base : Nat) (p : Option Addr) (n c : Nat) (xs : List Value) (hs : a.eval s = .slice p n c) (hown : w.ownsRow base e size (.slice p n c) n xs)
    (g : Nat) (news : List Value) (hx : a.eval x = .slice (some ⟨g, 0, none⟩) 1 1) (hl : news.length = size) (hB : Blk w g e news.toArray) (h1 : ∀ u ∈ news, u.oneCell' = true)
    (hn : n ≤ 1000000000) (hbase : base ≤ w.heap.size)
    (h : ∀ b c' w', w'.ownsRow base e size (.slice (some ⟨b, 0, none⟩) (n + 1) c') (n + 1) (xs ++ news) → w.grownBy w' (Value.slice p n c).ownBlock → (w.heap.size ≤ b ∨ p = some ⟨b, 0, none⟩) → wpList P ops Q rest (a.put o.dst (.slice (some ⟨b, 0, none⟩) (n + 1) c')) w') : wpList P ops Q (o :: rest) a w := by
  have hcell : ∀ (j : Nat) (u : Value), news[j]? = some u → w.cell? ((⟨g, 0, none⟩ : Addr).add j) = some u := fun j u hu => by
    have : (⟨g, 0, none⟩ : Addr).add j = ⟨g, j, none⟩ := by unfold Addr.add; split <;> simp_all
    rw [this, hB.cell j]
    simpa using hu
  have hb2 : (n + 1) * bytes ≤ 1000000001 * 1000 := Nat.mul_le_mul (by omega) hby
  obtain ⟨i0, hi, hz0, hz1, hz2⟩ := info_parts hinfo
  rcases hown.2 with ⟨hv, hn0⟩ | ⟨b, cap, cur, hv, hb, hg, hnc, hcm, hcs, htk⟩
  · cases hv
    have hxs : xs = [] := List.eq_nil_of_length_eq_zero (by rw [hown.1]; omega)
    subst hxs
    refine wp_app1 w s x t e size bytes z hgd ho ht hinfo hzs hsz hby w.heap.size (.slice none 0 0) 0 [] hs (World.ownsRow_nil _ _ _ _) g news hx hl hB h1 (by omega) (Nat.le_refl _) fun v' w' h2 h3 _ => ?_
    obtain ⟨b, c', rfl, hb, _⟩ := h2.form (by omega)
    exact h b c' w' (own_low h2 hbase) h3 (.inl hb)
  · cases hv
    by_cases hroom : n + 1 ≤ c
    · refine wpList_append_fits w hgd s x t ho base e i0 size ht hi hz1 b n c xs hs hown ⟨g, 0, none⟩ 1 1 news hx (by omega) hcell h1 hroom fun w' h2 h3 => ?_
      exact h b c w' h2 h3 (.inr rfl)
    · refine wpList_append_grows w hgd s x t ho e i0 z size bytes ht hi hz0 hz1 hz2 hzs hsz (some ⟨b, 0, none⟩) n c xs hs (fun e => by cases e) hown.1 (fun d hd j u hj => ?_) ⟨g, 0, none⟩ 1 1 news hx (by omega) hcell h1 (by omega) (by unfold maxLen; omega) (by omega) fun v' w' h2 h3 => ?_
      · cases hd
        have := hown.cells (g := b) rfl j u hj
        have e2 : (⟨b, 0, none⟩ : Addr).add j = ⟨b, j, none⟩ := by unfold Addr.add; split <;> simp_all
        simpa [e2] using this
      · obtain ⟨b', c', rfl, hb', _⟩ := h2.form (by omega)
        exact h b' c' w' (own_low h2 hbase) (grown_of_none h3 _) (.inl hb')

theorem slcC {α : Type} {k : Nat} {enc : α → List Value} {w : World} {p : Option Addr} {n c : Nat} {xs : List α} (h : Slc k enc w p n c xs) :
    n = xs.length ∧ ((p = none ∧ xs = []) ∨ ∃ b off, p = some ⟨b, off, none⟩ ∧ b < w.heap.size ∧ Elems k enc w b off xs) := by
  obtain ⟨⟨h1, h2, h3⟩, h4, h5, h6⟩ := h
  refine ⟨h1.symm, ?_⟩
  cases p with
  | none => exact .inl ⟨rfl, List.eq_nil_of_length_eq_zero (by rw [h1]; exact h5 rfl)⟩
  | some a =>
    obtain ⟨b, off, rfl, hb⟩ := h6 a rfl
    refine .inr ⟨b, off, rfl, hb, ?_⟩
    by_cases hn : n = 0
    · obtain rfl : xs = [] := List.eq_nil_of_length_eq_zero (by omega)
      intro i x hx
      cases hx
    · obtain ⟨b', off', e, _, hE⟩ := h3 hn
      cases e
      exact hE
end Go.Proofs.YtjggcofjgeiapaaGreatDoor
