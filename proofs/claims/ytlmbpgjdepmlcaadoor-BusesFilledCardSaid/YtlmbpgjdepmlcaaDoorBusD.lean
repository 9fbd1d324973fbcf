/- Rows of the call's own: appended (with the place of the new row), cut; the memory of a loader of buses. Conditions: as each theorem says. -/
import Derived.Test.YtlmbpgjdepmlcaaDoorBusC
import Derived.ArgAppend
namespace Go.Proofs.YtlmbpgjdepmlcaaDoor
open Go Go.RowKit

theorem own_low {w : World} {base base' k n : Nat} {e : TypeId} {v : Value} {xs : List Value} (h : w.ownsRow base' e k v n xs) (hb : base ≤ base') : w.ownsRow base e k v n xs :=
  ⟨h.1, h.2.imp id fun ⟨g, cap, cur, hv, hg, r⟩ => ⟨g, cap, cur, hv, Nat.le_trans hb hg, r⟩⟩
theorem own_no {w : World} {base k n g : Nat} {t e : TypeId} {v : Value} {xs : List Value} {cs : Array Value} (ho : w.ownsRow base e k v n xs) (h : Blk w g t cs) (ht : t ≠ e) : v.ownBlock ≠ some g := by
  rcases ho.2 with ⟨rfl, _⟩ | ⟨b, cap, cur, rfl, _, h3, _⟩
  · simp [Value.ownBlock]
  · intro e1
    have e2 : b = g := by simpa [Value.ownBlock] using e1
    subst e2
    unfold Blk at h
    rw [h3] at h
    simp at h
    exact ht h.2.symm
theorem grown_set (w : World) (p : Addr) (u : Value) : w.grownBy (w.setCell p u) (some p.block) :=
  ⟨rfl, rfl, rfl, by simp [World.setCell], fun k _ h => Below.heap_setCell w p u k fun e => h (e ▸ rfl)⟩
theorem grown_of_none {w w' : World} (h : w.grownBy w' none) (row : Option Nat) : w.grownBy w' row := ⟨h.os, h.tape, h.output, h.size, fun k hk _ => h.block k hk (by simp)⟩
theorem own_take {w : World} {base g k n m cap : Nat} {e : TypeId} {xs : List Value} (h : w.ownsRow base e k (.slice (some ⟨g, 0, none⟩) n cap) n xs) (hm : m ≤ n) : w.ownsRow base e k (.slice (some ⟨g, 0, none⟩) m cap) m (xs.take (m * k)) := by
  obtain ⟨h1, h2⟩ := h
  rcases h2 with ⟨h3, _⟩ | ⟨b, c, cur, hv, hb, hg, hnc, hcm, hcs, ht⟩
  · cases h3
  · cases hv
    have hmk : m * k ≤ n * k := Nat.mul_le_mul_right k hm
    refine ⟨by rw [List.length_take, h1]; omega, .inr ⟨g, cap, cur, rfl, hb, hg, by omega, hcm, hcs, ?_⟩⟩
    rw [← ht, List.take_take, Nat.min_eq_left hmk]

/-- 'out = append(out, x)', and where the row then lies: where it lay, or in a new block. -/
theorem wp_appL {P : Program} (w : World) {ops : Array Oper} {rest : List Oper} {o : Oper} {a : Act} {Q : Exit → Act → World → Prop} (s x : Operand) (t e : TypeId) (size bytes : Nat) (z : Value) (hgd : o.guard = none)
    (ho : o.op = .call { callee := .builtin .append, args := #[s, x], argTypes := #[t, t] })
    (ht : P.underlying t = some (.slice e)) (hinfo : (P.info? e).map (fun i => (i.zero, i.size, i.bytes)) = some (some z, size, bytes)) (hzs : z.cells.size = size) (hsz : 0 < size) (hby : bytes ≤ 1000)
    (base : Nat) (p : Option Addr) (n c : Nat) (xs : List Value) (hs : a.eval s = .slice p n c) (hown : w.ownsRow base e size (.slice p n c) n xs)
    (g : Nat) (news : List Value) (hx : a.eval x = .slice (some ⟨g, 0, none⟩) 1 1) (hl : news.length = size) (hB : Blk w g e news.toArray) (h1 : ∀ u ∈ news, u.oneCell' = true)
    (hn : n ≤ 1000000000) (hbase : base ≤ w.heap.size)
    (h : ∀ b c' w', w'.ownsRow base e size (.slice (some ⟨b, 0, none⟩) (n + 1) c') (n + 1) (xs ++ news) → w.grownBy w' (Value.slice p n c).ownBlock → (w.heap.size ≤ b ∨ p = some ⟨b, 0, none⟩) → wpList P ops Q rest (a.put o.dst (.slice (some ⟨b, 0, none⟩) (n + 1) c')) w') : wpList P ops Q (o :: rest) a w := by
  have hcell : ∀ (j : Nat) (u : Value), news[j]? = some u → w.cell? ((⟨g, 0, none⟩ : Addr).add j) = some u := fun j u hu => by
    have : (⟨g, 0, none⟩ : Addr).add j = ⟨g, j, none⟩ := by unfold Addr.add; split <;> simp_all
    rw [this, hB.cell j]
    simpa using hu
  have hb2 : (n + 1) * bytes ≤ 1000000001 * 1000 := Nat.mul_le_mul (by omega) hby
  obtain ⟨i0, hi, hz0, hz1, hz2⟩ := info_parts hinfo
  rcases hown.2 with ⟨hv, hn0⟩ | ⟨b, cap, cur, hv, hb, hg, hnc, hcm, hcs, htk⟩
  · cases hv
    have hxs : xs = [] := List.eq_nil_of_length_eq_zero (by rw [hown.1]; omega)
    subst hxs
    refine wp_app1 w s x t e size bytes z hgd ho ht hinfo hzs hsz hby w.heap.size (.slice none 0 0) 0 [] hs (World.ownsRow_nil _ _ _ _) g news hx hl hB h1 (by omega) (Nat.le_refl _) fun v' w' h2 h3 _ => ?_
    obtain ⟨b, c', rfl, hb, _⟩ := h2.form (by omega)
    exact h b c' w' (own_low h2 hbase) h3 (.inl hb)
  · cases hv
    by_cases hroom : n + 1 ≤ c
    · refine wpList_append_fits w hgd s x t ho base e i0 size ht hi hz1 b n c xs hs hown ⟨g, 0, none⟩ 1 1 news hx (by omega) hcell h1 hroom fun w' h2 h3 => ?_
      exact h b c w' h2 h3 (.inr rfl)
    · refine wpList_append_grows w hgd s x t ho e i0 z size bytes ht hi hz0 hz1 hz2 hzs hsz (some ⟨b, 0, none⟩) n c xs hs (fun e => by cases e) hown.1 (fun d hd j u hj => ?_) ⟨g, 0, none⟩ 1 1 news hx (by omega) hcell h1 (by omega) (by unfold maxLen; omega) (by omega) fun v' w' h2 h3 => ?_
      · cases hd
        have := hown.cells (g := b) rfl j u hj
        have e2 : (⟨b, 0, none⟩ : Addr).add j = ⟨b, j, none⟩ := by unfold Addr.add; split <;> simp_all
        simpa [e2] using this
      · obtain ⟨b', c', rfl, hb', _⟩ := h2.form (by omega)
        exact h b' c' w' (own_low h2 hbase) (grown_of_none h3 _) (.inl hb')

def intC (x : Int) : List Value := [.int .i64 x]
def natC (x : Nat) : List Value := [.int .i64 (x : Int)]
theorem intC_len (x : Int) : (intC x).length = 1 := rfl
theorem natC_len (x : Nat) : (natC x).length = 1 := rfl
theorem intInfo : (Tryd.prog.info? 3).map (fun i => (i.zero, i.size, i.bytes)) = some (some (.int .i64 0), 1, 8) := by kernel_rfl

/-- A loader of buses in memory. -/
structure LdM (w0 w : World) (l : Nat) (gv : Value) (seat : Int) (most : Nat) (lp : Option Addr) (lc : Nat) (ip : Option Addr) (ic : Nat) (left : List Int) (ins : List Nat) : Prop where
  ext : Ext w0 w
  low : w0.heap.size ≤ l
  blk : Blk w l 88 #[gv, .slice lp left.length lc, .int .i64 most, .int .i64 seat, .slice ip ins.length ic]
  lo : w.ownsRow (l + 1) 3 1 (.slice lp left.length lc) left.length (left.flatMap intC)
  io : w.ownsRow (l + 1) 3 1 (.slice ip ins.length ic) ins.length (ins.flatMap natC)
  far : ∀ a b, lp = some a → ip = some b → a.block ≠ b.block
section
variable {w0 w : World} {l : Nat} {gv : Value} {seat : Int} {most : Nat} {lp : Option Addr} {lc : Nat} {ip : Option Addr} {ic : Nat} {left : List Int} {ins : List Nat}
theorem LdM.more (h : LdM w0 w l gv seat most lp lc ip ic left ins) {w' : World} (he : Ext w w') : LdM w0 w' l gv seat most lp lc ip ic left ins :=
  ⟨h.ext.trans he, h.low, h.blk.ext he, own_ext he h.lo, own_ext he h.io, h.far⟩
theorem LdM.lform (h : LdM w0 w l gv seat most lp lc ip ic left ins) (hl : 0 < left.length) : ∃ b, lp = some ⟨b, 0, none⟩ ∧ l < b ∧ b < w.heap.size := by
  obtain ⟨b, c, e, h1, h2⟩ := h.lo.form hl
  cases e
  exact ⟨b, rfl, h1, h2⟩
theorem LdM.iform (h : LdM w0 w l gv seat most lp lc ip ic left ins) (hl : 0 < ins.length) : ∃ b, ip = some ⟨b, 0, none⟩ ∧ l < b ∧ b < w.heap.size := by
  obtain ⟨b, c, e, h1, h2⟩ := h.io.form hl
  cases e
  exact ⟨b, rfl, h1, h2⟩
theorem LdM.at_ {b : Nat} (h : LdM w0 w l gv seat most (some ⟨b, 0, none⟩) lc ip ic left ins) {j : Nat} {x : Int} (hx : left[j]? = some x) : w.cell? ⟨b, j, none⟩ = some (.int .i64 x) := by
  have := own_cell intC_len h.lo hx 0 (v := .int .i64 x) rfl (List.getElem?_eq_some_iff.1 hx).1
  simpa using this
theorem LdM.set_ {b : Nat} (h : LdM w0 w l gv seat most (some ⟨b, 0, none⟩) lc ip ic left ins) {j : Nat} {x : Int} (hx : left[j]? = some x) (y : Int) : LdM w0 (w.setCell ⟨b, j, none⟩ (.int .i64 y)) l gv seat most (some ⟨b, 0, none⟩) lc ip ic (left.set j y) ins := by
  have hb := (h.lo.lt b rfl).1
  have hlow := h.low
  have h1 := own_set1 intC_len h.lo y hx 0 (by decide) (.int .i64 y) rfl
  simp only [Nat.mul_one, Nat.add_zero] at h1
  refine ⟨h.ext.setCell (p := ⟨b, j, none⟩) (by simp only; omega) _, h.low, ?_, ?_, h.io.kept (grown_set w ⟨b, j, none⟩ _) (.inr fun e => ?_), h.far⟩
  · rw [List.length_set]
    exact h.blk.far (by simp only; omega) _
  · rw [List.length_set]
    exact h1
  · cases ip with
    | none => cases e
    | some q => exact h.far _ q rfl rfl (by simpa [Value.ownBlock] using e.symm)
theorem LdM.appL (h : LdM w0 w l gv seat most lp lc ip ic left ins) {w' : World} {b c' : Nat} {y : Int} (h1 : w'.ownsRow (l + 1) 3 1 (.slice (some ⟨b, 0, none⟩) (left.length + 1) c') (left.length + 1) (left.flatMap intC ++ intC y))
    (hg : w.grownBy w' (Value.slice lp left.length lc).ownBlock) (hb : w.heap.size ≤ b ∨ lp = some ⟨b, 0, none⟩) :
    LdM w0 (w'.setCell ⟨l, 1, none⟩ (.slice (some ⟨b, 0, none⟩) (left.length + 1) c')) l gv seat most (some ⟨b, 0, none⟩) c' ip ic (left ++ [y]) ins := by
  have hlow := h.low
  have hB : Blk w' l 88 _ := (hg.block l h.blk.lt fun e => own_no h.lo h.blk (by decide) e.symm).trans h.blk
  have hio : w'.ownsRow (l + 1) 3 1 (.slice ip ins.length ic) ins.length (ins.flatMap natC) := h.io.kept hg (by
    cases ip with
    | none => exact .inl rfl
    | some q =>
      cases lp with
      | none => exact .inr (by simp [Value.ownBlock])
      | some r => exact .inr fun e => h.far r q rfl rfl (by simpa [Value.ownBlock] using e.symm))
  have hk := grown_set w' ⟨l, 1, none⟩ (.slice (some ⟨b, 0, none⟩) (left.length + 1) c')
  refine ⟨(h.ext.grown hg fun k e => Nat.le_trans hlow (Nat.le_of_lt (h.lo.lt k e).1)).setCell (p := ⟨l, 1, none⟩) hlow _, hlow, ?_, ?_, hio.kept hk (.inr (own_no hio hB (by decide))), fun a d ha hd => ?_⟩
  · rw [List.length_append, List.length_singleton]
    exact hB.set_ 1 _
  · rw [List.length_append, List.length_singleton, flat_snoc]
    exact h1.kept hk (.inr (own_no h1 hB (by decide)))
  · cases ha
    rcases hb with hb | hb
    · subst hd
      have := (h.io.lt d.block rfl).2
      simp only
      omega
    · exact h.far _ _ hb hd
theorem LdM.appI (h : LdM w0 w l gv seat most lp lc ip ic left ins) {w' : World} {b c' y : Nat} (h1 : w'.ownsRow (l + 1) 3 1 (.slice (some ⟨b, 0, none⟩) (ins.length + 1) c') (ins.length + 1) (ins.flatMap natC ++ natC y))
    (hg : w.grownBy w' (Value.slice ip ins.length ic).ownBlock) (hb : w.heap.size ≤ b ∨ ip = some ⟨b, 0, none⟩) :
    LdM w0 (w'.setCell ⟨l, 4, none⟩ (.slice (some ⟨b, 0, none⟩) (ins.length + 1) c')) l gv seat most lp lc (some ⟨b, 0, none⟩) c' left (ins ++ [y]) := by
  have hlow := h.low
  have hB : Blk w' l 88 _ := (hg.block l h.blk.lt fun e => own_no h.io h.blk (by decide) e.symm).trans h.blk
  have hlo : w'.ownsRow (l + 1) 3 1 (.slice lp left.length lc) left.length (left.flatMap intC) := h.lo.kept hg (by
    cases lp with
    | none => exact .inl rfl
    | some q =>
      cases ip with
      | none => exact .inr (by simp [Value.ownBlock])
      | some r => exact .inr fun e => h.far q r rfl rfl (by simpa [Value.ownBlock] using e))
  have hk := grown_set w' ⟨l, 4, none⟩ (.slice (some ⟨b, 0, none⟩) (ins.length + 1) c')
  refine ⟨(h.ext.grown hg fun k e => Nat.le_trans hlow (Nat.le_of_lt (h.io.lt k e).1)).setCell (p := ⟨l, 4, none⟩) hlow _, hlow, ?_, hlo.kept hk (.inr (own_no hlo hB (by decide))), ?_, fun a d ha hd => ?_⟩
  · rw [List.length_append, List.length_singleton]
    exact hB.set_ 4 _
  · rw [List.length_append, List.length_singleton, flat_snoc]
    exact h1.kept hk (.inr (own_no h1 hB (by decide)))
  · cases hd
    rcases hb with hb | hb
    · subst ha
      have := (h.lo.lt a.block rfl).2
      simp only
      omega
    · exact h.far _ _ ha hb
theorem take_flat1 {α : Type} {enc : α → List Value} (hk : ∀ x, (enc x).length = 1) : ∀ (xs : List α) (m : Nat), (xs.flatMap enc).take (m * 1) = (xs.take m).flatMap enc
  | [], m => by simp
  | x :: xs, 0 => by simp
  | x :: xs, m + 1 => by
    have ih := take_flat1 hk xs m
    have hx := hk x
    rw [List.take_succ_cons, List.flatMap_cons, List.flatMap_cons, List.take_append, ← ih, List.take_of_length_le (by omega), hx]
    congr 2
theorem LdM.cutL {b : Nat} (h : LdM w0 w l gv seat most (some ⟨b, 0, none⟩) lc ip ic left ins) {m : Nat} (hm : m ≤ left.length) :
    LdM w0 (w.setCell ⟨l, 1, none⟩ (.slice (some ⟨b, 0, none⟩) m lc)) l gv seat most (some ⟨b, 0, none⟩) lc ip ic (left.take m) ins := by
  have hk := grown_set w ⟨l, 1, none⟩ (.slice (some ⟨b, 0, none⟩) m lc)
  have e : (left.take m).length = m := by rw [List.length_take]; omega
  have h1 := own_take h.lo hm
  rw [take_flat1 intC_len] at h1
  refine ⟨h.ext.setCell (p := ⟨l, 1, none⟩) h.low _, h.low, ?_, ?_, h.io.kept hk (.inr (own_no h.io h.blk (by decide))), h.far⟩
  · rw [e]
    exact h.blk.set_ 1 _
  · rw [e]
    exact h1.kept hk (.inr (own_no h1 h.blk (by decide)))
theorem LdM.cutI {b : Nat} (h : LdM w0 w l gv seat most lp lc (some ⟨b, 0, none⟩) ic left ins) {m : Nat} (hm : m ≤ ins.length) :
    LdM w0 (w.setCell ⟨l, 4, none⟩ (.slice (some ⟨b, 0, none⟩) m ic)) l gv seat most lp lc (some ⟨b, 0, none⟩) ic left (ins.take m) := by
  have hk := grown_set w ⟨l, 4, none⟩ (.slice (some ⟨b, 0, none⟩) m ic)
  have e : (ins.take m).length = m := by rw [List.length_take]; omega
  have h1 := own_take h.io hm
  rw [take_flat1 natC_len] at h1
  refine ⟨h.ext.setCell (p := ⟨l, 4, none⟩) h.low _, h.low, ?_, h.lo.kept hk (.inr (own_no h.lo h.blk (by decide))), ?_, h.far⟩
  · rw [e]
    exact h.blk.set_ 4 _
  · rw [e]
    exact h1.kept hk (.inr (own_no h1 h.blk (by decide)))
end
end Go.Proofs.YtlmbpgjdepmlcaaDoor
