/- The memory of the document's search for buses. Conditions: as each theorem says. -/
import Derived.Test.YtlmbpgjdepmlcaaDoorBusN
import Derived.Test.YtlmbpgjdepmlcaaDoorBusQ
namespace Go.Proofs.YtlmbpgjdepmlcaaDoor
open Go Go.RowKit

theorem app_run {P : Program} (w : World) (ty t e : TypeId) (size bytes : Nat) (z : Value)
    (ht : P.underlying t = some (.slice e)) (hinfo : (P.info? e).map (fun i => (i.zero, i.size, i.bytes)) = some (some z, size, bytes)) (hzs : z.cells.size = size) (hsz : 0 < size) (hby : bytes ≤ 1000)
    (base : Nat) (p : Option Addr) (n c : Nat) (xs : List Value) (hown : w.ownsRow base e size (.slice p n c) n xs)
    (g : Nat) (news : List Value) (hl : news.length = size) (hB : Blk w g e news.toArray) (h1 : ∀ u ∈ news, u.oneCell' = true) (hn : n ≤ 1000000000) (hbase : base ≤ w.heap.size) :
    ∃ b c' w', (Builtin.append_ #[t, t] ty #[.slice p n c, .slice (some ⟨g, 0, none⟩) 1 1]).run P w = .ok (.slice (some ⟨b, 0, none⟩) (n + 1) c') w' ∧ w'.ownsRow base e size (.slice (some ⟨b, 0, none⟩) (n + 1) c') (n + 1) (xs ++ news) ∧ w.grownBy w' (Value.slice p n c).ownBlock ∧ (w.heap.size ≤ b ∨ p = some ⟨b, 0, none⟩) := by
  have hcell : ∀ (j : Nat) (u : Value), news[j]? = some u → w.cell? ((⟨g, 0, none⟩ : Addr).add j) = some u := fun j u hu => by
    have : (⟨g, 0, none⟩ : Addr).add j = ⟨g, j, none⟩ := by unfold Addr.add; split <;> simp_all
    rw [this, hB.cell j]
    simpa using hu
  have hb2 : (n + 1) * bytes ≤ 1000000001 * 1000 := Nat.mul_le_mul (by omega) hby
  obtain ⟨i0, hi, hz0, hz1, hz2⟩ := info_parts hinfo
  rcases hown.2 with ⟨hv, hn0⟩ | ⟨b, cap, cur, hv, hb, hg, hnc, hcm, hcs, htk⟩
  · cases hv
    have hxs : xs = [] := List.eq_nil_of_length_eq_zero (by rw [hown.1]; omega)
    subst hxs
    obtain ⟨v', w', hr, h2, h3, -⟩ := run_append_own (P := P) w w.heap.size t ty e i0 z size bytes ht hi hz0 hz1 hz2 hzs hsz (.slice none 0 0) 0 [] (World.ownsRow_nil _ _ _ _) ⟨g, 0, none⟩ 1 1 news (by omega) hcell h1 (by unfold maxLen; omega) (by omega) (Nat.le_refl _)
    obtain ⟨b, c', rfl, hb, _⟩ := h2.form (by omega)
    exact ⟨b, c', w', hr, own_low h2 hbase, h3, .inl hb⟩
  · cases hv
    by_cases hroom : n + 1 ≤ c
    · obtain ⟨w', hr, h2, h3⟩ := run_append_fits (P := P) w base t ty e i0 size ht hi hz1 b n c xs hown ⟨g, 0, none⟩ 1 1 news (by omega) hcell h1 hroom
      exact ⟨b, c, w', hr, h2, h3, .inr rfl⟩
    · obtain ⟨v', w', hr, h2, h3⟩ := run_append_arg_grows (P := P) w t ty e i0 z size bytes ht hi hz0 hz1 hz2 hzs hsz ⟨b, 0, none⟩ n c xs hown.1 (fun j u hj => by
        have := hown.cells (g := b) rfl j u hj
        have e2 : (⟨b, 0, none⟩ : Addr).add j = ⟨b, j, none⟩ := by unfold Addr.add; split <;> simp_all
        simpa [e2] using this) ⟨g, 0, none⟩ 1 1 news (by omega) hcell (by omega) (by unfold maxLen; omega) (by omega)
      obtain ⟨b', c', rfl, hb', _⟩ := h2.form (by omega)
      exact ⟨b', c', w', hr, own_low h2 hbase, grown_of_none h3 _, .inl hb'⟩
theorem wp_appO {P : Program} (w : World) {o : Oper} {a : Act} {K : Act → World → Prop} {Q : Exit → Act → World → Prop} (s x : Operand) (t e : TypeId) (size bytes : Nat) (z : Value)
    (ho : o.op = .call { callee := .builtin .append, args := #[s, x], argTypes := #[t, t] })
    (ht : P.underlying t = some (.slice e)) (hinfo : (P.info? e).map (fun i => (i.zero, i.size, i.bytes)) = some (some z, size, bytes)) (hzs : z.cells.size = size) (hsz : 0 < size) (hby : bytes ≤ 1000)
    (base : Nat) (p : Option Addr) (n c : Nat) (xs : List Value) (hs : a.eval s = .slice p n c) (hown : w.ownsRow base e size (.slice p n c) n xs)
    (g : Nat) (news : List Value) (hx : a.eval x = .slice (some ⟨g, 0, none⟩) 1 1) (hl : news.length = size) (hB : Blk w g e news.toArray) (h1 : ∀ u ∈ news, u.oneCell' = true)
    (hn : n ≤ 1000000000) (hbase : base ≤ w.heap.size)
    (h : ∀ b c' w', w'.ownsRow base e size (.slice (some ⟨b, 0, none⟩) (n + 1) c') (n + 1) (xs ++ news) → w.grownBy w' (Value.slice p n c).ownBlock → (w.heap.size ≤ b ∨ p = some ⟨b, 0, none⟩) → K (a.put o.dst (.slice (some ⟨b, 0, none⟩) (n + 1) c')) w') : o.wp P a w K Q := by
  obtain ⟨b, c', w', hrun, h2, h3, h4⟩ := app_run (P := P) w o.type t e size bytes z ht hinfo hzs hsz hby base p n c xs hown g news hl hB h1 hn hbase
  unfold Oper.wp
  simp [execOp, ho, resolve, invoke, builtin, hs, hx, hrun, Result.andThen]
  exact h b c' w' h2 h3 h4

theorem clone_int {α : Type} {enc : α → List Value} (val : α → Int) (henc : ∀ x, enc x = [.int .i64 (val x)]) (p : Option Addr) (n c : Nat) (xs : List α) (w : World) (h : Slc 1 enc w p n c xs) (hn : n ≤ 1000) :
    Calls Tryd.prog 50 #[.slice p n c] w fun e w' => ∃ p' c', e = .returned (.slice p' n c') ∧ w'.ownsRow w.heap.size 3 1 (.slice p' n c') n (xs.flatMap enc) ∧ Ext w w' := by
  have hfl : ∀ l : List α, (l.map val).map (Value.int .i64) = l.flatMap enc := fun l => by
    induction l with
    | nil => rfl
    | cons x l ih => rw [List.flatMap_cons, ← ih, henc]; rfl
  obtain ⟨hl, ⟨rfl, rfl⟩ | ⟨b, off, rfl, hb, hE⟩⟩ := slcC h
  · subst hl
    refine (Tryd.slices_Clone_int_nil 0 c w).mono fun e w' ⟨he, hw⟩ => ?_
    subst hw
    exact ⟨none, 0, he, World.ownsRow_nil _ _ _ _, Ext.refl _⟩
  · refine (Tryd.slices_Clone_int b off n c (xs.map val) w (by rw [List.length_map]; omega) (by omega) (fun j hj => ?_)).mono fun e w' ⟨v', he, ho, hne, hb'⟩ => ?_
    · rw [List.length_map] at hj
      have hx : xs[j]? = some xs[j] := List.getElem?_eq_getElem hj
      have := hE j _ hx 0 (.int .i64 (val xs[j])) (by rw [henc]; rfl)
      rw [List.getD_eq_getElem?_getD, List.getElem?_map, hx]
      simpa using this
    · rw [List.take_of_length_le (by rw [List.length_map]; omega), hfl] at ho
      rcases ho.2 with ⟨h1, _⟩ | ⟨g, cap, cur, h1, _⟩
      · exact absurd h1 hne
      · subst h1
        exact ⟨_, _, he, ho, hb'⟩

/-- All that was there stands, but for two cells. -/
def ExtP (F b : Nat) (w w' : World) : Prop := w'.os = w.os ∧ w'.tape = w.tape ∧ w'.output = w.output ∧ w.heap.size ≤ w'.heap.size ∧ ∀ k, k < w.heap.size → k ≠ F → k ≠ b → w'.heap[k]? = w.heap[k]?
theorem ExtP.refl (F b : Nat) (w : World) : ExtP F b w w := ⟨rfl, rfl, rfl, Nat.le_refl _, fun _ _ _ _ => rfl⟩
theorem ExtP.trans {F b : Nat} {u v w : World} (h : ExtP F b u v) (k : ExtP F b v w) : ExtP F b u w :=
  ⟨k.1.trans h.1, k.2.1.trans h.2.1, k.2.2.1.trans h.2.2.1, Nat.le_trans h.2.2.2.1 k.2.2.2.1, fun i hi h1 h2 => (k.2.2.2.2 i (Nat.lt_of_lt_of_le hi h.2.2.2.1) h1 h2).trans (h.2.2.2.2 i hi h1 h2)⟩
theorem Ext.extP {F b : Nat} {u v : World} (h : Ext u v) : ExtP F b u v := ⟨h.os, h.tape, h.output, h.size, fun k hk _ _ => h.block k hk⟩
theorem ExtP.ext {F b : Nat} {u v w : World} (h : ExtP F b u v) (k : Ext v w) : ExtP F b u w := h.trans k.extP
theorem ExtP.set {F b : Nat} {u v : World} (h : ExtP F b u v) {p : Addr} (hp : p.block = F ∨ p.block = b) (x : Value) : ExtP F b u (v.setCell p x) := by
  refine ⟨h.1, h.2.1, h.2.2.1, by simpa using h.2.2.2.1, fun k hk h1 h2 => ?_⟩
  rw [Below.heap_setCell v p x k (by omega)]
  exact h.2.2.2.2 k hk h1 h2
theorem Blk.extP {F b : Nat} {w w' : World} {g : Nat} {t : TypeId} {cs : Array Value} (h : Blk w g t cs) (h1 : g ≠ F) (h2 : g ≠ b) (he : ExtP F b w w') : Blk w' g t cs := (he.2.2.2.2 g h.lt h1 h2).trans h
theorem ExtP.cell {F b : Nat} {w w' : World} (he : ExtP F b w w') {g : Nat} (hg : g < w.heap.size) (h1 : g ≠ F) (h2 : g ≠ b) (o : Nat) : w'.cell? ⟨g, o, none⟩ = w.cell? ⟨g, o, none⟩ := World.cell?_of_block (w := w) (he.2.2.2.2 g hg h1 h2)
theorem ExtP.back {F b : Nat} {u v w : World} (h : Ext u v) (h1 : u.heap.size ≤ F) (h2 : u.heap.size ≤ b) (k : ExtP F b v w) : Ext u w :=
  ⟨k.1.trans h.os, k.2.1.trans h.tape, k.2.2.1.trans h.output, Nat.le_trans h.size k.2.2.2.1, fun i hi => (k.2.2.2.2 i (Nat.lt_of_lt_of_le hi h.size) (by omega) (by omega)).trans (h.block i hi)⟩
theorem Slc.extP {α : Type} {k : Nat} {enc : α → List Value} {w w' : World} {F b : Nat} {p : Option Addr} {n c : Nat} {xs : List α} (h : Slc k enc w p n c xs) (he : ExtP F b w w') (hp : ∀ a, p = some a → a.block ≠ F ∧ a.block ≠ b) : Slc k enc w' p n c xs := by
  obtain ⟨⟨h1, h2, h3⟩, h4, h5, h6⟩ := h
  refine ⟨⟨h1, h2, fun hn => ?_⟩, h4, h5, fun a ha => let ⟨b, off, e, hb⟩ := h6 a ha; ⟨b, off, e, Nat.lt_of_lt_of_le hb he.2.2.2.1⟩⟩
  obtain ⟨g, off, rfl, hb, hE⟩ := h3 hn
  obtain ⟨q1, q2⟩ := hp _ rfl
  exact ⟨g, off, rfl, Nat.lt_of_lt_of_le hb he.2.2.2.1, fun i x hx j v hv => (he.cell hb q1 q2 _).trans (hE i x hx j v hv)⟩

/-- The variables of the search. -/
structure TryM (z G F Bb Sx T : Nat) (gp : Option Addr) (gc : Nat) (L : List GrpV) (seat : Int) (w : World) (best : List Nat) (few : Nat) (pb : Option Addr) (cb : Nat) : Prop where
  bG : Blk w G 40 #[.slice gp L.length gc]
  bF : Blk w F 3 #[.int .i64 few]
  bB : Blk w Bb 22 #[.slice pb best.length cb]
  bS : Blk w Sx 3 #[.int .i64 seat]
  bT : Blk w T 91 #[.func (.func 49) #[] #[.pointer (some ⟨G, 0, none⟩), .pointer (some ⟨F, 0, none⟩), .pointer (some ⟨Bb, 0, none⟩), .pointer (some ⟨Sx, 0, none⟩), .pointer (some ⟨T, 0, none⟩)]]
  gE : (gp = none ∧ L = []) ∨ ∃ b off, gp = some ⟨b, off, none⟩ ∧ b < w.heap.size ∧ b ≠ F ∧ b ≠ Bb ∧ Elems 2 grpC w b off L
  bR : Slc 1 natC w pb best.length cb best
  bz : ∀ a, pb = some a → z ≤ a.block
  lt : G < z ∧ F < z ∧ Bb < z ∧ Sx < z ∧ T < z
  ne : F ≠ G ∧ F ≠ Bb ∧ F ≠ Sx ∧ F ≠ T ∧ Bb ≠ G ∧ Bb ≠ Sx ∧ Bb ≠ T
theorem TryM.more {z G F Bb Sx T : Nat} {gp : Option Addr} {gc : Nat} {L : List GrpV} {seat : Int} {w w' : World} {best : List Nat} {few : Nat} {pb : Option Addr} {cb : Nat} (h : TryM z G F Bb Sx T gp gc L seat w best few pb cb) (he : Ext w w') : TryM z G F Bb Sx T gp gc L seat w' best few pb cb :=
  ⟨h.bG.ext he, h.bF.ext he, h.bB.ext he, h.bS.ext he, h.bT.ext he, h.gE.imp id fun ⟨b, off, e, hb, h1, h2, hE⟩ => ⟨b, off, e, Nat.lt_of_lt_of_le hb he.size, h1, h2, hE.ext he hb⟩, h.bR.ext he, h.bz, h.lt, h.ne⟩
theorem TryM.leaf {z G F Bb Sx T : Nat} {gp : Option Addr} {gc : Nat} {L : List GrpV} {seat : Int} {w : World} {best : List Nat} {few : Nat} {pb : Option Addr} {cb : Nat} (h : TryM z G F Bb Sx T gp gc L seat w best few pb cb) {of : List Nat} {po : Option Addr} {co k : Nat} (hof : Slc 1 natC w po of.length co of) (hpz : ∀ a, po = some a → z ≤ a.block) :
    TryM z G F Bb Sx T gp gc L seat ((w.setCell ⟨Bb, 0, none⟩ (.slice po of.length co)).setCell ⟨F, 0, none⟩ (.int .i64 k)) of k po co := by
  obtain ⟨n1, n2, n3, n4, n5, n6, n7⟩ := h.ne
  obtain ⟨l1, l2, l3, l4, l5⟩ := h.lt
  have he : ExtP F Bb w ((w.setCell ⟨Bb, 0, none⟩ (.slice po of.length co)).setCell ⟨F, 0, none⟩ (.int .i64 k)) := ((ExtP.refl F Bb w).set (.inr rfl) _).set (.inl rfl) _
  refine ⟨h.bG.extP (fun e => n1 e.symm) (fun e => n5 e.symm) he, ?_, ?_, h.bS.extP (fun e => n3 e.symm) (fun e => n6 e.symm) he, h.bT.extP (fun e => n4 e.symm) (fun e => n7 e.symm) he, h.gE.imp id fun ⟨b, off, e, hb, h1, h2, hE⟩ => ⟨b, off, e, Nat.lt_of_lt_of_le hb he.2.2.2.1, h1, h2, fun i x hx j v hv => (he.cell hb h1 h2 _).trans (hE i x hx j v hv)⟩, hof.extP he fun a ha => by have := hpz a ha; omega, hpz, h.lt, h.ne⟩
  · exact (h.bF.far (p := ⟨Bb, 0, none⟩) n2 _).set_ 0 _
  · exact (h.bB.set_ 0 _).far (p := ⟨F, 0, none⟩) (fun e => n2 e.symm) _
end Go.Proofs.YtlmbpgjdepmlcaaDoor
