/- Plain mathematics of giving singers to parts: what a search for a place leaves, and why the number that lacks is the greatest need of a set of parts. Conditions: none. Rows of the call's own: appended, with the place of the new row; cut. Conditions: as each theorem says. A map of names to true: a set that grows. Conditions: names of at most 1000 bytes. Intervals: what is wrong with one, sums and differences, by both texts. Conditions: none. Intervals: sums and differences, by both texts. Conditions: none. The greatest common divisor, how often a prime is in a number, by both texts. Conditions: as each theorem says. -/
import Derived.Test.YtdehmioobkneiaaGreatDoorTdJ1
import Derived.Test.YtdehmioobkneiaaGreatDoorTdJ2
import Derived.ArgAppend
import Derived.Maps.OwnSet
import Derived.StringKeys
import Derived.Deep.Light
set_option linter.unusedSimpArgs false
set_option linter.unusedVariables false
namespace Go.Proofs.YtdehmioobkneiaaGreatDoor
section
variable (can : Nat → Nat → Bool) (lst : Nat → Nat) (n : Nat)
/-- Rows of singers who can sing their part, no row longer than its need. -/
def RowsOK (G : List (List Nat)) : Prop := G.length = n ∧ ∀ p r, G[p]? = some r → r.length ≤ lst p ∧ ∀ s ∈ r, can s p = true
/-- Parts that are full, whose singers have no part outside. -/
def ClosedT (G : List (List Nat)) (T : Nat → Prop) : Prop := ∀ p, T p → ∀ r, G[p]? = some r → lst p ≤ r.length ∧ ∀ s ∈ r, ∀ q, q < n → can s q = true → T q
def SeenL (S : List Bool) (q : Nat) : Prop := S[q]? = some true
/-- What a search for a place for singer i leaves. -/
structure GiveOK (i : Nat) (G : List (List Nat)) (S : List Bool) (b : Bool) (G' : List (List Nat)) (S' : List Bool) : Prop where
  len : S'.length = S.length
  up : ∀ q, SeenL S q → SeenL S' q
  fails : b = false → G' = G ∧ (∀ q, q < n → can i q = true → SeenL S' q) ∧ ∀ q, SeenL S' q → ¬ SeenL S q → ∀ r, G[q]? = some r → lst q ≤ r.length ∧ ∀ s ∈ r, ∀ x, x < n → can s x = true → SeenL S' x
  gives : b = true → RowsOK can lst n G' ∧ G'.flatten.Perm (i :: G.flatten) ∧ ∀ q, SeenL S q → G'[q]? = G[q]?
  away : ∀ T, ClosedT can lst n G T → ((∀ q, q < n → can i q = true → T q) → b = false) ∧ (b = true → ∀ q, T q → G'[q]? = G[q]?)
/-- The search for singer i, when the parts ahead of p were looked at. -/
structure GiveAt (i p : Nat) (G : List (List Nat)) (S S1 : List Bool) : Prop where
  len : S1.length = S.length
  up : ∀ q, SeenL S q → SeenL S1 q
  front : ∀ q, q < p → q < n → can i q = true → SeenL S1 q
  shut : ∀ q, SeenL S1 q → ¬ SeenL S q → ∀ r, G[q]? = some r → lst q ≤ r.length ∧ ∀ s ∈ r, ∀ x, x < n → can s x = true → SeenL S1 x
/-- The search for singer i at part p, when the first k singers of the part were asked. -/
structure GiveIn (i p k : Nat) (G : List (List Nat)) (S S1 : List Bool) : Prop where
  len : S1.length = S.length
  up : ∀ q, SeenL S q → SeenL S1 q
  front : ∀ q, q < p → q < n → can i q = true → SeenL S1 q
  here : SeenL S1 p
  full : ∀ r, G[p]? = some r → lst p ≤ r.length ∧ ∀ j s, j < k → r[j]? = some s → ∀ x, x < n → can s x = true → SeenL S1 x
  shut : ∀ q, q ≠ p → SeenL S1 q → ¬ SeenL S q → ∀ r, G[q]? = some r → lst q ≤ r.length ∧ ∀ s ∈ r, ∀ x, x < n → can s x = true → SeenL S1 x
end
section
variable {can : Nat → Nat → Bool} {lst : Nat → Nat} {n : Nat} {i p k : Nat} {G : List (List Nat)} {S S1 : List Bool}
theorem seen_set {S : List Bool} {p q : Nat} (hp : p < S.length) : SeenL (S.set p true) q ↔ q = p ∨ SeenL S q := by
  unfold SeenL
  rw [List.getElem?_set]
  by_cases h : p = q
  · subst h
    rw [if_pos rfl, if_pos hp]; simp
  · rw [if_neg h]
    constructor
    · exact .inr
    · rintro (e | e)
      · exact absurd e.symm h
      · exact e
theorem GiveAt.skip (h : GiveAt can lst n i p G S S1) (hs : SeenL S1 p ∨ can i p = false) : GiveAt can lst n i (p + 1) G S S1 :=
  ⟨h.len, h.up, (fun q hq hn hc => by
    rcases Nat.lt_or_ge q p with hlt | hge
    · exact h.front q hlt hn hc
    · obtain rfl : q = p := by omega
      rcases hs with hs | hs
      · exact hs
      · rw [hs] at hc; cases hc), h.shut⟩
theorem GiveAt.enter (h : GiveAt can lst n i p G S S1) (hp : p < S.length) (hf : ∀ r, G[p]? = some r → lst p ≤ r.length) : GiveIn can lst n i p 0 G S (S1.set p true) := by
  have e : ∀ q, SeenL (S1.set p true) q ↔ q = p ∨ SeenL S1 q := fun q => seen_set (by rw [h.len]; exact hp)
  refine ⟨by rw [List.length_set, h.len], fun q hq => (e q).2 (.inr (h.up q hq)), fun q h1 h2 h3 => (e q).2 (.inr (h.front q h1 h2 h3)), (e p).2 (.inl rfl), fun r hr => ⟨hf r hr, (fun j s hj => absurd hj (Nat.not_lt_zero j))⟩, fun q hqp hq hqs r hr => ?_⟩
  obtain ⟨h1, h2⟩ := h.shut q (((e q).1 hq).resolve_left hqp) hqs r hr
  exact ⟨h1, fun s hs x hx hc => (e x).2 (.inr (h2 s hs x hx hc))⟩
theorem GiveAt.fail (h : GiveAt can lst n i p G S S1) (hp : n ≤ p) : GiveOK can lst n i G S false G S1 :=
  ⟨h.len, h.up, fun _ => ⟨rfl, fun q hq hc => h.front q (by omega) hq hc, h.shut⟩, (fun e => by cases e), fun _ _ => ⟨fun _ => rfl, (fun e => by cases e)⟩⟩
theorem flatten_snoc_perm {r : List Nat} (hr : G[p]? = some r) : (G.set p (r ++ [i])).flatten.Perm (i :: G.flatten) := by
  have h : ∀ {G : List (List Nat)} {p : Nat}, G[p]? = some r → (G.set p (r ++ [i])).flatten.Perm (i :: G.flatten) := by
    intro G
    induction G with
    | nil => intro p h; simp at h
    | cons g G ih =>
      intro p h
      cases p with
      | zero =>
        obtain rfl : g = r := by simpa using h
        simp only [sCZ, List.flatten_cons, List.append_assoc]
        exact List.perm_middle
      | succ p =>
        simp only [sCS, List.flatten_cons]
        exact ((ih (by simpa using h)).append_left g).trans List.perm_middle
  exact h hr
theorem RowsOK.set (h : RowsOK can lst n G) {r : List Nat} (h1 : r.length ≤ lst p) (h2 : ∀ s ∈ r, can s p = true) : RowsOK can lst n (G.set p r) := by
  refine ⟨by rw [List.length_set]; exact h.1, fun q r' hq => ?_⟩
  rw [List.getElem?_set] at hq
  by_cases e : p = q
  · subst e
    rw [if_pos rfl] at hq
    split at hq
    · cases hq; exact ⟨h1, h2⟩
    · cases hq
  · rw [if_neg e] at hq
    exact h.2 q r' hq
/-- A place that is free. -/
theorem GiveAt.free (h : GiveAt can lst n i p G S S1) (hG : RowsOK can lst n G) (hp : p < S.length) (hs : ¬ SeenL S1 p) (hc : can i p = true) {r : List Nat} (hr : G[p]? = some r) (hl : r.length < lst p) : GiveOK can lst n i G S true (G.set p (r ++ [i])) (S1.set p true) := by
  have e : ∀ q, SeenL (S1.set p true) q ↔ q = p ∨ SeenL S1 q := fun q => seen_set (by rw [h.len]; exact hp)
  have hne : ∀ q, q ≠ p → (G.set p (r ++ [i]))[q]? = G[q]? := fun q hq => by rw [List.getElem?_set, if_neg (fun e => hq e.symm)]
  have hpn : p < n := by rw [← hG.1]; exact (List.getElem?_eq_some_iff.1 hr).1
  refine ⟨by rw [List.length_set, h.len], fun q hq => (e q).2 (.inr (h.up q hq)), (fun e => by cases e), fun _ => ⟨hG.set (by rw [List.length_append, List.length_singleton]; omega) (fun s hs => ?_), flatten_snoc_perm hr, fun q hq => hne q fun e => hs (e ▸ h.up q hq)⟩, fun T hT => ⟨fun h1 => ?_, fun _ q hq => hne q fun e => ?_⟩⟩
  · rcases List.mem_append.1 hs with h1 | h1
    · exact (hG.2 p r hr).2 s h1
    · obtain rfl : s = i := by simpa using h1
      exact hc
  · have := (hT p (h1 p hpn hc) r hr).1
    omega
  · subst e
    have := (hT q hq r hr).1
    omega
/-- How many parts are not seen. -/
def unseen (S : List Bool) : Nat := (S.filter (!·)).length
theorem unseen_up : ∀ {S S1 : List Bool}, S1.length = S.length → (∀ q, SeenL S q → SeenL S1 q) → unseen S1 ≤ unseen S
  | [], [], _, _ => Nat.le_refl _
  | [], _ :: _, h, _ => by simp at h
  | _ :: _, [], h, _ => by simp at h
  | a :: S, b :: S1, h, hu => by
    have ih := unseen_up (S := S) (S1 := S1) (by simpa using h) fun q hq => by have := hu (q + 1) (by simpa [SeenL] using hq); simpa [SeenL] using this
    have h0 := hu 0
    unfold unseen at ih ⊢
    simp only [SeenL, List.getElem?_cons_zero, Option.some.injEq] at h0
    cases a <;> cases b <;> simp at h0 ⊢ <;> omega
theorem unseen_set : ∀ {S : List Bool} {p : Nat}, S[p]? = some false → unseen (S.set p true) + 1 = unseen S
  | [], p, h => by simp at h
  | a :: S, 0, h => by
    obtain rfl : a = false := by simpa using h
    simp [unseen]
  | a :: S, p + 1, h => by
    have ih := unseen_set (S := S) (p := p) (by simpa using h)
    unfold unseen at ih ⊢
    cases a <;> simp at ih ⊢ <;> omega
theorem GiveIn.less (h : GiveIn can lst n i p k G S S1) (hs : S[p]? = some false) : unseen S1 < unseen S := by
  have hp := (List.getElem?_eq_some_iff.1 hs).1
  have h1 := unseen_set hs
  have h2 : unseen S1 ≤ unseen (S.set p true) := unseen_up (by rw [List.length_set]; exact h.len) fun q hq => by
    rcases (seen_set hp).1 hq with rfl | hq
    · exact h.here
    · exact h.up q hq
  omega
end
end Go.Proofs.YtdehmioobkneiaaGreatDoor
namespace Go.Proofs.YtdehmioobkneiaaGreatDoor
open Go Go.RowKit
def intC (x : Int) : List Value := [.int .i64 x]
theorem intC_len (x : Int) : (intC x).length = 1 := rfl
theorem own_low {w : World} {base base' k n : Nat} {e : TypeId} {v : Value} {xs : List Value} (h : w.ownsRow base' e k v n xs) (hb : base ≤ base') : w.ownsRow base e k v n xs :=
  ⟨h.1, h.2.imp id fun ⟨g, cap, cur, hv, hg, r⟩ => ⟨g, cap, cur, hv, Nat.le_trans hb hg, r⟩⟩
theorem own_no {w : World} {base k n g : Nat} {t e : TypeId} {v : Value} {xs : List Value} {cs : Array Value} (ho : w.ownsRow base e k v n xs) (h : Blk w g t cs) (ht : t ≠ e) : v.ownBlock ≠ some g := by
  rcases ho.2 with ⟨rfl, _⟩ | ⟨b, cap, cur, rfl, _, h3, _⟩
  · simp [Value.ownBlock]
  · intro e1
    have e2 : b = g := by simpa [Value.ownBlock] using e1
    subst e2
    unfold Blk at h
    rw [h3] at h
    simp at h
    exact ht h.2.symm
theorem grown_set (w : World) (p : Addr) (u : Value) : w.grownBy (w.setCell p u) (some p.block) :=
  ⟨rfl, rfl, rfl, by simp [World.setCell], fun k _ h => Below.heap_setCell w p u k fun e => h (e ▸ rfl)⟩
theorem grown_of_none {w w' : World} (h : w.grownBy w' none) (row : Option Nat) : w.grownBy w' row := ⟨h.os, h.tape, h.output, h.size, fun k hk _ => h.block k hk (by simp)⟩
/-- 'out = append(out, x)', and where the row then lies: where it lay, or in a new block. -/
theorem wp_appL {P : Program} (w : World) {ops : Array Oper} {rest : List Oper} {o : Oper} {a : Act} {Q : Exit → Act → World → Prop} (s x : Operand) (t e : TypeId) (size bytes : Nat) (z : Value) (hgd : o.guard = none)
    (ho : o.op = .call { callee := .builtin .append, args := #[s, x], argTypes := #[t, t] })
    (ht : P.underlying t = some (.slice e)) (hinfo : (P.info? e).map (fun i => (i.zero, i.size, i.bytes)) = some (some z, size, bytes)) (hzs : z.cells.size = size) (hsz : 0 < size) (hby : bytes ≤ 1000)
    (base : Nat) (p : Option Addr) (n c : Nat) (xs : List Value) (hs : a.eval s = .slice p n c) (hown : w.ownsRow base e size (.slice p n c) n xs)
    (g : Nat) (news : List Value) (hx : a.eval x = .slice (some ⟨g, 0, none⟩) 1 1) (hl : news.length = size) (hB : Blk w g e news.toArray) (h1 : ∀ u ∈ news, u.oneCell' = true)
    (hn : n ≤ 1000000000) (hbase : base ≤ w.heap.size)
    (h : ∀ b c' w', w'.ownsRow base e size (.slice (some ⟨b, 0, none⟩) (n + 1) c') (n + 1) (xs ++ news) → w.grownBy w' (Value.slice p n c).ownBlock → (w.heap.size ≤ b ∨ p = some ⟨b, 0, none⟩) → wpList P ops Q rest (a.put o.dst (.slice (some ⟨b, 0, none⟩) (n + 1) c')) w') : wpList P ops Q (o :: rest) a w := by
  have hcell : ∀ (j : Nat) (u : Value), news[j]? = some u → w.cell? ((⟨g, 0, none⟩ : Addr).add j) = some u := fun j u hu => by
    have : (⟨g, 0, none⟩ : Addr).add j = ⟨g, j, none⟩ := by unfold Addr.add; split <;> simp_all
    rw [this, hB.cell j]
    simpa using hu
  have hb2 : (n + 1) * bytes ≤ 1000000001 * 1000 := Nat.mul_le_mul (by omega) hby
  obtain ⟨i0, hi, hz0, hz1, hz2⟩ := info_parts hinfo
  rcases hown.2 with ⟨hv, hn0⟩ | ⟨b, cap, cur, hv, hb, hg, hnc, hcm, hcs, htk⟩
  · cases hv
    have hxs : xs = [] := List.eq_nil_of_length_eq_zero (by rw [hown.1]; omega)
    subst hxs
    refine wp_app1 w s x t e size bytes z hgd ho ht hinfo hzs hsz hby w.heap.size (.slice none 0 0) 0 [] hs (World.ownsRow_nil _ _ _ _) g news hx hl hB h1 (by omega) (Nat.le_refl _) fun v' w' h2 h3 _ => ?_
    obtain ⟨b, c', rfl, hb, _⟩ := h2.form (by omega)
    exact h b c' w' (own_low h2 hbase) h3 (.inl hb)
  · cases hv
    by_cases hroom : n + 1 ≤ c
    · refine wpList_append_fits w hgd s x t ho base e i0 size ht hi hz1 b n c xs hs hown ⟨g, 0, none⟩ 1 1 news hx (by omega) hcell h1 hroom fun w' h2 h3 => ?_
      exact h b c w' h2 h3 (.inr rfl)
    · refine wpList_append_grows w hgd s x t ho e i0 z size bytes ht hi hz0 hz1 hz2 hzs hsz (some ⟨b, 0, none⟩) n c xs hs (fun e => by cases e) hown.1 (fun d hd j u hj => ?_) ⟨g, 0, none⟩ 1 1 news hx (by omega) hcell h1 (by omega) (by unfold maxLen; omega) (by omega) fun v' w' h2 h3 => ?_
      · cases hd
        have := hown.cells (g := b) rfl j u hj
        have e2 : (⟨b, 0, none⟩ : Addr).add j = ⟨b, j, none⟩ := by unfold Addr.add; split <;> simp_all
        simpa [e2] using this
      · obtain ⟨b', c', rfl, hb', _⟩ := h2.form (by omega)
        exact h b' c' w' (own_low h2 hbase) (grown_of_none h3 _) (.inl hb')
theorem slcC {α : Type} {k : Nat} {enc : α → List Value} {w : World} {p : Option Addr} {n c : Nat} {xs : List α} (h : Slc k enc w p n c xs) :
    n = xs.length ∧ ((p = none ∧ xs = []) ∨ ∃ b off, p = some ⟨b, off, none⟩ ∧ b < w.heap.size ∧ Elems k enc w b off xs) := by
  obtain ⟨⟨h1, h2, h3⟩, h4, h5, h6⟩ := h
  refine ⟨h1.symm, ?_⟩
  cases p with
  | none => exact .inl ⟨rfl, List.eq_nil_of_length_eq_zero (by rw [h1]; exact h5 rfl)⟩
  | some a =>
    obtain ⟨b, off, rfl, hb⟩ := h6 a rfl
    refine .inr ⟨b, off, rfl, hb, ?_⟩
    by_cases hn : n = 0
    · obtain rfl : xs = [] := List.eq_nil_of_length_eq_zero (by omega)
      intro i x hx
      cases hx
    · obtain ⟨b', off', e, _, hE⟩ := h3 hn
      cases e
      exact hE
end Go.Proofs.YtdehmioobkneiaaGreatDoor
namespace Go.Proofs.YtdehmioobkneiaaGreatDoor
open Go Go.RowKit Go.Maps
def kL (p : ByteArray) : Lit := .string p.data.toList
theorem kL_ne {p q : ByteArray} (h : p ≠ q) : kL p ≠ kL q := fun e => h (by
  have := Lit.string.inj e
  cases p; cases q
  simp only at this
  congr 1
  exact Array.toList_inj.1 this)
theorem kL_is (p : ByteArray) : WideAt.IsKeyLit (kL p) := trivial
theorem kL_of {p : ByteArray} (hp : p.size ≤ 1000) : keyOf Tryz.prog 9 (.string p) = some (kL p) := Go.WideMaps.keyOf_string_mk Tryz.underlying9 (by unfold maxLen; omega)
/-- The map b holds just the names of T, each with true. -/
def OwnB (w : World) (b : Nat) (T : List ByteArray) : Prop := ∃ D : DataW Unit, w.ownsMap Tryz.prog 9 (plainElem Tryz.prog 4) b (Maps.size D) D ∧ Maps.Tidy D ∧ (∀ p, Maps.has D (kL p) = true ↔ p ∈ T) ∧ (∀ p, p ∈ T → ∀ z, D.atKey (kL p) z = .lit (.bool true)) ∧ Maps.size D ≤ T.length
theorem ownB_sized {P : Program} {k : TypeId} {R : Value → Option (DataW Unit × List MemPlace)} {w : World} {b n : Nat} {D : DataW Unit} (h : w.ownsMap P k R b n D) : w.ownsMap P k R b (Maps.size D) D := by
  obtain ⟨es, clock, hb, F, _, rfl⟩ := h
  exact ⟨es, clock, hb, F, by simp [Maps.size, length_sorted], rfl⟩
theorem OwnB.made (w : World) : OwnB (w.alloc (.map #[] 0)) w.heap.size [] :=
  ⟨.map [], World.ownsMap_made w _ _ _, tidy_empty, (fun p => ⟨(fun h => by cases h), (fun h => by cases h)⟩), (fun p h => by cases h), by simp [Maps.size]⟩
theorem OwnB.lt {w : World} {b : Nat} {T : List ByteArray} (h : OwnB w b T) : b < w.heap.size := by
  obtain ⟨D, hD, -⟩ := h
  exact hD.lt
theorem OwnB.ext {w w' : World} {b : Nat} {T : List ByteArray} (h : OwnB w b T) (he : Ext w w') : OwnB w' b T := by
  obtain ⟨D, hD, h2⟩ := h
  exact ⟨D, hD.kept (row := none) ⟨he.os, he.tape, he.output, he.size, fun k hk _ => he.block k hk⟩ (by simp), h2⟩
theorem boolU : Tryz.prog.underlying 4 = some .bool := Tryz.underlying4
theorem zero_bool (w : World) : (zeroValue 4).run Tryz.prog w = .ok (.bool false) w := Tryz.zeroValue4 w
theorem OwnB.look {w : World} {b : Nat} {T : List ByteArray} (h : OwnB w b T) {p : ByteArray} (hp : p.size ≤ 1000) :
    ∃ c : Bool, (Instr.lookup 152 (.map (some b)) (.string p) false).run Tryz.prog w = .ok (.bool c) w ∧ (c = true ↔ p ∈ T) := by
  obtain ⟨D, hD, hT, h1, h2, h3⟩ := h
  obtain ⟨c, hrun, hat⟩ := lookup_bool hD (string_keyed Tryz.underlying9) Tryz.underlying152 boolU (zero_bool w) (kL_of hp)
  refine ⟨c, hrun, ?_⟩
  by_cases hm : p ∈ T
  · rw [h2 p hm] at hat
    have : c = true := by
      have := Lit.bool.inj (DataW.lit.inj hat)
      exact this.symm
    exact ⟨fun _ => hm, fun _ => this⟩
  · have hn : Maps.has D (kL p) = false := by
      cases hh : Maps.has D (kL p)
      · rfl
      · exact absurd ((h1 p).1 hh) hm
    rw [atKey_of_not_has hn] at hat
    have : c = false := by
      have := Lit.bool.inj (DataW.lit.inj hat)
      exact this.symm
    rw [this]
    exact ⟨fun h => by (cases h), fun h => absurd h hm⟩
theorem OwnB.put {w : World} {b : Nat} {T : List ByteArray} (h : OwnB w b T) {p : ByteArray} (hp : p.size ≤ 1000) (hn : T.length ≤ 1000) :
    ∃ w', (Instr.mapUpdate 152 (.map (some b)) (.string p) (.bool true)).run Tryz.prog w = .ok () w' ∧ OwnB w' b (T ++ [p]) ∧ w.grownBy w' (some b) := by
  obtain ⟨D, hD, hT, h1, h2, h3⟩ := h
  obtain ⟨w', hrun, hD', hg⟩ := hD.update (string_keyed Tryz.underlying9) Tryz.underlying152 (by unfold maxLen; omega) (kL_of hp) (plainElem_bool boolU true)
  refine ⟨w', hrun, ⟨_, ownB_sized hD', hT.put (kL_is p) _, fun q => ?_, fun q hq z => ?_, ?_⟩, hg⟩
  · by_cases e : q = p
    · subst e; rw [has_put_same hT.isMap (kL_is q)]; simp
    · rw [has_put_other (kL_ne e), h1 q]; simp [e]
  · by_cases e : q = p
    · subst e; exact atKey_put_same hT.isMap (kL_is q) _ _
    · rw [atKey_put_other (kL_ne e)]; exact h2 q (by simpa [e] using hq) z
  · rw [size_put hT, List.length_append, List.length_singleton]
    split <;> omega
end Go.Proofs.YtdehmioobkneiaaGreatDoor
namespace Go.Proofs.YtdehmioobkneiaaGreatDoor
open Go Go.RowKit
structure I4 where
  a : Int
  b : Int
  c : Int
  d : Int
theorem I4.eq {x y : I4} (ha : x.a = y.a) (hb : x.b = y.b) (hc : x.c = y.c) (hd : x.d = y.d) : x = y := by
  cases x; cases y; simp only at ha hb hc hd; rw [ha, hb, hc, hd]
def rightB (x : I4) : Bool := inB x.a (-24) 24 && inB x.b (-10) 10 && inB x.c (-5) 5 && inB x.d (-3) 3
/-- A row of intervals in memory: 'n' of them from 'off' on. -/
def Rows4 (w : World) (b off : Nat) (xs : List I4) : Prop :=
  ∀ i x, xs[i]? = some x → w.cell? ⟨b, off + i * 4, none⟩ = some (.int .i64 x.a) ∧ w.cell? ⟨b, off + i * 4 + 1, none⟩ = some (.int .i64 x.b) ∧ w.cell? ⟨b, off + i * 4 + 2, none⟩ = some (.int .i64 x.c) ∧ w.cell? ⟨b, off + i * 4 + 3, none⟩ = some (.int .i64 x.d)
theorem Rows4.ext {w w' : World} {b off : Nat} {xs : List I4} (h : Rows4 w b off xs) (he : Ext w w') (hb : b < w.heap.size) : Rows4 w' b off xs := fun i x hx => by
  obtain ⟨h1, h2, h3, h4⟩ := h i x hx
  obtain ⟨hc, _, _⟩ := he.walk
  exact ⟨(hc _ _ hb).trans h1, (hc _ _ hb).trans h2, (hc _ _ hb).trans h3, (hc _ _ hb).trans h4⟩
def RightTo (l : List I4) (k : Nat) : Prop := ∀ j x, j < k → l[j]? = some x → rightB x = true
theorem RightTo.succ {l : List I4} {k : Nat} {x : I4} (h : RightTo l k) (hx : l[k]? = some x) (hr : rightB x = true) : RightTo l (k + 1) := fun j y hj hy => by
  rcases Nat.lt_or_ge j k with hlt | hge
  · exact h j y hlt hy
  · obtain rfl : j = k := by omega
    rw [hx] at hy; cases hy; exact hr
end Go.Proofs.YtdehmioobkneiaaGreatDoor
namespace Go.Proofs.YtdehmioobkneiaaGreatDoor
open Go Go.RowKit
end Go.Proofs.YtdehmioobkneiaaGreatDoor
namespace Go.Proofs.YtdehmioobkneiaaGreatDoor
open Go Go.RowKit
end Go.Proofs.YtdehmioobkneiaaGreatDoor
