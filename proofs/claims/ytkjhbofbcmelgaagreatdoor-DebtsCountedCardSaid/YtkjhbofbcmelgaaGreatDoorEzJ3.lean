/- Slices in memory; the first error of a scan. Conditions: none. Maps of bools that the call made. Conditions: none. Appending one element to a slice of the call's own. Conditions: as each theorem says. A cell of an element that is set, in a row of elements. Conditions: as each theorem says. Rows of the call's own: appended, with the place of the new row; cut. Conditions: as each theorem says. More of the stream: flips, ranges, picks. Conditions: as each theorem says. More of the stream: picks within bounds, strings; rows of the call's own beside a stream. Conditions: as each theorem says. -/
import Derived.Test.YtkjhbofbcmelgaaGreatDoorEzJ2
import Derived.Maps.OwnOps
import Derived.OwnWalk
import Derived.Deep.AppendLies
import Derived.ArgAppend
set_option linter.unusedSimpArgs false
set_option linter.unusedVariables false
namespace Go.Proofs.YtkjhbofbcmelgaaGreatDoor
open Go Go.RowKit
/-- Elements of k cells each, from a place on. -/
def Elems {α : Type} (k : Nat) (enc : α → List Value) (w : World) (b off : Nat) (xs : List α) : Prop :=
 ∀ i x, xs[i]? = some x → ∀ j v, (enc x)[j]? = some v → w.cell? ⟨b, off + i * k + j, none⟩ = some v
theorem Elems.ext {α : Type} {k : Nat} {enc : α → List Value} {w w' : World} {b off : Nat} {xs : List α} (h : Elems k enc w b off xs) (he : Ext w w') (hb : b < w.heap.size) : Elems k enc w' b off xs := fun i x hx j v hv => by
 obtain ⟨hc, _, _⟩ := he.walk
 exact (hc _ _ hb).trans (h i x hx j v hv)
/-- A slice of n elements. -/
def Sl {α : Type} (k : Nat) (enc : α → List Value) (w : World) (p : Option Addr) (n : Nat) (xs : List α) : Prop :=
 xs.length = n ∧ n ≤ 1000000000 ∧ (n ≠ 0 → ∃ b off, p = some ⟨b, off, none⟩ ∧ b < w.heap.size ∧ Elems k enc w b off xs)
theorem Sl.ext {α : Type} {k : Nat} {enc : α → List Value} {w w' : World} {p : Option Addr} {n : Nat} {xs : List α} (h : Sl k enc w p n xs) (he : Ext w w') : Sl k enc w' p n xs :=
 ⟨h.1, h.2.1, fun hn => let ⟨b, off, hp, hb, hE⟩ := h.2.2 hn; ⟨b, off, hp, Nat.lt_of_lt_of_le hb he.size, hE.ext he hb⟩⟩
def strC (s : ByteArray) : List Value := [.string s]
theorem Elems.str {w : World} {b off : Nat} {xs : List ByteArray} (h : Elems 1 strC w b off xs) {i : Nat} {s : ByteArray} (hs : xs[i]? = some s) : w.cell? ⟨b, off + i, none⟩ = some (.string s) := by
 have := h i s hs 0 (.string s) rfl
 simpa using this
/-- The first number of a scan that is not 0. -/
def scanF (n : Nat) (f : Nat → Int) : Int := orF ((List.range n).map f)
def Zeros (f : Nat → Int) (k : Nat) : Prop := ∀ j, j < k → f j = 0
theorem Zeros.zeroTo {f : Nat → Int} {k n : Nat} (h : Zeros f k) (hk : k ≤ n) : ZeroTo ((List.range n).map f) k := fun j hj => by
 rw [List.getD_eq_getElem?_getD, List.getElem?_map, List.getElem?_range (by omega)]
 exact h j hj
theorem scan_at {n : Nat} {f : Nat → Int} (k : Nat) (hk : k < n) (h : Zeros f k) (hx : f k ≠ 0) : scanF n f = f k := by
 have e : ((List.range n).map f).getD k 0 = f k := by rw [List.getD_eq_getElem?_getD, List.getElem?_map, List.getElem?_range hk]; rfl
 rw [← e] at hx ⊢
 exact orF_at _ k (by simpa using hk) (h.zeroTo (by omega)) hx
theorem scan_zero {n : Nat} {f : Nat → Int} (h : Zeros f n) : scanF n f = 0 := orF_zero _ n (by simp) (h.zeroTo (Nat.le_refl _))
theorem Zeros.succ {f : Nat → Int} {k : Nat} (h : Zeros f k) (hx : f k = 0) : Zeros f (k + 1) := fun j hj => by
 rcases Nat.lt_or_ge j k with hlt | hge
 ·exact h j hlt
 ·obtain rfl : j = k := by omega
  exact hx
theorem scan_is {n k : Nat} {f : Nat → Int} {v : Int} (hz : Zeros f k) (hk : k < n) (hv : f k = v) (h0 : v ≠ 0) : v = scanF n f := by
 rw [scan_at k hk hz (by rw [hv]; exact h0), hv]
def atL {α : Type} (d : α) (xs : List α) (i : Nat) : α := xs.getD i d
theorem atL_of {α : Type} {d : α} {xs : List α} {i : Nat} {x : α} (h : xs[i]? = some x) : atL d xs i = x := by unfold atL; rw [List.getD_eq_getElem?_getD, h]; rfl
theorem getD_some {α : Type} {xs : List α} {i n : Nat} (h : xs.length = n) (hi : i < n) : ∃ x, xs[i]? = some x := ⟨_, List.getElem?_eq_getElem (by omega)⟩
/-- Go's <= on strings. -/
def leB (s t : ByteArray) : Bool := Op.bytesLess s.toList t.toList || (s.toList == t.toList)
end Go.Proofs.YtkjhbofbcmelgaaGreatDoor
namespace Go.Proofs.YtkjhbofbcmelgaaGreatDoor
open Go Go.RowKit Go.Maps
theorem Ext.grown {a b c : World} (h : Ext a b) {row : Option Nat} (hg : b.grownBy c row) (hr : ∀ k, row = some k → a.heap.size ≤ k) : Ext a c := Below.grown h hg h.size hr
end Go.Proofs.YtkjhbofbcmelgaaGreatDoor
namespace Go.Proofs.YtkjhbofbcmelgaaGreatDoor
open Go Go.RowKit
theorem Ext.app {a b c : World} {base : Nat} {e : TypeId} {k n : Nat} {v : Value} {xs : List Value} (h : Ext a b) (ho : b.ownsRow base e k v n xs) (hb : a.heap.size ≤ base) (hg : b.grownBy c v.ownBlock) : Ext a c := h.grown hg fun j hj => Nat.le_trans hb (ho.lt j hj).1
theorem Blk.app {b c : World} {base g : Nat} {t e : TypeId} {k n : Nat} {v : Value} {xs : List Value} {cs : Array Value} (h : Blk b g t cs) (ho : b.ownsRow base e k v n xs) (hb : g < base) (hg : b.grownBy c v.ownBlock) : Blk c g t cs :=
 (hg.block g h.lt fun e => by have := (ho.lt g e.symm).1; omega).trans h
theorem World.grownBy_of_ext {a b : World} (h : Ext a b) : a.grownBy b none := ⟨h.os, h.tape, h.output, h.size, fun k hk _ => h.block k hk⟩
theorem own_ext {a b : World} (h : Ext a b) {base : Nat} {e : TypeId} {k n : Nat} {v : Value} {xs : List Value} (ho : a.ownsRow base e k v n xs) : b.ownsRow base e k v n xs := ho.kept (World.grownBy_of_ext h) (by cases hv : v.ownBlock <;> simp)
/-- 'out = append(out, x)'. -/
theorem wp_app1 {P : Program} (w : World) {ops : Array Oper} {rest : List Oper} {o : Oper} {a : Act} {Q : Exit → Act → World → Prop} (s x : Operand) (t e : TypeId) (size bytes : Nat) (z : Value) (hgd : o.guard = none)
 (ho : o.op = .call { callee := .builtin .append, args := #[s, x], argTypes := #[t, t] })
 (ht : P.underlying t = some (.slice e)) (hinfo : (P.info? e).map (fun i => (i.zero, i.size, i.bytes)) = some (some z, size, bytes)) (hzs : z.cells.size = size) (hsz : 0 < size) (hby : bytes ≤ 1000)
 (base : Nat) (v : Value) (n : Nat) (xs : List Value) (hs : a.eval s = v) (hown : w.ownsRow base e size v n xs)
 (g : Nat) (news : List Value) (hx : a.eval x = .slice (some ⟨g, 0, none⟩) 1 1) (hl : news.length = size) (hB : Blk w g e news.toArray) (h1 : ∀ u ∈ news, u.oneCell' = true)
 (hn : n ≤ 1000000000) (hbase : base ≤ w.heap.size)
 (h : ∀ v' w', w'.ownsRow base e size v' (n + 1) (xs ++ news) → w.grownBy w' v.ownBlock → (v' = .slice none 0 0 → False) → wpList P ops Q rest (a.put o.dst v') w') : wpList P ops Q (o :: rest) a w := by
 obtain ⟨i0, hi, hz0, hz1, hz2⟩ := info_parts hinfo
 refine wpList_append_own w hgd s x t ho base e i0 z size bytes ht hi hz0 hz1 hz2 hzs hsz v n xs hs hown ⟨g, 0, none⟩ 1 1 news hx (by omega) (fun j u hu => ?_) h1 ?_ ?_ hbase (fun v' w' h2 h3 h4 => h v' w' h2 h3 fun h5 => ?_)
 ·have : (⟨g, 0, none⟩ : Addr).add j = ⟨g, j, none⟩ := by unfold Addr.add; split <;> simp_all
  rw [this, hB.cell j]
  simpa using hu
 ·unfold maxLen; omega
 ·have : (n + 1) * bytes ≤ 1000000001 * 1000 := Nat.mul_le_mul (by omega) hby
  omega
 ·have := (h4.1 h5).2
  omega
theorem flat_at {α : Type} {k : Nat} {enc : α → List Value} (hk : ∀ x, (enc x).length = k) : ∀ (xs : List α) (i : Nat) (x : α), xs[i]? = some x → ∀ (j : Nat) (v : Value), (enc x)[j]? = some v → (xs.flatMap enc)[i * k + j]? = some v
 | [], _, _, h, _, _, _ => by simp at h
 | y :: ys, 0, x, h, j, v, hv => by
   obtain rfl : y = x := by simpa using h
   have hj : j < (enc y).length := (List.getElem?_eq_some_iff.1 hv).1
   rw [List.flatMap_cons, Nat.zero_mul, Nat.zero_add, List.getElem?_append_left hj]
   exact hv
 | y :: ys, i + 1, x, h, j, v, hv => by
   have ih := flat_at hk ys i x (by simpa using h) j v hv
   have e : (i + 1) * k + j = (enc y).length + (i * k + j) := by rw [hk, Nat.add_mul]; omega
   rw [List.flatMap_cons, e, List.getElem?_append_right (by omega), Nat.add_sub_cancel_left]
   exact ih
/-- A slice of the call's own, read as a slice. -/
theorem sl_of_own {α : Type} {k : Nat} {enc : α → List Value} (hk : ∀ x, (enc x).length = k) {w : World} {base : Nat} {e : TypeId} {v : Value} {n : Nat} {xs : List α} (h : w.ownsRow base e k v n (xs.flatMap enc)) (hk0 : 0 < k) (hn : n ≤ 1000000000) :
 ∃ p c, v = .slice p n c ∧ Sl k enc w p n xs ∧ (∀ g, v.ownBlock = some g → base ≤ g) := by
 have hlen : xs.length = n := by
  have h1 := h.1
  have h2 : ∀ (l : List α), (l.flatMap enc).length = l.length * k := by
   intro l
   induction l with
   | nil => simp
   | cons y ys ih => rw [List.flatMap_cons, List.length_append, ih, hk, List.length_cons, Nat.add_mul]; omega
  rw [h2] at h1
  exact Nat.eq_of_mul_eq_mul_right hk0 h1
 have hlt := h.lt
 rcases h.2 with ⟨rfl, rfl⟩ | ⟨g, cap, cur, rfl, hb, hg, hnc, hcm, hcs, htake⟩
 ·exact ⟨none, 0, rfl, ⟨hlen, hn, fun h => absurd rfl h⟩, fun g hg => by simp [Value.ownBlock] at hg⟩
 ·refine ⟨_, cap, rfl, ⟨hlen, hn, fun _ => ⟨g, 0, rfl, (Array.getElem?_eq_some_iff.1 hg).1, fun i x hx j u hu => ?_⟩⟩, fun q hq => (hlt q hq).1⟩
  have h1 := flat_at hk xs i x hx j u hu
  have h2 := h.cells (g := g) rfl (i * k + j) u h1
  have : (⟨g, 0, none⟩ : Addr).add (i * k + j) = ⟨g, i * k + j, none⟩ := by unfold Addr.add; split <;> simp_all
  rw [this] at h2
  rw [Nat.zero_add]
  exact h2
theorem flat_snoc {α : Type} {enc : α → List Value} (xs : List α) (x : α) : (xs ++ [x]).flatMap enc = xs.flatMap enc ++ enc x := by simp [List.flatMap_append]
theorem take_snocL {α : Type} {xs : List α} {k : Nat} {x : α} (h : xs[k]? = some x) : xs.take (k + 1) = xs.take k ++ [x] := by
 obtain ⟨hk, rfl⟩ := List.getElem?_eq_some_iff.1 h
 exact List.take_succ_eq_append_getElem hk
end Go.Proofs.YtkjhbofbcmelgaaGreatDoor
namespace Go.Proofs.YtkjhbofbcmelgaaGreatDoor
open Go Go.RowKit
theorem flat_split {α : Type} {k : Nat} {enc : α → List Value} (hk : ∀ x, (enc x).length = k) {xs : List α} {i : Nat} {x : α} (h : xs[i]? = some x) :
 ∃ pre post, pre.length = i * k ∧ xs.flatMap enc = pre ++ (enc x ++ post) ∧ ∀ y, (xs.set i y).flatMap enc = pre ++ (enc y ++ post) := by
 obtain ⟨hi, e⟩ := List.getElem?_eq_some_iff.1 h
 have hl : ∀ (l : List α), (l.flatMap enc).length = l.length * k := by
  intro l
  induction l with
  | nil => simp
  | cons y ys ih => rw [List.flatMap_cons, List.length_append, ih, hk, List.length_cons, Nat.add_mul]; omega
 refine ⟨(xs.take i).flatMap enc, (xs.drop (i + 1)).flatMap enc, ?_, ?_, fun y => ?_⟩
 ·rw [hl, List.length_take, Nat.min_eq_left (by omega)]
 ·have e1 : xs = xs.take i ++ (x :: xs.drop (i + 1)) := by
   rw [← e, ← List.drop_eq_getElem_cons hi, List.take_append_drop]
  have e2 := congrArg (List.flatMap enc) e1
  rw [List.flatMap_append, List.flatMap_cons] at e2
  exact e2
 ·rw [List.set_eq_take_append_cons_drop, if_pos hi, List.flatMap_append, List.flatMap_cons]
theorem set_mid (pre mid post : List Value) (j : Nat) (hj : j < mid.length) (v : Value) : (pre ++ (mid ++ post)).set (pre.length + j) v = pre ++ (mid.set j v ++ post) := by
 rw [List.set_append_right _ _ (by omega), Nat.add_sub_cancel_left, List.set_append_left _ _ hj]
/-- One cell of the i-th element. -/
theorem flat_set1 {α : Type} {k : Nat} {enc : α → List Value} (hk : ∀ x, (enc x).length = k) {xs : List α} {i : Nat} {x y : α} (h : xs[i]? = some x) (j : Nat) (hj : j < k) (v : Value) (he : enc y = (enc x).set j v) :
 (xs.flatMap enc).set (i * k + j) v = (xs.set i y).flatMap enc := by
 obtain ⟨pre, post, h1, h2, h3⟩ := flat_split hk h
 rw [h2, h3, he, ← h1]
 exact set_mid _ _ _ j (by rw [hk]; exact hj) v
/-- A row of the call's own, a cell of the i-th element set. -/
theorem own_set1 {α : Type} {k : Nat} {enc : α → List Value} (hk : ∀ x, (enc x).length = k) {w : World} {base : Nat} {e : TypeId} {g n cap : Nat} {xs : List α} (h : w.ownsRow base e k (.slice (some ⟨g, 0, none⟩) n cap) n (xs.flatMap enc))
 {i : Nat} {x : α} (y : α) (hx : xs[i]? = some x) (j : Nat) (hj : j < k) (v : Value) (he : enc y = (enc x).set j v) : (w.setCell ⟨g, i * k + j, none⟩ v).ownsRow base e k (.slice (some ⟨g, 0, none⟩) n cap) n ((xs.set i y).flatMap enc) := by
 rw [← flat_set1 hk hx j hj v he]
 exact (h.stored (i * k + j) v).1
theorem own_cell {α : Type} {k : Nat} {enc : α → List Value} (hk : ∀ x, (enc x).length = k) {w : World} {base : Nat} {e : TypeId} {g n cap : Nat} {xs : List α} (h : w.ownsRow base e k (.slice (some ⟨g, 0, none⟩) n cap) n (xs.flatMap enc))
 {i : Nat} {x : α} (hx : xs[i]? = some x) (j : Nat) {v : Value} (hv : (enc x)[j]? = some v) (hl : i < n) : w.cell? ⟨g, i * k + j, none⟩ = some v := by
 have hj : j < k := by rw [← hk x]; exact (List.getElem?_eq_some_iff.1 hv).1
 refine (h.cellAt (i * k + j) ?_).trans (flat_at hk xs i x hx j v hv)
 have : (i + 1) * k ≤ n * k := Nat.mul_le_mul_right _ hl
 rw [Nat.add_mul] at this
 omega
/-- A slice with its capacity. -/
def Slc {α : Type} (k : Nat) (enc : α → List Value) (w : World) (p : Option Addr) (n c : Nat) (xs : List α) : Prop :=
 Sl k enc w p n xs ∧ n ≤ c ∧ (p = none → n = 0) ∧ ∀ a, p = some a → ∃ b off, a = ⟨b, off, none⟩ ∧ b < w.heap.size
theorem Slc.ext {α : Type} {k : Nat} {enc : α → List Value} {w w' : World} {p : Option Addr} {n c : Nat} {xs : List α} (h : Slc k enc w p n c xs) (he : Ext w w') : Slc k enc w' p n c xs :=
 ⟨h.1.ext he, h.2.1, h.2.2.1, fun a ha => let ⟨b, off, e, hb⟩ := h.2.2.2 a ha; ⟨b, off, e, Nat.lt_of_lt_of_le hb he.size⟩⟩
theorem Slc.nil {α : Type} (k : Nat) (enc : α → List Value) (w : World) : Slc k enc w none 0 0 [] := ⟨⟨rfl, by decide, fun h => absurd rfl h⟩, Nat.le_refl _, fun _ => rfl, fun a ha => by cases ha⟩
theorem slc_of_own {α : Type} {k : Nat} {enc : α → List Value} (hk : ∀ x, (enc x).length = k) {w : World} {base : Nat} {e : TypeId} {v : Value} {n : Nat} {xs : List α} (h : w.ownsRow base e k v n (xs.flatMap enc)) (hk0 : 0 < k) (hn : n ≤ 1000000000) :
 ∃ p c, v = .slice p n c ∧ Slc k enc w p n c xs := by
 obtain ⟨p, c, rfl, hS, _⟩ := sl_of_own hk h hk0 hn
 refine ⟨p, c, rfl, hS, ?_⟩
 rcases h.2 with ⟨h1, rfl⟩ | ⟨g, cap, cur, h1, _, hg, hnc, _⟩
 ·cases h1
  exact ⟨Nat.zero_le _, fun _ => rfl, fun a ha => by cases ha⟩
 ·cases h1
  exact ⟨hnc, fun h => by (cases h), fun a ha => by cases ha; exact ⟨g, 0, rfl, (Array.getElem?_eq_some_iff.1 hg).1⟩⟩
end Go.Proofs.YtkjhbofbcmelgaaGreatDoor
namespace Go.Proofs.YtkjhbofbcmelgaaGreatDoor
open Go Go.RowKit
theorem own_low {w : World} {base base' k n : Nat} {e : TypeId} {v : Value} {xs : List Value} (h : w.ownsRow base' e k v n xs) (hb : base ≤ base') : w.ownsRow base e k v n xs :=
 ⟨h.1, h.2.imp id fun ⟨g, cap, cur, hv, hg, r⟩ => ⟨g, cap, cur, hv, Nat.le_trans hb hg, r⟩⟩
theorem own_no {w : World} {base k n g : Nat} {t e : TypeId} {v : Value} {xs : List Value} {cs : Array Value} (ho : w.ownsRow base e k v n xs) (h : Blk w g t cs) (ht : t ≠ e) : v.ownBlock ≠ some g := by
 rcases ho.2 with ⟨rfl, _⟩ | ⟨b, cap, cur, rfl, _, h3, _⟩
 ·simp [Value.ownBlock]
 ·intro e1
  have e2 : b = g := by simpa [Value.ownBlock] using e1
  subst e2
  unfold Blk at h
  rw [h3] at h
  simp at h
  exact ht h.2.symm
theorem grown_set (w : World) (p : Addr) (u : Value) : w.grownBy (w.setCell p u) (some p.block) :=
 ⟨rfl, rfl, rfl, by simp [World.setCell], fun k _ h => Below.heap_setCell w p u k fun e => h (e ▸ rfl)⟩
theorem slcC {α : Type} {k : Nat} {enc : α → List Value} {w : World} {p : Option Addr} {n c : Nat} {xs : List α} (h : Slc k enc w p n c xs) :
 n = xs.length ∧ ((p = none ∧ xs = []) ∨ ∃ b off, p = some ⟨b, off, none⟩ ∧ b < w.heap.size ∧ Elems k enc w b off xs) := by
 obtain ⟨⟨h1, h2, h3⟩, h4, h5, h6⟩ := h
 refine ⟨h1.symm, ?_⟩
 cases p with
 | none => exact .inl ⟨rfl, List.eq_nil_of_length_eq_zero (by rw [h1]; exact h5 rfl)⟩
 | some a =>
   obtain ⟨b, off, rfl, hb⟩ := h6 a rfl
   refine .inr ⟨b, off, rfl, hb, ?_⟩
   by_cases hn : n = 0
   ·obtain rfl : xs = [] := List.eq_nil_of_length_eq_zero (by omega)
    intro i x hx
    cases hx
   ·obtain ⟨b', off', e, _, hE⟩ := h3 hn
    cases e
    exact hE
end Go.Proofs.YtkjhbofbcmelgaaGreatDoor
namespace Go.Proofs.YtkjhbofbcmelgaaGreatDoor
open Go Go.RowKit
set_option maxRecDepth 100000 in
theorem flip_any (s k m : Nat) (w : World) (hk : k ≤ 1000000) (hm : 1 ≤ m) (hm' : m ≤ 1000000) (h : Str w s k) :
 Calls Tryz.prog 40 #[.pointer (some ⟨s, 0, none⟩), .int .i64 m] w fun e w' => ∃ b : Bool, e = .returned (.bool b) ∧ Str w' s (k + 1) ∧ ExtS s w w' := by
 go_enter Tryz.func40, Tryz.ntmps40
 go_wp2_with (go_at_call 56; refine (next_any s k m _ hk hm (by omega) h).mono ?_; rintro e w1 ⟨v, rfl, hv, hS, hE⟩)
 go_ret
 exact ⟨_, rfl, hS, hE⟩
set_option maxRecDepth 100000 in
theorem range_any (s k : Nat) (lo hi : Int) (w : World) (hk : k ≤ 1000000) (hl : lo ≤ hi) (h0 : -1000000 ≤ lo) (h1 : hi ≤ 1000000000) (hd : hi - lo < 1000000000) (h : Str w s k) :
 Calls Tryz.prog 39 #[.pointer (some ⟨s, 0, none⟩), .int .i64 lo, .int .i64 hi] w fun e w' => ∃ v : Int, e = .returned (.int .i64 v) ∧ lo ≤ v ∧ v ≤ hi ∧ Str w' s (k + 1) ∧ ExtS s w w' := by
 obtain ⟨m, hm⟩ : ∃ m : Nat, hi - lo + 1 = m := ⟨(hi - lo + 1).toNat, by omega⟩
 have hN := next_any s k m w hk (by omega) (by omega) h
 replace hN := Lib.hid hN
 go_enter Tryz.func39, Tryz.ntmps39
 go_wp2_with (go_at_call 56; with_reducible refine Calls.mono hN.out ?_; rintro e w1 ⟨v, rfl, hv, hS, hE⟩)
 go_ret
 exact ⟨_, rfl, by omega, by omega, hS, hE⟩
set_option maxRecDepth 100000 in
theorem pick_any (s k b off cap : Nat) (xs : List Int) (w : World) (hk : k ≤ 1000000) (hn : 1 ≤ xs.length) (hn' : xs.length ≤ 1000000) (h : Str w s k) (hb : b < w.heap.size) (hs : b ≠ s)
 (hc : ∀ i, i < xs.length → w.cell? ⟨b, off + i, none⟩ = some (.int .i64 (xs.getD i 0))) :
 Calls Tryz.prog 10 #[.pointer (some ⟨s, 0, none⟩), .slice (some ⟨b, off, none⟩) xs.length cap] w fun e w' =>
  ∃ v : Nat, v < xs.length ∧ e = .returned (.int .i64 (xs.getD v 0)) ∧ Str w' s (k + 1) ∧ ExtS s w w' := by
 have hN := next_any s k xs.length w hk hn (by omega) h
 replace hN := Lib.hid hN; replace hc := Lib.hid hc
 go_enter Tryz.func10, Tryz.ntmps10
 go_wp2_with (go_at_call 56; refine hN.out.mono ?_; rintro e w1 ⟨v, rfl, hv, hS, hE⟩; have hx := (hE.cell hb hs (off + v)).trans (hc.out v hv))
 go_ret
 exact ⟨v, hv, ret_int (by simp [hv]), hS, hE⟩
theorem pick_blk (s k b t cap : Nat) (xs : List Int) (w : World) (hk : k ≤ 1000000) (hn : 1 ≤ xs.length) (hn' : xs.length ≤ 1000000) (h : Str w s k) (hs : b ≠ s) (hb : Blk w b t (xs.map (Value.int .i64)).toArray) :
 Calls Tryz.prog 10 #[.pointer (some ⟨s, 0, none⟩), .slice (some ⟨b, 0, none⟩) xs.length cap] w fun e w' =>
  ∃ v : Nat, v < xs.length ∧ e = .returned (.int .i64 (xs.getD v 0)) ∧ Str w' s (k + 1) ∧ ExtS s w w' :=
 pick_any s k b 0 cap xs w hk hn hn' h hb.lt hs fun i hi => by rw [hb.cell]; simp [hi]
theorem odd_pick (lo hi : Int) (h0 : -1000000 ≤ lo) (h1 : hi ≤ 1000000000) (hl : lo ≤ hi) (v : Nat) (hv : v < 6) :
 -1099511627776 ≤ [lo - 1, hi + 1, lo, hi, -1099511627776,1099511627776].getD v 0 ∧ [lo - 1, hi + 1, lo, hi, -1099511627776,1099511627776].getD v 0 ≤ 1099511627776 := by
 have : v = 0 ∨ v = 1 ∨ v = 2 ∨ v = 3 ∨ v = 4 ∨ v = 5 := by omega
 rcases this with rfl | rfl | rfl | rfl | rfl | rfl <;> simp <;> omega
set_option maxRecDepth 100000 in
theorem odd_any (s k : Nat) (lo hi : Int) (w : World) (hk : k ≤ 999999) (hl : lo ≤ hi) (h0 : -1000000 ≤ lo) (h1 : hi ≤ 1000000000) (hd : hi - lo < 1000000000) (h : Str w s k) :
 Calls Tryz.prog 55 #[.pointer (some ⟨s, 0, none⟩), .int .i64 lo, .int .i64 hi] w fun e w' => ∃ v : Int, e = .returned (.int .i64 v) ∧ -1099511627776 ≤ v ∧ v ≤ 1099511627776 ∧ Str w' s (k + 2) ∧ ExtS s w w' := by
 go_enter Tryz.func55, Tryz.ntmps55
 go_wp2_with (first
  | (go_at_call 40; refine (flip_any s k 12 _ (by omega) (by omega) (by omega) h).mono ?_; rintro e w1 ⟨b, rfl, hS, hE⟩; cases b)
  | (go_at_call 39; refine (range_any s (k + 1) lo hi _ (by omega) hl h0 h1 hd hS).mono ?_; rintro e w2 ⟨v, rfl, hv1, hv2, hS2, hE2⟩)
  | (go_at_call 10; have l1 := hS.lt; refine (pick_blk s (k + 1) _ _ 6 [lo - 1, hi + 1, lo, hi, -1099511627776,1099511627776] _ (by omega) (by simp) (by simp) (hS.ext (Ext.alloc (Ext.refl _) _)) (Nat.ne_of_gt l1) (Blk.new' rfl)).mono ?_; rintro e w2 ⟨v, hv, rfl, hS2, hE2⟩))
 ·go_ret
  exact ⟨_, rfl, by omega, by omega, hS2, hE.trans hE2⟩
 ·have hp := odd_pick lo hi h0 h1 hl v hv
  go_ret
  exact ⟨_, rfl, hp.1, hp.2, hS2, hE.trans (((ExtS.refl _ _).alloc _).trans hE2)⟩
end Go.Proofs.YtkjhbofbcmelgaaGreatDoor
namespace Go.Proofs.YtkjhbofbcmelgaaGreatDoor
open Go Go.RowKit
theorem pick_in (s k b t cap : Nat) (xs : List Int) (lo hi : Int) (w : World) (hk : k ≤ 1000000) (hn : 1 ≤ xs.length) (hn' : xs.length ≤ 1000000) (h : Str w s k) (hs : b ≠ s) (hb : Blk w b t (xs.map (Value.int .i64)).toArray) (hx : ∀ y ∈ xs, lo ≤ y ∧ y ≤ hi) :
 Calls Tryz.prog 10 #[.pointer (some ⟨s, 0, none⟩), .slice (some ⟨b, 0, none⟩) xs.length cap] w fun e w' =>
  ∃ y : Int, lo ≤ y ∧ y ≤ hi ∧ e = .returned (.int .i64 y) ∧ Str w' s (k + 1) ∧ ExtS s w w' :=
 (pick_blk s k b t cap xs w hk hn hn' h hs hb).mono fun e w' ⟨v, hv, he, hS, hE⟩ => by
   have hm : xs.getD v 0 ∈ xs := by rw [List.getD_eq_getElem?_getD, List.getElem?_eq_getElem hv]; exact List.getElem_mem hv
   exact ⟨_, (hx _ hm).1, (hx _ hm).2, he, hS, hE⟩
set_option maxRecDepth 100000 in
theorem somes_any (s k b t cap : Nat) (xs : List ByteArray) (w : World) (hk : k ≤ 1000000) (hn : 1 ≤ xs.length) (hn' : xs.length ≤ 1000000) (h : Str w s k) (hs : b ≠ s) (hb : Blk w b t (xs.map Value.string).toArray) :
 Calls Tryz.prog 9 #[.pointer (some ⟨s, 0, none⟩), .slice (some ⟨b, 0, none⟩) xs.length cap] w fun e w' =>
  ∃ y ∈ xs, e = .returned (.string y) ∧ Str w' s (k + 1) ∧ ExtS s w w' := by
 have hN := next_any s k xs.length w hk hn (by omega) h
 have hc : ∀ i, i < xs.length → w.cell? ⟨b, i, none⟩ = some (.string (xs.getD i ⟨#[]⟩)) := fun i hi => by rw [hb.cell]; simp [hi]
 have hbl := hb.lt
 clear hb; replace hN := Lib.hid hN; replace hc := Lib.hid hc
 go_enter Tryz.func9, Tryz.ntmps9
 go_wp2_with (go_at_call 56; refine hN.out.mono ?_; rintro e w1 ⟨v, rfl, hv, hS, hE⟩; have hx := (hE.cell hbl hs v).trans (hc.out v hv))
 go_ret
 refine ⟨xs.getD v ⟨#[]⟩, ?_, by simp [hv], hS, hE⟩
 rw [List.getD_eq_getElem?_getD, List.getElem?_eq_getElem hv]
 exact List.getElem_mem hv
theorem ExtS.grownBy {s : Nat} {a b : World} (h : ExtS s a b) : a.grownBy b (some s) := ⟨h.1, h.2.1, h.2.2.1, h.2.2.2.1, fun k hk hn => h.2.2.2.2 k hk fun e => hn (by rw [e])⟩
theorem own_extS {s : Nat} {a b : World} (h : ExtS s a b) {base : Nat} {e : TypeId} {k n : Nat} {v : Value} {xs : List Value} (hs : s < base) (ho : a.ownsRow base e k v n xs) : b.ownsRow base e k v n xs :=
 ho.kept h.grownBy (.inr fun hv => by have := (ho.lt s hv).1; omega)
theorem ExtS.app {s : Nat} {a b c : World} {base : Nat} {e : TypeId} {k n : Nat} {v : Value} {xs : List Value} (h : ExtS s a b) (ho : b.ownsRow base e k v n xs) (hb : a.heap.size ≤ base) (hg : b.grownBy c v.ownBlock) : ExtS s a c :=
 ⟨hg.os.trans h.1, hg.tape.trans h.2.1, hg.output.trans h.2.2.1, Nat.le_trans h.2.2.2.1 hg.size, fun j hj hn => (hg.block j (Nat.lt_of_lt_of_le hj h.2.2.2.1) fun hv => by have := (ho.lt j hv.symm).1; omega).trans (h.2.2.2.2 j hj hn)⟩
theorem Str.app {s q : Nat} {b c : World} {base : Nat} {e : TypeId} {k n : Nat} {v : Value} {xs : List Value} (h : Str b s q) (ho : b.ownsRow base e k v n xs) (hs : s < base) (hg : b.grownBy c v.ownBlock) : Str c s q :=
 h.low fun j hj => hg.block j (Nat.lt_of_le_of_lt hj h.lt) fun hv => by have := (ho.lt j hv.symm).1; omega
theorem Slc.extS {α : Type} {k : Nat} {enc : α → List Value} {w w' : World} {s : Nat} {p : Option Addr} {n c : Nat} {xs : List α} (h : Slc k enc w p n c xs) (he : ExtS s w w') (hp : ∀ a, p = some a → a.block ≠ s) : Slc k enc w' p n c xs := by
 obtain ⟨⟨h1, h2, h3⟩, h4, h5, h6⟩ := h
 refine ⟨⟨h1, h2, fun hn => ?_⟩, h4, h5, fun a ha => let ⟨b, off, e, hb⟩ := h6 a ha; ⟨b, off, e, Nat.lt_of_lt_of_le hb he.2.2.2.1⟩⟩
 obtain ⟨b, off, rfl, hb, hE⟩ := h3 hn
 exact ⟨b, off, rfl, Nat.lt_of_lt_of_le hb he.2.2.2.1, fun i x hx j v hv => (he.cell hb (hp _ rfl) _).trans (hE i x hx j v hv)⟩
end Go.Proofs.YtkjhbofbcmelgaaGreatDoor
