/- What the rows of the laws share: the argument's list. Conditions: none. Slices in memory; the first error of a scan. Conditions: none. Maps of bools that the call made. Conditions: none. Appending one element to a slice of the call's own. Conditions: as each theorem says. A cell of an element that is set, in a row of elements. Conditions: as each theorem says. -/
import Derived.Test.YtkjhbofbcmelgaaGreatDoorRows
import Derived.Test.YtkjhbofbcmelgaaGreatDoorFzJ2
import Derived.ProofKit
import Derived.OpenShut
import Derived.ChangeOld
import Derived.ChangeSame
import Derived.ChangeVars
import Derived.JoinedOf
import Derived.LaidLaws
import Derived.LaidHandle
import Derived.MakeChecks
import Derived.Lib.LaidTab
import Derived.Stop.Joined
import Derived.Below
import Derived.Lay
import Derived.Maps.OwnOps
import Derived.OwnWalk
import Derived.Deep.AppendLies
set_option linter.unusedSimpArgs false
set_option linter.unusedVariables false
namespace Go.Proofs.YtkjhbofbcmelgaaGreatDoor
open Go.ChangeShapes Go.WideShapes Go.ChangeAt Go.RowKit
theorem own : ownKnob Tryz.prog.godebug = none := by kernel_rfl
theorem laidOut : laidOutB Tryz.prog = true := by kernel_rfl
theorem lst_of_row {W : World} {x : Addr} {len cap : Nat} {zs : List Int} (hl : len ≤ cap) (hm : cap ≤ maxLen) (hz : zs.length = cap) (hc : ∀ i, i < zs.length → W.cell? (x.add i) = some (.int .i64 (zs.getD i 0))) (hw : ∀ n ∈ zs, (Lit.int .i64 n).wf = true) :
 Lst W W.heap.size (some x) len := by
 refine ⟨Nat.le_trans (Nat.le_trans hl hm) (by decide), fun hn => ?_⟩
 obtain ⟨B, off, sp⟩ := x
 have h0 := hc 0 (by omega)
 have hs : sp = none := by
  cases sp with
  | none => rfl
  | some q => simp [Addr.add, World.cell?] at h0; split at h0 <;> simp at h0
 subst hs
 have hadd : ∀ i, (⟨B, off, none⟩ : Addr).add i = ⟨B, off + i, none⟩ := fun i => by
  unfold Addr.add
  split
  ·subst_vars; rfl
  ·rfl
 have hB : B < W.heap.size := by
  rcases Nat.lt_or_ge B W.heap.size with h | h
  ·exact h
  ·rw [hadd] at h0
   simp [World.cell?, Array.getElem?_eq_none h] at h0
 refine ⟨B, off, rfl, hB, fun i hi => ⟨zs.getD i 0, by rw [← hadd]; exact hc i (by omega), ?_⟩⟩
 have hi' : i < zs.length := by omega
 have hg : zs.getD i 0 = zs[i] := by simp [hi']
 have := hw (zs.getD i 0) (by rw [hg]; exact List.getElem_mem _)
 simp [Lit.wf, IntKind.min, IntKind.max] at this
 first | omega | exact this
end Go.Proofs.YtkjhbofbcmelgaaGreatDoor
namespace Go.Proofs.YtkjhbofbcmelgaaGreatDoor
open Go Go.RowKit
/-- Elements of k cells each, from a place on. -/
def Elems {α : Type} (k : Nat) (enc : α → List Value) (w : World) (b off : Nat) (xs : List α) : Prop :=
 ∀ i x, xs[i]? = some x → ∀ j v, (enc x)[j]? = some v → w.cell? ⟨b, off + i * k + j, none⟩ = some v
theorem Elems.ext {α : Type} {k : Nat} {enc : α → List Value} {w w' : World} {b off : Nat} {xs : List α} (h : Elems k enc w b off xs) (he : Ext w w') (hb : b < w.heap.size) : Elems k enc w' b off xs := fun i x hx j v hv => by
 obtain ⟨hc, _, _⟩ := he.walk
 exact (hc _ _ hb).trans (h i x hx j v hv)
/-- A slice of n elements. -/
def Sl {α : Type} (k : Nat) (enc : α → List Value) (w : World) (p : Option Addr) (n : Nat) (xs : List α) : Prop :=
 xs.length = n ∧ n ≤ 1000000000 ∧ (n ≠ 0 → ∃ b off, p = some ⟨b, off, none⟩ ∧ b < w.heap.size ∧ Elems k enc w b off xs)
theorem Sl.ext {α : Type} {k : Nat} {enc : α → List Value} {w w' : World} {p : Option Addr} {n : Nat} {xs : List α} (h : Sl k enc w p n xs) (he : Ext w w') : Sl k enc w' p n xs :=
 ⟨h.1, h.2.1, fun hn => let ⟨b, off, hp, hb, hE⟩ := h.2.2 hn; ⟨b, off, hp, Nat.lt_of_lt_of_le hb he.size, hE.ext he hb⟩⟩
def strC (s : ByteArray) : List Value := [.string s]
theorem Elems.str {w : World} {b off : Nat} {xs : List ByteArray} (h : Elems 1 strC w b off xs) {i : Nat} {s : ByteArray} (hs : xs[i]? = some s) : w.cell? ⟨b, off + i, none⟩ = some (.string s) := by
 have := h i s hs 0 (.string s) rfl
 simpa using this
/-- The first number of a scan that is not 0. -/
def scanF (n : Nat) (f : Nat → Int) : Int := orF ((List.range n).map f)
def Zeros (f : Nat → Int) (k : Nat) : Prop := ∀ j, j < k → f j = 0
theorem Zeros.zeroTo {f : Nat → Int} {k n : Nat} (h : Zeros f k) (hk : k ≤ n) : ZeroTo ((List.range n).map f) k := fun j hj => by
 rw [List.getD_eq_getElem?_getD, List.getElem?_map, List.getElem?_range (by omega)]
 exact h j hj
theorem scan_at {n : Nat} {f : Nat → Int} (k : Nat) (hk : k < n) (h : Zeros f k) (hx : f k ≠ 0) : scanF n f = f k := by
 have e : ((List.range n).map f).getD k 0 = f k := by rw [List.getD_eq_getElem?_getD, List.getElem?_map, List.getElem?_range hk]; rfl
 rw [← e] at hx ⊢
 exact orF_at _ k (by simpa using hk) (h.zeroTo (by omega)) hx
theorem scan_zero {n : Nat} {f : Nat → Int} (h : Zeros f n) : scanF n f = 0 := orF_zero _ n (by simp) (h.zeroTo (Nat.le_refl _))
theorem Zeros.succ {f : Nat → Int} {k : Nat} (h : Zeros f k) (hx : f k = 0) : Zeros f (k + 1) := fun j hj => by
 rcases Nat.lt_or_ge j k with hlt | hge
 ·exact h j hlt
 ·obtain rfl : j = k := by omega
  exact hx
theorem scan_is {n k : Nat} {f : Nat → Int} {v : Int} (hz : Zeros f k) (hk : k < n) (hv : f k = v) (h0 : v ≠ 0) : v = scanF n f := by
 rw [scan_at k hk hz (by rw [hv]; exact h0), hv]
def atL {α : Type} (d : α) (xs : List α) (i : Nat) : α := xs.getD i d
theorem atL_of {α : Type} {d : α} {xs : List α} {i : Nat} {x : α} (h : xs[i]? = some x) : atL d xs i = x := by unfold atL; rw [List.getD_eq_getElem?_getD, h]; rfl
theorem getD_some {α : Type} {xs : List α} {i n : Nat} (h : xs.length = n) (hi : i < n) : ∃ x, xs[i]? = some x := ⟨_, List.getElem?_eq_getElem (by omega)⟩
/-- Go's <= on strings. -/
def leB (s t : ByteArray) : Bool := Op.bytesLess s.toList t.toList || (s.toList == t.toList)
end Go.Proofs.YtkjhbofbcmelgaaGreatDoor
namespace Go.Proofs.YtkjhbofbcmelgaaGreatDoor
open Go Go.RowKit Go.Maps
theorem Ext.grown {a b c : World} (h : Ext a b) {row : Option Nat} (hg : b.grownBy c row) (hr : ∀ k, row = some k → a.heap.size ≤ k) : Ext a c := Below.grown h hg h.size hr
end Go.Proofs.YtkjhbofbcmelgaaGreatDoor
namespace Go.Proofs.YtkjhbofbcmelgaaGreatDoor
open Go Go.RowKit
theorem Ext.app {a b c : World} {base : Nat} {e : TypeId} {k n : Nat} {v : Value} {xs : List Value} (h : Ext a b) (ho : b.ownsRow base e k v n xs) (hb : a.heap.size ≤ base) (hg : b.grownBy c v.ownBlock) : Ext a c := h.grown hg fun j hj => Nat.le_trans hb (ho.lt j hj).1
theorem Blk.app {b c : World} {base g : Nat} {t e : TypeId} {k n : Nat} {v : Value} {xs : List Value} {cs : Array Value} (h : Blk b g t cs) (ho : b.ownsRow base e k v n xs) (hb : g < base) (hg : b.grownBy c v.ownBlock) : Blk c g t cs :=
 (hg.block g h.lt fun e => by have := (ho.lt g e.symm).1; omega).trans h
theorem World.grownBy_of_ext {a b : World} (h : Ext a b) : a.grownBy b none := ⟨h.os, h.tape, h.output, h.size, fun k hk _ => h.block k hk⟩
theorem own_ext {a b : World} (h : Ext a b) {base : Nat} {e : TypeId} {k n : Nat} {v : Value} {xs : List Value} (ho : a.ownsRow base e k v n xs) : b.ownsRow base e k v n xs := ho.kept (World.grownBy_of_ext h) (by cases hv : v.ownBlock <;> simp)
/-- 'out = append(out, x)'. -/
theorem wp_app1 {P : Program} (w : World) {ops : Array Oper} {rest : List Oper} {o : Oper} {a : Act} {Q : Exit → Act → World → Prop} (s x : Operand) (t e : TypeId) (size bytes : Nat) (z : Value) (hgd : o.guard = none)
 (ho : o.op = .call { callee := .builtin .append, args := #[s, x], argTypes := #[t, t] })
 (ht : P.underlying t = some (.slice e)) (hinfo : (P.info? e).map (fun i => (i.zero, i.size, i.bytes)) = some (some z, size, bytes)) (hzs : z.cells.size = size) (hsz : 0 < size) (hby : bytes ≤ 1000)
 (base : Nat) (v : Value) (n : Nat) (xs : List Value) (hs : a.eval s = v) (hown : w.ownsRow base e size v n xs)
 (g : Nat) (news : List Value) (hx : a.eval x = .slice (some ⟨g, 0, none⟩) 1 1) (hl : news.length = size) (hB : Blk w g e news.toArray) (h1 : ∀ u ∈ news, u.oneCell' = true)
 (hn : n ≤ 1000000000) (hbase : base ≤ w.heap.size)
 (h : ∀ v' w', w'.ownsRow base e size v' (n + 1) (xs ++ news) → w.grownBy w' v.ownBlock → (v' = .slice none 0 0 → False) → wpList P ops Q rest (a.put o.dst v') w') : wpList P ops Q (o :: rest) a w := by
 obtain ⟨i0, hi, hz0, hz1, hz2⟩ := info_parts hinfo
 refine wpList_append_own w hgd s x t ho base e i0 z size bytes ht hi hz0 hz1 hz2 hzs hsz v n xs hs hown ⟨g, 0, none⟩ 1 1 news hx (by omega) (fun j u hu => ?_) h1 ?_ ?_ hbase (fun v' w' h2 h3 h4 => h v' w' h2 h3 fun h5 => ?_)
 ·have : (⟨g, 0, none⟩ : Addr).add j = ⟨g, j, none⟩ := by unfold Addr.add; split <;> simp_all
  rw [this, hB.cell j]
  simpa using hu
 ·unfold maxLen; omega
 ·have : (n + 1) * bytes ≤ 1000000001 * 1000 := Nat.mul_le_mul (by omega) hby
  omega
 ·have := (h4.1 h5).2
  omega
theorem flat_at {α : Type} {k : Nat} {enc : α → List Value} (hk : ∀ x, (enc x).length = k) : ∀ (xs : List α) (i : Nat) (x : α), xs[i]? = some x → ∀ (j : Nat) (v : Value), (enc x)[j]? = some v → (xs.flatMap enc)[i * k + j]? = some v
 | [], _, _, h, _, _, _ => by simp at h
 | y :: ys, 0, x, h, j, v, hv => by
   obtain rfl : y = x := by simpa using h
   have hj : j < (enc y).length := (List.getElem?_eq_some_iff.1 hv).1
   rw [List.flatMap_cons, Nat.zero_mul, Nat.zero_add, List.getElem?_append_left hj]
   exact hv
 | y :: ys, i + 1, x, h, j, v, hv => by
   have ih := flat_at hk ys i x (by simpa using h) j v hv
   have e : (i + 1) * k + j = (enc y).length + (i * k + j) := by rw [hk, Nat.add_mul]; omega
   rw [List.flatMap_cons, e, List.getElem?_append_right (by omega), Nat.add_sub_cancel_left]
   exact ih
/-- A slice of the call's own, read as a slice. -/
theorem sl_of_own {α : Type} {k : Nat} {enc : α → List Value} (hk : ∀ x, (enc x).length = k) {w : World} {base : Nat} {e : TypeId} {v : Value} {n : Nat} {xs : List α} (h : w.ownsRow base e k v n (xs.flatMap enc)) (hk0 : 0 < k) (hn : n ≤ 1000000000) :
 ∃ p c, v = .slice p n c ∧ Sl k enc w p n xs ∧ (∀ g, v.ownBlock = some g → base ≤ g) := by
 have hlen : xs.length = n := by
  have h1 := h.1
  have h2 : ∀ (l : List α), (l.flatMap enc).length = l.length * k := by
   intro l
   induction l with
   | nil => simp
   | cons y ys ih => rw [List.flatMap_cons, List.length_append, ih, hk, List.length_cons, Nat.add_mul]; omega
  rw [h2] at h1
  exact Nat.eq_of_mul_eq_mul_right hk0 h1
 have hlt := h.lt
 rcases h.2 with ⟨rfl, rfl⟩ | ⟨g, cap, cur, rfl, hb, hg, hnc, hcm, hcs, htake⟩
 ·exact ⟨none, 0, rfl, ⟨hlen, hn, fun h => absurd rfl h⟩, fun g hg => by simp [Value.ownBlock] at hg⟩
 ·refine ⟨_, cap, rfl, ⟨hlen, hn, fun _ => ⟨g, 0, rfl, (Array.getElem?_eq_some_iff.1 hg).1, fun i x hx j u hu => ?_⟩⟩, fun q hq => (hlt q hq).1⟩
  have h1 := flat_at hk xs i x hx j u hu
  have h2 := h.cells (g := g) rfl (i * k + j) u h1
  have : (⟨g, 0, none⟩ : Addr).add (i * k + j) = ⟨g, i * k + j, none⟩ := by unfold Addr.add; split <;> simp_all
  rw [this] at h2
  rw [Nat.zero_add]
  exact h2
theorem flat_snoc {α : Type} {enc : α → List Value} (xs : List α) (x : α) : (xs ++ [x]).flatMap enc = xs.flatMap enc ++ enc x := by simp [List.flatMap_append]
theorem take_snocL {α : Type} {xs : List α} {k : Nat} {x : α} (h : xs[k]? = some x) : xs.take (k + 1) = xs.take k ++ [x] := by
 obtain ⟨hk, rfl⟩ := List.getElem?_eq_some_iff.1 h
 exact List.take_succ_eq_append_getElem hk
end Go.Proofs.YtkjhbofbcmelgaaGreatDoor
namespace Go.Proofs.YtkjhbofbcmelgaaGreatDoor
open Go Go.RowKit
theorem flat_split {α : Type} {k : Nat} {enc : α → List Value} (hk : ∀ x, (enc x).length = k) {xs : List α} {i : Nat} {x : α} (h : xs[i]? = some x) :
 ∃ pre post, pre.length = i * k ∧ xs.flatMap enc = pre ++ (enc x ++ post) ∧ ∀ y, (xs.set i y).flatMap enc = pre ++ (enc y ++ post) := by
 obtain ⟨hi, e⟩ := List.getElem?_eq_some_iff.1 h
 have hl : ∀ (l : List α), (l.flatMap enc).length = l.length * k := by
  intro l
  induction l with
  | nil => simp
  | cons y ys ih => rw [List.flatMap_cons, List.length_append, ih, hk, List.length_cons, Nat.add_mul]; omega
 refine ⟨(xs.take i).flatMap enc, (xs.drop (i + 1)).flatMap enc, ?_, ?_, fun y => ?_⟩
 ·rw [hl, List.length_take, Nat.min_eq_left (by omega)]
 ·have e1 : xs = xs.take i ++ (x :: xs.drop (i + 1)) := by
   rw [← e, ← List.drop_eq_getElem_cons hi, List.take_append_drop]
  have e2 := congrArg (List.flatMap enc) e1
  rw [List.flatMap_append, List.flatMap_cons] at e2
  exact e2
 ·rw [List.set_eq_take_append_cons_drop, if_pos hi, List.flatMap_append, List.flatMap_cons]
theorem set_mid (pre mid post : List Value) (j : Nat) (hj : j < mid.length) (v : Value) : (pre ++ (mid ++ post)).set (pre.length + j) v = pre ++ (mid.set j v ++ post) := by
 rw [List.set_append_right _ _ (by omega), Nat.add_sub_cancel_left, List.set_append_left _ _ hj]
/-- One cell of the i-th element. -/
theorem flat_set1 {α : Type} {k : Nat} {enc : α → List Value} (hk : ∀ x, (enc x).length = k) {xs : List α} {i : Nat} {x y : α} (h : xs[i]? = some x) (j : Nat) (hj : j < k) (v : Value) (he : enc y = (enc x).set j v) :
 (xs.flatMap enc).set (i * k + j) v = (xs.set i y).flatMap enc := by
 obtain ⟨pre, post, h1, h2, h3⟩ := flat_split hk h
 rw [h2, h3, he, ← h1]
 exact set_mid _ _ _ j (by rw [hk]; exact hj) v
/-- A row of the call's own, a cell of the i-th element set. -/
theorem own_set1 {α : Type} {k : Nat} {enc : α → List Value} (hk : ∀ x, (enc x).length = k) {w : World} {base : Nat} {e : TypeId} {g n cap : Nat} {xs : List α} (h : w.ownsRow base e k (.slice (some ⟨g, 0, none⟩) n cap) n (xs.flatMap enc))
 {i : Nat} {x : α} (y : α) (hx : xs[i]? = some x) (j : Nat) (hj : j < k) (v : Value) (he : enc y = (enc x).set j v) : (w.setCell ⟨g, i * k + j, none⟩ v).ownsRow base e k (.slice (some ⟨g, 0, none⟩) n cap) n ((xs.set i y).flatMap enc) := by
 rw [← flat_set1 hk hx j hj v he]
 exact (h.stored (i * k + j) v).1
theorem own_cell {α : Type} {k : Nat} {enc : α → List Value} (hk : ∀ x, (enc x).length = k) {w : World} {base : Nat} {e : TypeId} {g n cap : Nat} {xs : List α} (h : w.ownsRow base e k (.slice (some ⟨g, 0, none⟩) n cap) n (xs.flatMap enc))
 {i : Nat} {x : α} (hx : xs[i]? = some x) (j : Nat) {v : Value} (hv : (enc x)[j]? = some v) (hl : i < n) : w.cell? ⟨g, i * k + j, none⟩ = some v := by
 have hj : j < k := by rw [← hk x]; exact (List.getElem?_eq_some_iff.1 hv).1
 refine (h.cellAt (i * k + j) ?_).trans (flat_at hk xs i x hx j v hv)
 have : (i + 1) * k ≤ n * k := Nat.mul_le_mul_right _ hl
 rw [Nat.add_mul] at this
 omega
/-- A slice with its capacity. -/
def Slc {α : Type} (k : Nat) (enc : α → List Value) (w : World) (p : Option Addr) (n c : Nat) (xs : List α) : Prop :=
 Sl k enc w p n xs ∧ n ≤ c ∧ (p = none → n = 0) ∧ ∀ a, p = some a → ∃ b off, a = ⟨b, off, none⟩ ∧ b < w.heap.size
theorem Slc.ext {α : Type} {k : Nat} {enc : α → List Value} {w w' : World} {p : Option Addr} {n c : Nat} {xs : List α} (h : Slc k enc w p n c xs) (he : Ext w w') : Slc k enc w' p n c xs :=
 ⟨h.1.ext he, h.2.1, h.2.2.1, fun a ha => let ⟨b, off, e, hb⟩ := h.2.2.2 a ha; ⟨b, off, e, Nat.lt_of_lt_of_le hb he.size⟩⟩
theorem Slc.nil {α : Type} (k : Nat) (enc : α → List Value) (w : World) : Slc k enc w none 0 0 [] := ⟨⟨rfl, by decide, fun h => absurd rfl h⟩, Nat.le_refl _, fun _ => rfl, fun a ha => by cases ha⟩
theorem slc_of_own {α : Type} {k : Nat} {enc : α → List Value} (hk : ∀ x, (enc x).length = k) {w : World} {base : Nat} {e : TypeId} {v : Value} {n : Nat} {xs : List α} (h : w.ownsRow base e k v n (xs.flatMap enc)) (hk0 : 0 < k) (hn : n ≤ 1000000000) :
 ∃ p c, v = .slice p n c ∧ Slc k enc w p n c xs := by
 obtain ⟨p, c, rfl, hS, _⟩ := sl_of_own hk h hk0 hn
 refine ⟨p, c, rfl, hS, ?_⟩
 rcases h.2 with ⟨h1, rfl⟩ | ⟨g, cap, cur, h1, _, hg, hnc, _⟩
 ·cases h1
  exact ⟨Nat.zero_le _, fun _ => rfl, fun a ha => by cases ha⟩
 ·cases h1
  exact ⟨hnc, fun h => by (cases h), fun a ha => by cases ha; exact ⟨g, 0, rfl, (Array.getElem?_eq_some_iff.1 hg).1⟩⟩
end Go.Proofs.YtkjhbofbcmelgaaGreatDoor
