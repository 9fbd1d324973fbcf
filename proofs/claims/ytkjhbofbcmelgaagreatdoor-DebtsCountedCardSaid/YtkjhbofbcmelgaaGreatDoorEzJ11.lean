/- Sorting: a stable sort by less is the sort by more; the orders of strings and numbers. Plain. Conditions: as each theorem says. Comparing in a region that draws. Conditions: as each theorem says. A row of elements of several cells, behind a sort; comparing in a region that draws. Conditions: as each theorem says. A whole slice is appended to a row of the call's own. Conditions: as each theorem says. Sorting by a number and then by a name; the stable sort by the number alone of what stands by names. Plain. Conditions: as each theorem says. -/
import Derived.Test.YtkjhbofbcmelgaaGreatDoorEzWayM
import Derived.Test.YtkjhbofbcmelgaaGreatDoorEzJ5
import Derived.Sort.LotA
import Derived.Test.YtkjhbofbcmelgaaGreatDoorEzJ7
import Derived.Test.YtkjhbofbcmelgaaGreatDoorEzJ3
import Derived.Sort.Grow
import Derived.Shelf.SlSortCmp.WholeK
set_option linter.unusedSimpArgs false
set_option linter.unusedVariables false
namespace Go.Proofs.YtkjhbofbcmelgaaGreatDoor
open Go Go.RowKit Go.Sort
theorem cb_anti : ∀ {a b : List UInt8}, Lib.compareBytes a b = 1 → Lib.compareBytes b a = -1
 | [],[], h => by cases h
 | [], _ :: _, h => by cases h
 | _ :: _, [], _ => rfl
 | a :: x, b :: y, h => by
   unfold Lib.compareBytes at h ⊢
   by_cases h1 : a < b
   ·rw [if_pos h1] at h; cases h
   ·rw [if_neg h1] at h
    by_cases h2 : b < a
    ·rw [if_pos h2]
    ·rw [if_neg h2] at h
     rw [if_neg h2, if_neg h1]
     exact cb_anti h
section
variable {α : Type} [Inhabited α] {lt lt2 : α → α → Bool}
theorem insInner_at (j : Nat) : ∀ (d : Array α), j < d.size → (insInner lt 0 j d).size = d.size ∧ (∀ p, p ≤ j → ∃ p', p' ≤ j ∧ (insInner lt 0 j d)[p]! = d[p']!) ∧ ∀ q, j < q → (insInner lt 0 j d)[q]! = d[q]! := by
 induction j with
 | zero => intro d _; exact ⟨rfl, fun p hp => ⟨p, hp, rfl⟩, fun q _ => rfl⟩
 | succ j ih =>
   intro d hj
   unfold insInner
   split
   ·have g := fun k => swp_get d hj (show j < d.size by omega) (k := k)
    obtain ⟨h1, h2, h3⟩ := ih (swp d (j + 1) j) (by rw [swp_size]; omega)
    refine ⟨by rw [h1, swp_size], fun p hp => ?_, fun q hq => ?_⟩
    ·by_cases hpj : p = j + 1
     ·refine ⟨j, by omega, ?_⟩
      rw [h3 p (by omega), hpj, g]
      simp
     ·obtain ⟨p', hp', e⟩ := h2 p (by omega)
      rw [e, g]
      by_cases e1 : p' = j
      ·exact ⟨j + 1, by omega, by simp [e1]⟩
      ·exact ⟨p', by omega, by simp [e1, show p' ≠ j + 1 by omega]⟩
    ·rw [h3 q (by omega), g]
     simp [show q ≠ j by omega, show q ≠ j + 1 by omega]
   ·exact ⟨rfl, fun p hp => ⟨p, hp, rfl⟩, fun q _ => rfl⟩
variable {R : α → α → Prop} (hR : ∀ x y, R x y → lt y x = lt2 y x)
include hR
theorem insInner_congr (j : Nat) : ∀ (d : Array α), j < d.size → (∀ p, p < j → R d[p]! d[j]!) → insInner lt 0 j d = insInner lt2 0 j d := by
 induction j with
 | zero => intro d _ _; rfl
 | succ j ih =>
   intro d hj h
   unfold insInner
   rw [hR _ _ (h j (by omega))]
   split
   ·refine ih _ (by rw [swp_size]; omega) fun p hp => ?_
    have g := fun k => swp_get d hj (show j < d.size by omega) (k := k)
    rw [g, g]
    simp only [show p ≠ j by omega, show p ≠ j + 1 by omega, if_false, if_true]
    exact h p (by omega)
   ·rfl
theorem insOuter_congr (b : Nat) : ∀ (n i : Nat) (d : Array α), b - i = n → b ≤ d.size → (∀ p q, p < q → i ≤ q → q < b → R d[p]! d[q]!) → insOuter lt 0 b i d = insOuter lt2 0 b i d := by
 intro n
 induction n with
 | zero => intro i d hn _ _; rw [insOuter, if_neg (show ¬ i < b by omega), insOuter, if_neg (show ¬ i < b by omega)]
 | succ n ih =>
   intro i d hn hb h
   rw [insOuter, if_pos (by omega)]
   conv => rhs; rw [insOuter, if_pos (show i < b by omega)]
   rw [← insInner_congr hR i d (by omega) fun p hp => h p i hp (Nat.le_refl _) (by omega)]
   obtain ⟨h1, h2, h3⟩ := insInner_at (lt := lt) i d (by omega)
   refine ih (i + 1) _ (by omega) (by rw [h1]; exact hb) fun p q hpq hiq hqb => ?_
   rw [h3 q (by omega)]
   by_cases hpi : p ≤ i
   ·obtain ⟨p', hp', e⟩ := h2 p hpi
    rw [e]
    exact h p' q (by omega) (by omega) hqb
   ·rw [h3 p (by omega)]
    exact h p q hpq (by omega) hqb
theorem insertionSort_congr (d : Array α) (h : ∀ p q, p < q → q < d.size → R d[p]! d[q]!) : insertionSort lt d 0 d.size = insertionSort lt2 d 0 d.size := by
 unfold insertionSort
 exact insOuter_congr hR d.size _ 1 d rfl (Nat.le_refl _) fun p q hpq _ hq => h p q hpq hq
end
theorem same_of {α : Type} {r : α → α → Prop} (ha : ∀ a b, r a b → r b a → False) : ∀ {S T : List α}, S.Pairwise r → T.Pairwise r → S.Perm T → S = T
 | [], T, _, _, h => h.nil_eq
 | a :: S, [], _, _, h => by have := h.length_eq; simp at this
 | a :: S, b :: T, h1, h2, h => by
   obtain ⟨p1, q1⟩ := List.pairwise_cons.1 h1
   obtain ⟨p2, q2⟩ := List.pairwise_cons.1 h2
   have e : a = b := by
    rcases List.mem_cons.1 (h.subset List.mem_cons_self) with e | e
    ·exact e
    ·rcases List.mem_cons.1 (h.symm.subset List.mem_cons_self) with e2 | e2
     ·exact e2.symm
     ·exact (ha a b (p1 b e2) (p2 a e)).elim
   subst e
   rw [same_of ha q1 q2 h.cons_inv]
theorem cmpS_anti {a b : ByteArray} (h : cmpS a b = 1) : cmpS b a = -1 := cb_anti h
theorem cmpS_flip {a b : ByteArray} (h : cmpS a b = -1) : cmpS b a = 1 := by
 rcases cmpS_three b a with e | e | e
 ·have := cmpS_trans h e
  rw [cmpS_refl] at this
  cases this
 ·rw [cmpS_zero e, cmpS_refl] at h
  cases h
 ·exact e
theorem cmpZ_lt {x y : Int} : cmpZ x y < 0 ↔ x < y := by unfold cmpZ; split <;> (try split) <;> omega
theorem cmpZ_zero {x y : Int} : cmpZ x y = 0 ↔ x = y := by unfold cmpZ; split <;> (try split) <;> omega
theorem cmpS_neg {a b : ByteArray} : cmpS a b < 0 ↔ cmpS a b = -1 := by rcases cmpS_three a b with h | h | h <;> omega
end Go.Proofs.YtkjhbofbcmelgaaGreatDoor
namespace Go.Proofs.YtkjhbofbcmelgaaGreatDoor
open Go Go.RowKit Go.Sort
/-- Nothing but draws. -/
def Drw (w w' : World) : Prop := ∃ q, w' = w.drewN q
theorem Drw.refl (w : World) : Drw w w := ⟨0, rfl⟩
theorem Drw.trans {a b c : World} (h : Drw a b) (k : Drw b c) : Drw a c := by
 obtain ⟨q, rfl⟩ := h
 obtain ⟨r, rfl⟩ := k
 exact ⟨q + r, by simp [World.drewN, Nat.add_assoc]⟩
theorem Blk.drw {w w' : World} {g : Nat} {t : TypeId} {cs : Array Value} (h : Blk w g t cs) (he : Drw w w') : Blk w' g t cs := by
 obtain ⟨q, rfl⟩ := he
 exact h
set_option maxRecDepth 100000 in
theorem cmpIntE_any (x y : Int) (w : World) :
 Calls Tryz.prog 86 #[.int .i64 x, .int .i64 y] w fun e w' => e = .returned (.int .i64 (cmpZ x y)) ∧ Drw w w' := by
 have hc : (x < y ∧ cmpZ x y = -1) ∨ (x = y ∧ cmpZ x y = 0) ∨ (y < x ∧ cmpZ x y = 1) := by unfold cmpZ; split <;> (try split) <;> omega
 rcases hc with ⟨h, hv⟩ | ⟨h, hv⟩ | ⟨h, hv⟩
 all_goals
  rw [hv]
  clear hv
  go_enter Tryz.func86, Tryz.ntmps86
  go_wp2_with (go_at_call 141; (with_reducible refine Calls.mono (isNaNI_any _ _) ?_); rintro e w' ⟨rfl, rfl⟩)
  go_ret
  exact ⟨rfl, Drw.refl _⟩
theorem grow_three (w : World) (q : Nat) (A B C : Obj) : (((w.alloc A).alloc B).drew.drewN q).alloc C = grow (w.drewN (q + 1)) #[A, B, C] := by
 rw [alloc_eq_grow, alloc_eq_grow, alloc_eq_grow, drew_eq_ahead]
 simp [grow, World.drewN, ahead, Nat.add_assoc, Nat.add_comm]
 refine ⟨?_, by omega, rfl, rfl⟩
 show ((w.heap.push A).push B).push C = _
 apply Array.ext'
 simp
theorem cmpSE_any (a b : ByteArray) (w : World) :
 Calls Tryz.prog 87 #[.string a, .string b] w fun e w' => e = .returned (.int .i64 (cmpS a b)) ∧ Drw w w' :=
 (Tryz.strings_Compare a b w).mono fun _ _ h => ⟨h.1, h.2 ▸ Drw.refl _⟩
theorem grow_two (w : World) (q : Nat) (A B : Obj) : ((w.alloc A).alloc B).drewN q = grow (w.drewN q) #[A, B] := by
 rw [alloc_eq_grow, alloc_eq_grow]
 simp [grow, World.drewN, Nat.add_assoc, Nat.add_comm]
 refine ⟨?_, rfl, rfl⟩
 show (w.heap.push A).push B = _
 apply Array.ext'
 simp
end Go.Proofs.YtkjhbofbcmelgaaGreatDoor
namespace Go.Proofs.YtkjhbofbcmelgaaGreatDoor
open Go Go.RowKit Go.Sort
theorem flat_lenK {α : Type} {k : Nat} {enc : α → List Value} (hk : ∀ x, (enc x).length = k) : ∀ (xs : List α), (xs.flatMap enc).length = xs.length * k
 | [] => by simp
 | x :: l => by rw [List.flatMap_cons, List.length_append, flat_lenK hk l, hk, List.length_cons, Nat.add_mul]; omega
theorem flat_get {α : Type} [Inhabited α] {k : Nat} {enc : α → List Value} (hk : ∀ x, (enc x).length = k) (xs : List α) {t : Nat} (ht : t < xs.length * k) : (xs.flatMap enc)[t]? = some (flatK enc k xs.toArray)[t]! := by
 have hk0 : 0 < k := by rcases Nat.eq_zero_or_pos k with h | h; (subst h; simp at ht); exact h
 rw [get_flatK enc k xs.toArray t (by simpa using ht)]
 have hi : t / k < xs.length := (Nat.div_lt_iff_lt_mul hk0).2 ht
 have hj : t % k < k := Nat.mod_lt _ hk0
 have hx : xs[t / k]? = some xs[t / k] := List.getElem?_eq_getElem hi
 have hjl : t % k < (enc xs[t / k]).length := by rw [hk]; exact hj
 have hu : (enc xs[t / k])[t % k]? = some (enc xs[t / k])[t % k] := List.getElem?_eq_getElem hjl
 have h1 := flat_at hk xs (t / k) _ hx (t % k) _ hu
 rw [Nat.div_add_mod' t k] at h1
 rw [h1]
 congr 1
 have e1 : xs.toArray[t / k]! = xs[t / k] := by simp [getElem!_pos, hi]
 rw [e1, getElem!_pos (enc xs[t / k]) (t % k) hjl]
theorem holdsK_own {α : Type} [Inhabited α] {k : Nat} {enc : α → List Value} (hk : ∀ x, (enc x).length = k) {w : World} {base : Nat} {e : TypeId} {g n cap : Nat} {xs : List α} (h : w.ownsRow base e k (.slice (some ⟨g, 0, none⟩) n cap) n (xs.flatMap enc)) : HoldsK enc k w g 0 xs.toArray := by
 intro j hj
 have hj' : j < xs.length * k := by simpa using hj
 have hn : xs.length * k = n * k := by have := h.1; rw [flat_lenK hk] at this; exact this
 refine ⟨?_, h.frozenAt _⟩
 rw [Nat.zero_add]
 exact (h.cellAt j (by omega)).trans (flat_get hk xs hj')
theorem own_sortK {α : Type} [Inhabited α] {k : Nat} {enc : α → List Value} (hk : ∀ x, (enc x).length = k) {w : World} {base : Nat} {e : TypeId} {g n cap m : Nat} {os : Array Obj} {xs ys : List α} (h : w.ownsRow base e k (.slice (some ⟨g, 0, none⟩) n cap) n (xs.flatMap enc)) (hy : ys.length = xs.length) :
 (sortWorldK enc k w g 0 m ys.toArray os).ownsRow base e k (.slice (some ⟨g, 0, none⟩) n cap) n (ys.flatMap enc) := by
 have hl := h.1
 rw [flat_lenK hk] at hl
 refine ⟨by rw [flat_lenK hk, hy, hl], ?_⟩
 rcases h.2 with ⟨h1, -⟩ | ⟨g', cap', cur, h1, hb, hg, hnc, hcm, hcs, htk⟩
 ·cases h1
 cases h1
 have hgl : g < w.heap.size := (Array.getElem?_eq_some_iff.1 hg).1
 refine .inr ⟨g, cap, putCells id 0 (flatK enc k ys.toArray) cur, rfl, hb, ?_, hnc, hcm, by simp [putCells, hcs], ?_⟩
 ·have hs : (w.heap.modify g (onCells (putCells id 0 (flatK enc k ys.toArray)))).size = w.heap.size := by simp
  show (w.heap.modify g (onCells (putCells id 0 (flatK enc k ys.toArray))) ++ os)[g]? = _
  rw [Array.getElem?_append_left (by rw [hs]; exact hgl), Array.getElem?_modify, if_pos rfl, hg]
  rfl
 ·have hle : n * k ≤ cur.size := by rw [hcs]; exact Nat.mul_le_mul_right _ hnc
  apply List.ext_getElem?
  intro t
  rw [List.getElem?_take]
  by_cases ht : t < n * k
  ·rw [if_pos ht, flat_get hk ys (by rw [hy, hl]; exact ht)]
   have hz : (flatK enc k ys.toArray).size = n * k := by rw [size_flatK]; simp [hy, hl]
   have htc : t < cur.size := by omega
   rw [Array.getElem?_toList, putCells, Array.getElem?_mapIdx, Array.getElem?_eq_getElem htc]
   simp [hz, ht]
  ·rw [if_neg ht, List.getElem?_eq_none (by rw [flat_lenK hk, hy, hl]; omega)]
theorem ext_sortK {α : Type} [Inhabited α] {k : Nat} {enc : α → List Value} {a w : World} (h : Ext a w) {g m : Nat} {os : Array Obj} {ys : Array α} (hg : a.heap.size ≤ g) : Ext a (sortWorldK enc k w g 0 m ys os) := by
 have hs : (w.heap.modify g (onCells (putCells id 0 (flatK enc k ys)))).size = w.heap.size := by simp
 refine ⟨h.os, h.tape, h.output, ?_, fun i hi => ?_⟩
 ·show a.heap.size ≤ (w.heap.modify g (onCells (putCells id 0 (flatK enc k ys))) ++ os).size
  rw [Array.size_append, hs]
  have := h.size
  omega
 ·have hiw : i < w.heap.size := Nat.lt_of_lt_of_le hi h.size
  show (w.heap.modify g (onCells (putCells id 0 (flatK enc k ys))) ++ os)[i]? = _
  rw [Array.getElem?_append_left (by rw [hs]; exact hiw), Array.getElem?_modify, if_neg (by omega)]
  exact h.block i hi
end Go.Proofs.YtkjhbofbcmelgaaGreatDoor
namespace Go.Proofs.YtkjhbofbcmelgaaGreatDoor
open Go Go.RowKit
end Go.Proofs.YtkjhbofbcmelgaaGreatDoor
namespace Go.Proofs.YtkjhbofbcmelgaaGreatDoor
open Go Go.RowKit Go.Sort
section
variable {α : Type} (f : α → Int) (g : α → ByteArray)
def cmpK (a b : α) : Int := orF [cmpZ (f a) (f b), cmpS (g a) (g b)]
def cmpF (a b : α) : Int := cmpZ (f a) (f b)
/-- Strictly ahead. -/
def LtK (a b : α) : Prop := f a < f b ∨ (f a = f b ∧ cmpS (g a) (g b) = -1)
theorem ltK_iff (a b : α) : ltOf (cmpK f g) a b = true ↔ LtK f g a b := by
 unfold ltOf cmpK orF orF LtK orF
 rw [decide_eq_true_iff]
 by_cases h : cmpZ (f a) (f b) = 0
 ·rw [if_pos h]
  have h' := cmpZ_zero.1 h
  by_cases h2 : cmpS (g a) (g b) = 0
  ·rw [if_pos h2]
   constructor
   ·intro h; omega
   ·rintro (h | ⟨-, h⟩) <;> omega
  ·rw [if_neg h2, cmpS_neg]
   exact ⟨fun h => .inr ⟨h', h⟩, fun h => by rcases h with h | ⟨-, h⟩; omega; exact h⟩
 ·rw [if_neg h, cmpZ_lt]
  have h' : ¬ f a = f b := fun e => h (cmpZ_zero.2 e)
  exact ⟨fun h => .inl h, fun h => by rcases h with h | ⟨e, -⟩; exact h; exact absurd e h'⟩
theorem ltK_asym {a b : α} (h : LtK f g a b) (k : LtK f g b a) : False := by
 unfold LtK at h k
 rcases h with h | ⟨h1, h2⟩ <;> rcases k with k | ⟨k1, k2⟩
 ·omega
 ·omega
 ·omega
 ·rw [cmpS_flip h2] at k2; cases k2
theorem ltK_trans {a b c : α} (h : LtK f g a b) (k : LtK f g b c) : LtK f g a c := by
 unfold LtK at *
 rcases h with h | ⟨h1, h2⟩ <;> rcases k with k | ⟨k1, k2⟩
 ·exact .inl (by omega)
 ·exact .inl (by omega)
 ·exact .inl (by omega)
 ·exact .inr ⟨by omega, cmpS_trans h2 k2⟩
theorem ltK_not {a b : α} (h : ¬ LtK f g a b) : f b < f a ∨ (f a = f b ∧ (cmpS (g a) (g b) = 0 ∨ cmpS (g b) (g a) = -1)) := by
 unfold LtK at h
 rcases Int.lt_trichotomy (f a) (f b) with e | e | e
 ·exact absurd (.inl e) h
 ·refine .inr ⟨e, ?_⟩
  rcases cmpS_three (g a) (g b) with h1 | h1 | h1
  ·exact absurd (.inr ⟨e, h1⟩) h
  ·exact .inl h1
  ·exact .inr (cmpS_anti h1)
 ·exact .inl e
theorem k_swo : SWO (ltOf (cmpK f g)) where
 irrefl x := by
  rw [← Bool.not_eq_true, ltK_iff f g]
  exact fun h => ltK_asym f g h h
 trans x y z h1 h2 := by
  rw [ltK_iff f g] at *
  exact ltK_trans f g h1 h2
 ntrans x y z h1 h2 := by
  rw [← Bool.not_eq_true, ltK_iff f g] at *
  have k1 := ltK_not f g h1
  have k2 := ltK_not f g h2
  rintro (h | ⟨h, h'⟩)
  ·rcases k1 with k1 | ⟨k1, -⟩ <;> rcases k2 with k2 | ⟨k2, -⟩ <;> omega
  ·rcases k1 with k1 | ⟨e1, k1⟩ <;> rcases k2 with k2 | ⟨e2, k2⟩ <;> try omega
   rcases k1 with k1 | k1 <;> rcases k2 with k2 | k2
   ·rw [cmpS_zero k1, cmpS_zero k2, cmpS_refl] at h'; cases h'
   ·rw [cmpS_zero k1] at h'
    rw [cmpS_flip k2] at h'; cases h'
   ·rw [← cmpS_zero k2] at h'
    rw [cmpS_flip k1] at h'; cases h'
   ·rw [cmpS_flip (cmpS_trans k2 k1)] at h'; cases h'
/-- So sorted: a rearrangement, each strictly ahead of those behind it. -/
def ByK (P M : List α) : Prop := M.Perm P ∧ M.Pairwise (LtK f g)
variable [Inhabited α]
theorem byK_of {P : List α} (hdis : P.Pairwise fun a b => g a ≠ g b) {d : Array α} (hp : PermIn 0 P.length P.toArray d) (hs : SortedIn (ltOf (cmpK f g)) 0 P.length d) : ByK f g P d.toList := by
 have hsz : d.size = P.length := by have := hp.1; simpa using this
 have hperm : d.toList.Perm P := by
  have h9 := hp.2.2
  have e2 : d.extract 0 P.length = d := by simp [← hsz]
  rw [e2] at h9
  simpa using h9
 refine ⟨hperm, ?_⟩
 have hdd := (hperm.symm.pairwise_iff (fun {x y} h k => h k.symm)).1 hdis
 rw [List.pairwise_iff_getElem] at hdd ⊢
 intro i j hi hj hij
 have h1 := hdd i j hi hj hij
 have h9 := hs i j (Nat.zero_le _) hij (by simp at hj; omega)
 rw [← Bool.not_eq_true, ltK_iff] at h9
 simp at hi hj
 rw [getElem!_pos d j hj, getElem!_pos d i hi] at h9
 rcases ltK_not f g h9 with h | ⟨h, k | k⟩
 ·exact .inl h
 ·exact absurd (cmpS_zero k).symm h1
 ·exact .inr ⟨h.symm, k⟩
/-- The stable sort by the number alone. -/
theorem stableK_of {P : List α} (hr : P.Pairwise fun a b => cmpS (g a) (g b) = -1) : ByK f g P (insertionSort (ltOf (cmpF f)) P.toArray 0 P.length).toList := by
 have h := insertionSort_congr (lt := ltOf (cmpF f)) (lt2 := ltOf (cmpK f g)) (R := fun x y => cmpS (g x) (g y) = -1) (fun x y h => by
  unfold ltOf cmpF cmpK orF orF orF
  rw [cmpS_flip h]
  by_cases e : cmpZ (f y) (f x) = 0
  ·rw [if_pos e, e]; rfl
  ·rw [if_neg e]) P.toArray (fun p q hpq hq => by
  simp at hq
  have e1 : P.toArray[p]! = P[p] := by simp [getElem!_pos, show p < P.length by omega]
  have e2 : P.toArray[q]! = P[q] := by simp [getElem!_pos, hq]
  rw [e1, e2]
  rw [List.pairwise_iff_getElem] at hr
  exact hr p q (by omega) hq hpq)
 have e : P.toArray.size = P.length := by simp
 rw [e] at h
 rw [h]
 have h2 := insertionSort_holds (lt := ltOf (cmpK f g)) (k_swo f g) P.toArray 0 P.length (Nat.zero_le _) (by simp)
 exact byK_of f g (hr.imp fun {a b} h e => by rw [e, cmpS_refl] at h; cases h) h2.1 h2.2
end
end Go.Proofs.YtkjhbofbcmelgaaGreatDoor
