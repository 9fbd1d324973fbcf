/- Rows of the call's own: appended, with the place of the new row; cut. Conditions: as each theorem says. More of the stream: flips, ranges, picks. Conditions: as each theorem says. More of the stream: picks within bounds, strings; rows of the call's own beside a stream. Conditions: as each theorem says. -/
import Derived.Test.YtkjhbofbcmelgaaGreatDoorFzJ3
import Derived.ArgAppend
import Derived.Test.YtkjhbofbcmelgaaGreatDoorFzJ2
set_option linter.unusedSimpArgs false
set_option linter.unusedVariables false
namespace Go.Proofs.YtkjhbofbcmelgaaGreatDoor
open Go Go.RowKit
theorem own_low {w : World} {base base' k n : Nat} {e : TypeId} {v : Value} {xs : List Value} (h : w.ownsRow base' e k v n xs) (hb : base ≤ base') : w.ownsRow base e k v n xs :=
 ⟨h.1, h.2.imp id fun ⟨g, cap, cur, hv, hg, r⟩ => ⟨g, cap, cur, hv, Nat.le_trans hb hg, r⟩⟩
theorem own_no {w : World} {base k n g : Nat} {t e : TypeId} {v : Value} {xs : List Value} {cs : Array Value} (ho : w.ownsRow base e k v n xs) (h : Blk w g t cs) (ht : t ≠ e) : v.ownBlock ≠ some g := by
 rcases ho.2 with ⟨rfl, _⟩ | ⟨b, cap, cur, rfl, _, h3, _⟩
 ·simp [Value.ownBlock]
 ·intro e1
  have e2 : b = g := by simpa [Value.ownBlock] using e1
  subst e2
  unfold Blk at h
  rw [h3] at h
  simp at h
  exact ht h.2.symm
theorem grown_set (w : World) (p : Addr) (u : Value) : w.grownBy (w.setCell p u) (some p.block) :=
 ⟨rfl, rfl, rfl, by simp [World.setCell], fun k _ h => Below.heap_setCell w p u k fun e => h (e ▸ rfl)⟩
theorem slcC {α : Type} {k : Nat} {enc : α → List Value} {w : World} {p : Option Addr} {n c : Nat} {xs : List α} (h : Slc k enc w p n c xs) :
 n = xs.length ∧ ((p = none ∧ xs = []) ∨ ∃ b off, p = some ⟨b, off, none⟩ ∧ b < w.heap.size ∧ Elems k enc w b off xs) := by
 obtain ⟨⟨h1, h2, h3⟩, h4, h5, h6⟩ := h
 refine ⟨h1.symm, ?_⟩
 cases p with
 | none => exact .inl ⟨rfl, List.eq_nil_of_length_eq_zero (by rw [h1]; exact h5 rfl)⟩
 | some a =>
   obtain ⟨b, off, rfl, hb⟩ := h6 a rfl
   refine .inr ⟨b, off, rfl, hb, ?_⟩
   by_cases hn : n = 0
   ·obtain rfl : xs = [] := List.eq_nil_of_length_eq_zero (by omega)
    intro i x hx
    cases hx
   ·obtain ⟨b', off', e, _, hE⟩ := h3 hn
    cases e
    exact hE
end Go.Proofs.YtkjhbofbcmelgaaGreatDoor
namespace Go.Proofs.YtkjhbofbcmelgaaGreatDoor
open Go Go.RowKit
set_option maxRecDepth 100000 in
theorem flip_any (s k m : Nat) (w : World) (hk : k ≤ 1000000) (hm : 1 ≤ m) (hm' : m ≤ 1000000) (h : Str w s k) :
 Calls Tryz.prog 40 #[.pointer (some ⟨s, 0, none⟩), .int .i64 m] w fun e w' => ∃ b : Bool, e = .returned (.bool b) ∧ Str w' s (k + 1) ∧ ExtS s w w' := by
 go_enter Tryz.func40, Tryz.ntmps40
 go_wp2_with (go_at_call 56; refine (next_any s k m _ hk hm (by omega) h).mono ?_; rintro e w1 ⟨v, rfl, hv, hS, hE⟩)
 go_ret
 exact ⟨_, rfl, hS, hE⟩
set_option maxRecDepth 100000 in
theorem range_any (s k : Nat) (lo hi : Int) (w : World) (hk : k ≤ 1000000) (hl : lo ≤ hi) (h0 : -1000000 ≤ lo) (h1 : hi ≤ 1000000000) (hd : hi - lo < 1000000000) (h : Str w s k) :
 Calls Tryz.prog 39 #[.pointer (some ⟨s, 0, none⟩), .int .i64 lo, .int .i64 hi] w fun e w' => ∃ v : Int, e = .returned (.int .i64 v) ∧ lo ≤ v ∧ v ≤ hi ∧ Str w' s (k + 1) ∧ ExtS s w w' := by
 obtain ⟨m, hm⟩ : ∃ m : Nat, hi - lo + 1 = m := ⟨(hi - lo + 1).toNat, by omega⟩
 have hN := next_any s k m w hk (by omega) (by omega) h
 replace hN := Lib.hid hN
 go_enter Tryz.func39, Tryz.ntmps39
 go_wp2_with (go_at_call 56; with_reducible refine Calls.mono hN.out ?_; rintro e w1 ⟨v, rfl, hv, hS, hE⟩)
 go_ret
 exact ⟨_, rfl, by omega, by omega, hS, hE⟩
set_option maxRecDepth 100000 in
theorem pick_any (s k b off cap : Nat) (xs : List Int) (w : World) (hk : k ≤ 1000000) (hn : 1 ≤ xs.length) (hn' : xs.length ≤ 1000000) (h : Str w s k) (hb : b < w.heap.size) (hs : b ≠ s)
 (hc : ∀ i, i < xs.length → w.cell? ⟨b, off + i, none⟩ = some (.int .i64 (xs.getD i 0))) :
 Calls Tryz.prog 10 #[.pointer (some ⟨s, 0, none⟩), .slice (some ⟨b, off, none⟩) xs.length cap] w fun e w' =>
  ∃ v : Nat, v < xs.length ∧ e = .returned (.int .i64 (xs.getD v 0)) ∧ Str w' s (k + 1) ∧ ExtS s w w' := by
 have hN := next_any s k xs.length w hk hn (by omega) h
 replace hN := Lib.hid hN; replace hc := Lib.hid hc
 go_enter Tryz.func10, Tryz.ntmps10
 go_wp2_with (go_at_call 56; refine hN.out.mono ?_; rintro e w1 ⟨v, rfl, hv, hS, hE⟩; have hx := (hE.cell hb hs (off + v)).trans (hc.out v hv))
 go_ret
 exact ⟨v, hv, ret_int (by simp [hv]), hS, hE⟩
theorem pick_blk (s k b t cap : Nat) (xs : List Int) (w : World) (hk : k ≤ 1000000) (hn : 1 ≤ xs.length) (hn' : xs.length ≤ 1000000) (h : Str w s k) (hs : b ≠ s) (hb : Blk w b t (xs.map (Value.int .i64)).toArray) :
 Calls Tryz.prog 10 #[.pointer (some ⟨s, 0, none⟩), .slice (some ⟨b, 0, none⟩) xs.length cap] w fun e w' =>
  ∃ v : Nat, v < xs.length ∧ e = .returned (.int .i64 (xs.getD v 0)) ∧ Str w' s (k + 1) ∧ ExtS s w w' :=
 pick_any s k b 0 cap xs w hk hn hn' h hb.lt hs fun i hi => by rw [hb.cell]; simp [hi]
theorem odd_pick (lo hi : Int) (h0 : -1000000 ≤ lo) (h1 : hi ≤ 1000000000) (hl : lo ≤ hi) (v : Nat) (hv : v < 6) :
 -1099511627776 ≤ [lo - 1, hi + 1, lo, hi, -1099511627776,1099511627776].getD v 0 ∧ [lo - 1, hi + 1, lo, hi, -1099511627776,1099511627776].getD v 0 ≤ 1099511627776 := by
 have : v = 0 ∨ v = 1 ∨ v = 2 ∨ v = 3 ∨ v = 4 ∨ v = 5 := by omega
 rcases this with rfl | rfl | rfl | rfl | rfl | rfl <;> simp <;> omega
set_option maxRecDepth 100000 in
theorem odd_any (s k : Nat) (lo hi : Int) (w : World) (hk : k ≤ 999999) (hl : lo ≤ hi) (h0 : -1000000 ≤ lo) (h1 : hi ≤ 1000000000) (hd : hi - lo < 1000000000) (h : Str w s k) :
 Calls Tryz.prog 55 #[.pointer (some ⟨s, 0, none⟩), .int .i64 lo, .int .i64 hi] w fun e w' => ∃ v : Int, e = .returned (.int .i64 v) ∧ -1099511627776 ≤ v ∧ v ≤ 1099511627776 ∧ Str w' s (k + 2) ∧ ExtS s w w' := by
 go_enter Tryz.func55, Tryz.ntmps55
 go_wp2_with (first
  | (go_at_call 40; refine (flip_any s k 12 _ (by omega) (by omega) (by omega) h).mono ?_; rintro e w1 ⟨b, rfl, hS, hE⟩; cases b)
  | (go_at_call 39; refine (range_any s (k + 1) lo hi _ (by omega) hl h0 h1 hd hS).mono ?_; rintro e w2 ⟨v, rfl, hv1, hv2, hS2, hE2⟩)
  | (go_at_call 10; have l1 := hS.lt; refine (pick_blk s (k + 1) _ _ 6 [lo - 1, hi + 1, lo, hi, -1099511627776,1099511627776] _ (by omega) (by simp) (by simp) (hS.ext (Ext.alloc (Ext.refl _) _)) (Nat.ne_of_gt l1) (Blk.new' rfl)).mono ?_; rintro e w2 ⟨v, hv, rfl, hS2, hE2⟩))
 ·go_ret
  exact ⟨_, rfl, by omega, by omega, hS2, hE.trans hE2⟩
 ·have hp := odd_pick lo hi h0 h1 hl v hv
  go_ret
  exact ⟨_, rfl, hp.1, hp.2, hS2, hE.trans (((ExtS.refl _ _).alloc _).trans hE2)⟩
end Go.Proofs.YtkjhbofbcmelgaaGreatDoor
namespace Go.Proofs.YtkjhbofbcmelgaaGreatDoor
open Go Go.RowKit
theorem pick_in (s k b t cap : Nat) (xs : List Int) (lo hi : Int) (w : World) (hk : k ≤ 1000000) (hn : 1 ≤ xs.length) (hn' : xs.length ≤ 1000000) (h : Str w s k) (hs : b ≠ s) (hb : Blk w b t (xs.map (Value.int .i64)).toArray) (hx : ∀ y ∈ xs, lo ≤ y ∧ y ≤ hi) :
 Calls Tryz.prog 10 #[.pointer (some ⟨s, 0, none⟩), .slice (some ⟨b, 0, none⟩) xs.length cap] w fun e w' =>
  ∃ y : Int, lo ≤ y ∧ y ≤ hi ∧ e = .returned (.int .i64 y) ∧ Str w' s (k + 1) ∧ ExtS s w w' :=
 (pick_blk s k b t cap xs w hk hn hn' h hs hb).mono fun e w' ⟨v, hv, he, hS, hE⟩ => by
   have hm : xs.getD v 0 ∈ xs := by rw [List.getD_eq_getElem?_getD, List.getElem?_eq_getElem hv]; exact List.getElem_mem hv
   exact ⟨_, (hx _ hm).1, (hx _ hm).2, he, hS, hE⟩
set_option maxRecDepth 100000 in
theorem somes_any (s k b t cap : Nat) (xs : List ByteArray) (w : World) (hk : k ≤ 1000000) (hn : 1 ≤ xs.length) (hn' : xs.length ≤ 1000000) (h : Str w s k) (hs : b ≠ s) (hb : Blk w b t (xs.map Value.string).toArray) :
 Calls Tryz.prog 9 #[.pointer (some ⟨s, 0, none⟩), .slice (some ⟨b, 0, none⟩) xs.length cap] w fun e w' =>
  ∃ y ∈ xs, e = .returned (.string y) ∧ Str w' s (k + 1) ∧ ExtS s w w' := by
 have hN := next_any s k xs.length w hk hn (by omega) h
 have hc : ∀ i, i < xs.length → w.cell? ⟨b, i, none⟩ = some (.string (xs.getD i ⟨#[]⟩)) := fun i hi => by rw [hb.cell]; simp [hi]
 have hbl := hb.lt
 clear hb; replace hN := Lib.hid hN; replace hc := Lib.hid hc
 go_enter Tryz.func9, Tryz.ntmps9
 go_wp2_with (go_at_call 56; refine hN.out.mono ?_; rintro e w1 ⟨v, rfl, hv, hS, hE⟩; have hx := (hE.cell hbl hs v).trans (hc.out v hv))
 go_ret
 refine ⟨xs.getD v ⟨#[]⟩, ?_, by simp [hv], hS, hE⟩
 rw [List.getD_eq_getElem?_getD, List.getElem?_eq_getElem hv]
 exact List.getElem_mem hv
theorem ExtS.grownBy {s : Nat} {a b : World} (h : ExtS s a b) : a.grownBy b (some s) := ⟨h.1, h.2.1, h.2.2.1, h.2.2.2.1, fun k hk hn => h.2.2.2.2 k hk fun e => hn (by rw [e])⟩
theorem own_extS {s : Nat} {a b : World} (h : ExtS s a b) {base : Nat} {e : TypeId} {k n : Nat} {v : Value} {xs : List Value} (hs : s < base) (ho : a.ownsRow base e k v n xs) : b.ownsRow base e k v n xs :=
 ho.kept h.grownBy (.inr fun hv => by have := (ho.lt s hv).1; omega)
theorem ExtS.app {s : Nat} {a b c : World} {base : Nat} {e : TypeId} {k n : Nat} {v : Value} {xs : List Value} (h : ExtS s a b) (ho : b.ownsRow base e k v n xs) (hb : a.heap.size ≤ base) (hg : b.grownBy c v.ownBlock) : ExtS s a c :=
 ⟨hg.os.trans h.1, hg.tape.trans h.2.1, hg.output.trans h.2.2.1, Nat.le_trans h.2.2.2.1 hg.size, fun j hj hn => (hg.block j (Nat.lt_of_lt_of_le hj h.2.2.2.1) fun hv => by have := (ho.lt j hv.symm).1; omega).trans (h.2.2.2.2 j hj hn)⟩
theorem Str.app {s q : Nat} {b c : World} {base : Nat} {e : TypeId} {k n : Nat} {v : Value} {xs : List Value} (h : Str b s q) (ho : b.ownsRow base e k v n xs) (hs : s < base) (hg : b.grownBy c v.ownBlock) : Str c s q :=
 h.low fun j hj => hg.block j (Nat.lt_of_le_of_lt hj h.lt) fun hv => by have := (ho.lt j hv.symm).1; omega
theorem Slc.extS {α : Type} {k : Nat} {enc : α → List Value} {w w' : World} {s : Nat} {p : Option Addr} {n c : Nat} {xs : List α} (h : Slc k enc w p n c xs) (he : ExtS s w w') (hp : ∀ a, p = some a → a.block ≠ s) : Slc k enc w' p n c xs := by
 obtain ⟨⟨h1, h2, h3⟩, h4, h5, h6⟩ := h
 refine ⟨⟨h1, h2, fun hn => ?_⟩, h4, h5, fun a ha => let ⟨b, off, e, hb⟩ := h6 a ha; ⟨b, off, e, Nat.lt_of_lt_of_le hb he.2.2.2.1⟩⟩
 obtain ⟨b, off, rfl, hb, hE⟩ := h3 hn
 exact ⟨b, off, rfl, Nat.lt_of_lt_of_le hb he.2.2.2.1, fun i x hx j v hv => (he.cell hb (hp _ rfl) _).trans (hE i x hx j v hv)⟩
end Go.Proofs.YtkjhbofbcmelgaaGreatDoor
