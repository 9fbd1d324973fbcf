/- Small contracts that many functions call: ranges of numbers, the first error, and the words for memory. Conditions: none. Behind a loud operation of a region: more may be known of the world, and quiet operations may follow. Conditions: none. The stream of numbers: each function answers within its range, and changes the stream alone. Conditions: as each theorem says. -/
import Derived.Test.YtkjhbofbcmelgaaGreatDoorProg
import Derived.Test.YtkjhbofbcmelgaaGreatDoorEzPlan
import Derived.Deep.QuietTactic
import Derived.BigQuiet
import Derived.Lib.Hide
import Derived.Deep.Light
set_option linter.unusedSimpArgs false
set_option linter.unusedVariables false
namespace Go.Proofs.YtkjhbofbcmelgaaGreatDoor
open Go Go.RowKit
theorem ret_bool {a b : Bool} (h : a = b) : Ending.returned (.bool a) = .returned (.bool b) := by rw [h]
theorem ret_int {k : IntKind} {a b : Int} (h : a = b) : Ending.returned (.int k a) = .returned (.int k b) := by rw [h]
/-- All that was there stands; new blocks may lie behind it. -/
def Ext (w w' : World) : Prop := Below w.heap.size w w'
theorem Ext.refl (w : World) : Ext w w := Below.refl _ _
theorem Ext.trans {a b c : World} (h : Ext a b) (k : Ext b c) : Ext a c := Below.trans h (Below.mono k h.size)
theorem Ext.drew {a b : World} (h : Ext a b) : Ext a b.drew := Below.drew h
theorem Ext.alloc {a b : World} (h : Ext a b) (o : Obj) : Ext a (b.alloc o) := Below.alloc h h.size o
theorem Ext.setCell {a b : World} (h : Ext a b) {p : Addr} (hp : a.heap.size ≤ p.block) (u : Value) : Ext a (b.setCell p u) := Below.setCell h hp u
theorem Ext.blk {a b : World} (h : Ext a b) {g : Nat} (hg : g < a.heap.size) : b.heap[g]? = a.heap[g]? := h.block g hg
/-- A block that is known whole. -/
def Blk (w : World) (g : Nat) (t : TypeId) (cs : Array Value) : Prop := w.heap[g]? = some (.cells cs t (0,0))
theorem Blk.lt {w : World} {g : Nat} {t : TypeId} {cs : Array Value} (h : Blk w g t cs) : g < w.heap.size := by
 rcases Nat.lt_or_ge g w.heap.size with hlt | hge
 ·exact hlt
 ·unfold Blk at h; rw [Array.getElem?_eq_none hge] at h; cases h
theorem Blk.ext {w w' : World} {g : Nat} {t : TypeId} {cs : Array Value} (h : Blk w g t cs) (he : Ext w w') : Blk w' g t cs := (he.blk h.lt).trans h
def outB (n lo hi : Int) : Bool := decide (n < lo ∨ hi < n)
def inB (n lo hi : Int) : Bool := decide (lo ≤ n ∧ n ≤ hi)
theorem outB_inB (n lo hi : Int) : outB n lo hi = !inB n lo hi := by
 unfold outB inB
 by_cases h : lo ≤ n ∧ n ≤ hi
 ·rw [decide_eq_true h, decide_eq_false (by omega)]; rfl
 ·rw [decide_eq_false h, decide_eq_true (by omega)]; rfl
theorem inB_iff {n lo hi : Int} : inB n lo hi = true ↔ lo ≤ n ∧ n ≤ hi := by unfold inB; exact decide_eq_true_iff
/-- What a call that only makes memory leaves to the walk. -/
theorem Ext.walk {W w' : World} (h : Ext W w') : (∀ b o, b < W.heap.size → w'.cell? ⟨b, o, none⟩ = W.cell? ⟨b, o, none⟩) ∧ (∀ b o, b < W.heap.size → w'.frozen? ⟨b, o, none⟩ = W.frozen? ⟨b, o, none⟩) ∧ W.heap.size ≤ w'.heap.size :=
 ⟨fun b o hlt => Below.cell (p := ⟨b, o, none⟩) h hlt, fun b o hlt => Below.frozen (p := ⟨b, o, none⟩) h hlt, h.size⟩
theorem Blk.new' {w : World} {g : Nat} {t : TypeId} {cs : Array Value} (h : g = w.heap.size) : Blk (w.alloc (.cells cs t)) g t cs := by subst h; exact heap_alloc_new w _
theorem Blk.drew {w : World} {g : Nat} {t : TypeId} {cs : Array Value} (h : Blk w g t cs) : Blk w.drew g t cs := h
theorem Blk.alloc {w : World} {g : Nat} {t : TypeId} {cs : Array Value} (h : Blk w g t cs) (o : Obj) : Blk (w.alloc o) g t cs := (Below.heap_alloc w o g h.lt).trans h
theorem Blk.far {w : World} {g : Nat} {t : TypeId} {cs : Array Value} (h : Blk w g t cs) {p : Addr} (hp : g ≠ p.block) (u : Value) : Blk (w.setCell p u) g t cs := (Below.heap_setCell w p u g hp).trans h
theorem Blk.cell {w : World} {g : Nat} {t : TypeId} {cs : Array Value} (h : Blk w g t cs) (i : Nat) : w.cell? ⟨g, i, none⟩ = cs[i]? := cell_of_row w g i cs t (0,0) h
theorem Blk.frozen {w : World} {g : Nat} {t : TypeId} {cs : Array Value} (h : Blk w g t cs) (i : Nat) : w.frozen? ⟨g, i, none⟩ = false := by
 unfold Blk at h
 simp [World.frozen?, h]
theorem Blk.set_ {w : World} {g : Nat} {t : TypeId} {cs : Array Value} (h : Blk w g t cs) (i : Nat) (u : Value) : Blk (w.setCell ⟨g, i, none⟩ u) g t (cs.setIfInBounds i u) := by
 unfold Blk at h ⊢
 simp [World.setCell, Array.getElem?_modify, h]
theorem Blk.cast {w : World} {g : Nat} {t : TypeId} {cs cs' : Array Value} (h : Blk w g t cs) (e : cs = cs') : Blk w g t cs' := e ▸ h
theorem Blk.walk {w : World} {g : Nat} {t : TypeId} {cs : Array Value} (h : Blk w g t cs) : (∀ i, w.cell? ⟨g, i, none⟩ = cs[i]?) ∧ (∀ i, w.frozen? ⟨g, i, none⟩ = false) := ⟨h.cell, h.frozen⟩
section
variable (n lo hi : Int) (w : World)
set_option maxRecDepth 100000 in
theorem outside_any :
 Calls Tryz.prog 159 #[.int .i64 n, .int .i64 lo, .int .i64 hi] w fun e w' => e = .returned (.bool (outB n lo hi)) ∧ w = w' := by
 go_enter Tryz.func159, Tryz.ntmps159
 go_wp2
 all_goals
  go_ret
  exact ⟨ret_bool (by unfold outB; simp <;> omega), rfl⟩
set_option maxRecDepth 100000 in
theorem in_any :
 Calls Tryz.prog 74 #[.int .i64 n, .int .i64 lo, .int .i64 hi] w fun e w' => e = .returned (.bool (inB n lo hi)) ∧ w = w' := by
 go_enter Tryz.func74, Tryz.ntmps74
 go_wp2
 all_goals
  go_ret
  exact ⟨ret_bool (by unfold inB; simp <;> omega), rfl⟩
end
def spanF (n lo hi : Int) : Int := if inB n lo hi then 0 else 1
set_option maxRecDepth 100000 in
theorem spanFault_any (n lo hi : Int) (w : World) :
 Calls Tryz.prog 75 #[.int .i64 n, .int .i64 lo, .int .i64 hi] w fun e w' => e = .returned (.int .i64 (spanF n lo hi)) ∧ w = w' := by
 have hs : spanF n lo hi = if inB n lo hi then 0 else 1 := rfl
 have HS := Lib.hid hs; clear hs
 cases hb : inB n lo hi
 all_goals
  go_enter Tryz.func75, Tryz.ntmps75
  go_wp2_with (go_at_call 74; refine (in_any _ _ _ _).mono ?_; rintro e w' ⟨rfl, rfl⟩)
  go_ret
  exact ⟨ret_int (by rw [HS.out, hb]; rfl), rfl⟩
/-- The first number that is not 0. -/
def orF : List Int → Int
 | [] => 0
 | x :: l => if x = 0 then orF l else x
def ZeroTo (l : List Int) (k : Nat) : Prop := ∀ j, j < k → l.getD j 0 = 0
theorem orF_append_zero : ∀ (l : List Int) (k : Nat), ZeroTo l k → orF (l.drop k) = orF l
 | l, 0, _ => by simp
 | [], k + 1, _ => by simp
 | x :: l, k + 1, h => by
   have h0 : x = 0 := by simpa using h 0 (by omega)
   rw [List.drop_succ_cons, orF, if_pos h0]
   exact orF_append_zero l k fun j hj => by simpa using h (j + 1) (by omega)
theorem orF_at (l : List Int) (k : Nat) (hk : k < l.length) (h : ZeroTo l k) (hx : l.getD k 0 ≠ 0) : orF l = l.getD k 0 := by
 rw [← orF_append_zero l k h, List.drop_eq_getElem_cons hk, orF]
 have e : l.getD k 0 = l[k] := by simp [hk]
 rw [e] at hx ⊢
 rw [if_neg hx]
theorem orF_zero (l : List Int) (k : Nat) (hk : l.length ≤ k) (h : ZeroTo l k) : orF l = 0 := by
 rw [← orF_append_zero l k h, List.drop_eq_nil_of_le hk]; rfl
theorem ZeroTo.succ {l : List Int} {k : Nat} (h : ZeroTo l k) (hx : l.getD k 0 = 0) : ZeroTo l (k + 1) := fun j hj => by
 rcases Nat.lt_or_ge j k with hlt | hge
 ·exact h j hlt
 ·obtain rfl : j = k := by omega
  exact hx
set_option maxRecDepth 100000 in
theorem orErr_any (b off cap : Nat) (xs : List Int) (w : World) (hl : xs.length ≤ 1000) (hc : ∀ i, i < xs.length → w.cell? ⟨b, off + i, none⟩ = some (.int .i64 (xs.getD i 0))) :
 Calls Tryz.prog 17 #[.slice (some ⟨b, off, none⟩) xs.length cap] w fun e w' => e = .returned (.int .i64 (orF xs)) ∧ w = w' := by
 have HC := Lib.hid hc; clear hc
 go_enter Tryz.func17, Tryz.ntmps17
 go_wp2
 go_loop [8] (fun i => ∃ k : Nat, k ≤ xs.length ∧ i = .int .i64 k ∧ ZeroTo xs k) (fun i => xs.length - (intOf i).toNat)
 case atStart => exact ⟨0, Nat.zero_le _, rfl, fun j hj => by omega⟩
 case round =>
  obtain ⟨k, hk, rfl, hz⟩ := hrel
  by_cases hlt : k < xs.length
  ·have hcell := HC.out k hlt
   obtain ⟨v, hv⟩ : ∃ v, xs.getD k 0 = v := ⟨_, rfl⟩
   rw [hv] at hcell
   have HV := Lib.hid hv; clear hv
   cases hx : v != 0
   ·go_wp2
    go_round
    case rel => exact ⟨k + 1, by omega, by go_num, hz.succ (by rw [HV.out]; simpa using hx)⟩
    case measure => simp [intOf]; omega
   ·go_wp2
    go_ret
    exact ⟨ret_int (by rw [orF_at xs k hlt hz (by rw [HV.out]; simpa using hx), HV.out]), rfl⟩
  ·go_wp2
   go_ret
   exact ⟨ret_int (orF_zero xs k (by omega) hz).symm, rfl⟩
theorem orErr_blk (g t cap : Nat) (xs : List Int) (w : World) (hl : xs.length ≤ 1000) (hb : Blk w g t (xs.map (Value.int .i64)).toArray) :
 Calls Tryz.prog 17 #[.slice (some ⟨g, 0, none⟩) xs.length cap] w fun e w' => e = .returned (.int .i64 (orF xs)) ∧ w = w' :=
 orErr_any g 0 cap xs w hl fun i hi => by rw [hb.cell]; simp [hi]
end Go.Proofs.YtkjhbofbcmelgaaGreatDoor
namespace Go.Proofs.YtkjhbofbcmelgaaGreatDoor
open Go Go.RowKit
section
variable {P : Program} {ops : Array Oper} {md : Region.Mode} {Q : Exit → Act → World → Prop} {H H' : World → Prop} {E : World → World → Prop}
end
end Go.Proofs.YtkjhbofbcmelgaaGreatDoor
namespace Go.Proofs.YtkjhbofbcmelgaaGreatDoor
open Go Go.RowKit
/-- All that was there stands but block s. -/
def ExtS (s : Nat) (w w' : World) : Prop := w'.os = w.os ∧ w'.tape = w.tape ∧ w'.output = w.output ∧ w.heap.size ≤ w'.heap.size ∧ ∀ k, k < w.heap.size → k ≠ s → w'.heap[k]? = w.heap[k]?
theorem ExtS.refl (s : Nat) (w : World) : ExtS s w w := ⟨rfl, rfl, rfl, Nat.le_refl _, fun _ _ _ => rfl⟩
theorem ExtS.trans {s : Nat} {a b c : World} (h : ExtS s a b) (k : ExtS s b c) : ExtS s a c :=
 ⟨k.1.trans h.1, k.2.1.trans h.2.1, k.2.2.1.trans h.2.2.1, Nat.le_trans h.2.2.2.1 k.2.2.2.1, fun i hi hn => (k.2.2.2.2 i (Nat.lt_of_lt_of_le hi h.2.2.2.1) hn).trans (h.2.2.2.2 i hi hn)⟩
theorem Ext.extS {s : Nat} {a b : World} (h : Ext a b) : ExtS s a b := ⟨h.os, h.tape, h.output, h.size, fun k hk _ => h.block k hk⟩
theorem ExtS.ext {s : Nat} {a b c : World} (h : ExtS s a b) (k : Ext b c) : ExtS s a c := h.trans k.extS
theorem ExtS.drew {s : Nat} {a b : World} (h : ExtS s a b) : ExtS s a b.drew := h.ext (Ext.drew (Ext.refl _))
theorem ExtS.alloc {s : Nat} {a b : World} (h : ExtS s a b) (o : Obj) : ExtS s a (b.alloc o) := h.ext (Ext.alloc (Ext.refl _) _)
theorem ExtS.setCell {s : Nat} {a b : World} (h : ExtS s a b) {p : Addr} (hp : p.block = s ∨ a.heap.size ≤ p.block) (u : Value) : ExtS s a (b.setCell p u) := by
 refine ⟨h.1, h.2.1, h.2.2.1, by simpa using h.2.2.2.1, fun k hk hn => ?_⟩
 rw [Below.heap_setCell b p u k (by omega)]
 exact h.2.2.2.2 k hk hn
theorem ExtS.back {s : Nat} {a b c : World} (h : Ext a b) (hs : a.heap.size ≤ s) (k : ExtS s b c) : Ext a c :=
 ⟨k.1.trans h.os, k.2.1.trans h.tape, k.2.2.1.trans h.output, Nat.le_trans h.size k.2.2.2.1, fun i hi => (k.2.2.2.2 i (Nat.lt_of_lt_of_le hi h.size) (by omega)).trans (h.block i hi)⟩
theorem Blk.extS {s : Nat} {w w' : World} {g : Nat} {t : TypeId} {cs : Array Value} (h : Blk w g t cs) (hs : g ≠ s) (he : ExtS s w w') : Blk w' g t cs := (he.2.2.2.2 g h.lt hs).trans h
theorem ExtS.cell {s : Nat} {w w' : World} (he : ExtS s w w') {b : Nat} (hb : b < w.heap.size) (hs : b ≠ s) (o : Nat) : w'.cell? ⟨b, o, none⟩ = w.cell? ⟨b, o, none⟩ := World.cell?_of_block (w := w) (he.2.2.2.2 b hb hs)
/-- The list behind a stream. -/
def Lst (w : World) (s : Nat) (p : Option Addr) (n : Nat) : Prop :=
 n ≤ 9223372036854775807 ∧ (n ≠ 0 → ∃ B off, p = some ⟨B, off, none⟩ ∧ B < s ∧ ∀ i, i < n → ∃ x : Int, w.cell? ⟨B, off + i, none⟩ = some (.int .i64 x) ∧ -9223372036854775808 ≤ x ∧ x ≤ 9223372036854775807)
/-- A stream that has handed out k numbers at most. -/
def Str (w : World) (s : Nat) (k : Nat) : Prop :=
 ∃ (p : Option Addr) (n c a : Nat), a ≤ k ∧ Blk w s 25 #[.slice p n c, .int .i64 a] ∧ Lst w s p n
theorem Lst.low {s : Nat} {w w' : World} {p : Option Addr} {n : Nat} (h : Lst w s p n) (he : ∀ j, j < s → w'.heap[j]? = w.heap[j]?) : Lst w' s p n := by
 refine ⟨h.1, fun hn => ?_⟩
 obtain ⟨B, off, hp, hB, hc⟩ := h.2 hn
 refine ⟨B, off, hp, hB, fun i hi => ?_⟩
 obtain ⟨x, hx, hr⟩ := hc i hi
 exact ⟨x, (World.cell?_of_block (w := w) (a := ⟨B, off + i, none⟩) (he B hB)).trans hx, hr⟩
theorem Str.lt {w : World} {s k : Nat} (h : Str w s k) : s < w.heap.size := by
 obtain ⟨p, n, c, a, ha, hb, hl⟩ := h
 exact hb.lt
theorem Str.low {w w' : World} {s k : Nat} (h : Str w s k) (he : ∀ j, j ≤ s → w'.heap[j]? = w.heap[j]?) : Str w' s k := by
 obtain ⟨p, n, c, a, ha, hb, hl⟩ := h
 exact ⟨p, n, c, a, ha, (he s (Nat.le_refl _)).trans hb, hl.low fun j hj => he j (Nat.le_of_lt hj)⟩
theorem Str.ext {w w' : World} {s k : Nat} (h : Str w s k) (he : Ext w w') : Str w' s k := h.low fun j hj => he.block j (Nat.lt_of_le_of_lt hj h.lt)
theorem Str.set {w : World} {s k : Nat} (h : Str w s k) {p : Addr} (hp : s < p.block) (u : Value) : Str (w.setCell p u) s k := h.low fun j hj => Below.heap_setCell w p u j (by omega)
theorem Str.more {w : World} {s k k' : Nat} (h : Str w s k) (hk : k ≤ k') : Str w s k' := by
 obtain ⟨p, n, c, a, ha, hb, hl⟩ := h
 exact ⟨p, n, c, a, by omega, hb, hl⟩
def belF (x n : Int) : Int := if x.tmod n < 0 then x.tmod n + n else x.tmod n
theorem belF_range (x n : Int) (h : 1 ≤ n) : 0 ≤ belF x n ∧ belF x n < n := by
 have h1 := Int.tmod_lt_of_pos x (show 0 < n by omega)
 have h2 := Int.lt_tmod_of_pos x (show 0 < n by omega)
 unfold belF
 split <;> omega
set_option maxRecDepth 100000 in
theorem below_any (x n : Int) (w : World) (h0 : -9223372036854775808 ≤ x) (h1 : x ≤ 9223372036854775807) (hn : 1 ≤ n) (hn' : n ≤ 9223372036854775807) :
 Calls Tryz.prog 113 #[.int .i64 x, .int .i64 n] w fun e w' => e = .returned (.int .i64 (belF x n)) ∧ w = w' := by
 have k1 := Int.tmod_lt_of_pos x (show 0 < n by omega)
 have k2 := Int.lt_tmod_of_pos x (show 0 < n by omega)
 have hF : (x.tmod n < 0 ∧ belF x n = x.tmod n + n) ∨ (0 ≤ x.tmod n ∧ belF x n = x.tmod n) := by unfold belF; split <;> omega
 have hz : ¬ n = 0 := by omega
 rcases hF with ⟨hs, hv⟩ | ⟨hs, hv⟩
 all_goals
  rw [hv]
  clear hv
  go_enter Tryz.func113, Tryz.ntmps113
  go_wp2
  go_ret
  exact ⟨ret_int (by simp <;> omega), rfl⟩
set_option maxRecDepth 100000 in
theorem next_any (s k m : Nat) (w : World) (hk : k ≤ 1000000) (hm : 1 ≤ m) (hm' : m ≤ 1000000000) (h : Str w s k) :
 Calls Tryz.prog 56 #[.pointer (some ⟨s, 0, none⟩), .int .i64 m] w fun e w' => ∃ v : Nat, e = .returned (.int .i64 v) ∧ v < m ∧ Str w' s (k + 1) ∧ ExtS s w w' := by
 obtain ⟨p, n, c, a, ha, hb, hl⟩ := h
 obtain ⟨p1, p2⟩ := hb.walk
 by_cases hn : n = 0
 ·subst hn
  have hr := belF_range ((a + 1) * 7919 : Int) m (by omega)
  have he : ExtS s w (w.setCell ⟨s, 1, none⟩ (.int .i64 ((a : Int) + 1))) := (ExtS.refl s w).setCell (.inl rfl) _
  have hS : Str (w.setCell ⟨s, 1, none⟩ (.int .i64 ((a : Int) + 1))) s (k + 1) := ⟨p, 0, c, a + 1, by omega, hb.set_ 1 _, hl.low fun j hj => Below.heap_setCell w _ _ j (Nat.ne_of_lt hj)⟩
  have hS' := Lib.hid hS
  clear hS hl hb; replace he := Lib.hid he
  generalize hB : belF ((a + 1) * 7919 : Int) m = v at hr
  replace hB := Lib.hid hB
  go_enter Tryz.func56, Tryz.ntmps56
  go_wp2_with (go_at_call 113; refine (below_any ((a + 1) * 7919 : Int) m _ (by omega) (by omega) (by omega) (by omega)).mono ?_; rintro e w' ⟨rfl, rfl⟩)
  go_ret
  exact ⟨v.toNat, ret_int (by rw [hB.out]; omega), by omega, hS'.out, he.out⟩
 ·obtain ⟨B, off, rfl, hBs, hc⟩ := hl.2 hn
  have hlt := Nat.lt_trans hBs hb.lt
  have hB := Nat.ne_of_lt hBs
  clear hBs
  have hnn := hl.1
  have hix : a % n < n := Nat.mod_lt _ (by omega)
  have hdv : a / n ≤ a := Nat.div_le_self _ _
  obtain ⟨x, hx, hx1, hx2⟩ := hc (a % n) hix
  have he : ExtS s w (w.setCell ⟨s, 1, none⟩ (.int .i64 ((a : Int) + 1))) := (ExtS.refl s w).setCell (.inl rfl) _
  have hb1 : Blk (w.setCell ⟨s, 1, none⟩ (.int .i64 ((a : Int) + 1))) s 25 #[.slice (some ⟨B, off, none⟩) n c, .int .i64 ((a : Int) + 1)] := hb.set_ 1 _
  have hS : Str (w.setCell ⟨s, 1, none⟩ (.int .i64 ((a : Int) + 1))) s (k + 1) := ⟨_, n, c, a + 1, by omega, hb1, hl.low fun j hj => Below.heap_setCell w _ _ j (Nat.ne_of_lt hj)⟩
  have hX : (w.setCell ⟨s, 1, none⟩ (.int .i64 ((a : Int) + 1))).cell? ⟨B, off + a % n, none⟩ = some (.int .i64 x) := (he.cell hlt hB _).trans hx
  have hL : B < (w.setCell ⟨s, 1, none⟩ (.int .i64 ((a : Int) + 1))).heap.size := by simpa using hlt
  have hS' := Lib.hid hS
  clear hS hl hb hc hx
  have he' := Lib.hid he
  clear he; replace hL := Lib.hid hL; replace hX := Lib.hid hX; replace hb1 := Lib.hid hb1
  go_enter Tryz.func56, Tryz.ntmps56
  go_wp2
  generalize hW : w.setCell ⟨s, 1, none⟩ (.int .i64 ((a : Int) + 1)) = W at *
  clear p1 p2
  have hb2 := hb1.out
  refine wp_region_planS [(0, true), (1, true), (2, true), (3, true), (4, true), (5, true), (6, true), (7, true), (8, true), (9, true), (10, true), (11, true)] 12 (fun w' => Blk w' s 25 #[.slice (some ⟨B, off, none⟩) n c, .int .i64 ((a : Int) + 1)] ∧ Ext W w') Ext (by kernel_rfl) (by kernel_rfl) Ext.refl (fun _ _ _ => Ext.trans) (fun _ _ h he => ⟨h.1.ext he, h.2.trans he⟩) ⟨(by (repeat (with_reducible first | assumption | exact Blk.new' (by simp) | refine Blk.drew ?_ | refine Blk.alloc ?_ _ | exact Ext.refl _ | refine Ext.drew ?_ | refine Ext.alloc ?_ _))), (by (repeat (with_reducible first | assumption | exact Blk.new' (by simp) | refine Blk.drew ?_ | refine Blk.alloc ?_ _ | exact Ext.refl _ | refine Ext.drew ?_ | refine Ext.alloc ?_ _)))⟩ ?_
  repeat
   first
    | (refine plan_quiet rfl rfl (fun _ _ _ _ h => h) ?_
       apply Exists.intro
       refine ⟨fun w' hw' => ?_, ?_⟩
       ·obtain ⟨hH0, hH1⟩ := hw'
        unfold Blk at hH0
        simp [go_sem, quietTo, World.cell?, hH0, Ext.refl, ↓IntWalk.iteOmega, hn]
        first
         | rfl
       simp only [Act.put, sIA, sCS, sCZ])
    | (refine plan_skip rfl rfl (fun _ _ _ _ h => h) ?_
       simp only [Act.put, sIA, sCS, sCZ])
  refine plan_nil fun wr her hwr => ?_
  clear her
  obtain ⟨hH0, hH1⟩ := hwr
  obtain ⟨hC0, hF0⟩ := hH0.walk
  simp only [List.drop_succ_cons, List.drop_zero, List.drop_nil]
  go_wp2
  refine wp_region_planS [(0, true), (1, true), (2, true), (3, true), (4, true), (5, true), (6, true), (7, true), (8, true), (9, true), (10, true), (11, true)] 12 (fun w' => Blk w' s 25 #[.slice (some ⟨B, off, none⟩) n c, .int .i64 ((a : Int) + 1)] ∧ Ext W w') Ext (by kernel_rfl) (by kernel_rfl) Ext.refl (fun _ _ _ => Ext.trans) (fun _ _ h he => ⟨h.1.ext he, h.2.trans he⟩) ⟨(by (repeat (with_reducible first | assumption | exact Blk.new' (by simp) | refine Blk.drew ?_ | refine Blk.alloc ?_ _ | exact Ext.refl _ | refine Ext.drew ?_ | refine Ext.alloc ?_ _))), (by (repeat (with_reducible first | assumption | exact Blk.new' (by simp) | refine Blk.drew ?_ | refine Blk.alloc ?_ _ | exact Ext.refl _ | refine Ext.drew ?_ | refine Ext.alloc ?_ _)))⟩ ?_
  repeat
   first
    | (refine plan_quiet rfl rfl (fun _ _ _ _ h => h) ?_
       apply Exists.intro
       refine ⟨fun w' hw' => ?_, ?_⟩
       ·obtain ⟨hH20, hH21⟩ := hw'
        unfold Blk at hH20
        simp [go_sem, quietTo, World.cell?, hH20, Ext.refl, ↓IntWalk.iteOmega, hn]
        first
         | rfl
       simp only [Act.put, sIA, sCS, sCZ])
    | (refine plan_skip rfl rfl (fun _ _ _ _ h => h) ?_
       simp only [Act.put, sIA, sCS, sCZ])
  refine plan_nil fun wr2 her2 hwr2 => ?_
  clear her2
  obtain ⟨hH20, hH21⟩ := hwr2
  obtain ⟨hC20, hF20⟩ := hH20.walk
  simp only [List.drop_succ_cons, List.drop_zero, List.drop_nil]
  clear hC0 hF0
  obtain ⟨sB, fB⟩ := hH20.walk
  have hwa : IntKind.i64.wrap (a : Int) = a := IntWalk.i64_in _ (by omega)
  have hmo : (a : Int).tmod n = ((a % n : Nat) : Int) := (Int.ofNat_tmod a n).symm
  have hdi : (a : Int).tdiv n = ((a / n : Nat) : Int) := (Int.ofNat_tdiv a n).symm
  have hwd : IntKind.i64.wrap ((a / n : Nat) : Int) = ((a / n : Nat) : Int) := IntWalk.i64_in _ (by generalize a / n = r at hdv ⊢; omega)
  rw [hwa, hmo, hdi, hwd]
  clear hwa hmo hdi hwd
  have hxw : wr2.cell? ⟨B, off + a % n, none⟩ = some (.int .i64 x) := (hH21.extS.cell (s := s) hL.out hB _).trans hX.out
  have hia : a % n ≤ a := Nat.mod_le _ _
  clear hL hX
  have hSS : Str wr2 s (k + 1) := hS'.out.ext hH21
  have hEE : ExtS s w wr2 := he'.out.ext hH21
  clear hS' he' hH21 hH20 hb1 hb2; replace hSS := Lib.hid hSS; replace hEE := Lib.hid hEE
  generalize a % n = i at *
  generalize a / n = r at *
  have hmu : r * (7919 + i) ≤ 1000000 * 1007919 := Nat.mul_le_mul (by omega) (by omega)
  have hm0 : 0 ≤ (r : Int) * (7919 + (i : Int)) := Int.mul_nonneg (by omega) (by omega)
  have hm1 : (r : Int) * (7919 + (i : Int)) ≤ 1000000 * 1007919 := by
   have : ((r * (7919 + i) : Nat) : Int) = (r : Int) * (7919 + (i : Int)) := by simp
   omega
  have hu := belF_range x 1073741824 (by omega)
  have hv := belF_range (belF x 1073741824 + (r : Int) * (7919 + (i : Int))) m (by omega)
  clear hmu
  have hw1 : wrap64 ((r : Int) * (7919 + (i : Int))) = (r : Int) * (7919 + (i : Int)) := IntWalk.wrap64_in _ ⟨Int.le_trans (by decide) hm0, Int.le_trans hm1 (by decide)⟩
  obtain ⟨rr, hrr⟩ : ∃ q, (r : Int) * (7919 + (i : Int)) = q := ⟨_, rfl⟩
  rw [hrr] at hm0 hm1 hv
  replace hw1 := Lib.hid (hw1.trans hrr)
  clear hrr
  have hw2 : wrap64 (belF x 1073741824 + rr) = belF x 1073741824 + rr := IntWalk.wrap64_in _ (by omega)
  replace hw2 := Lib.hid hw2
  go_wp2_with (first | (go_at_call 113; rw [hw1.out, hw2.out]; refine (below_any _ _ _ (by omega) (by omega) (by omega) (by omega)).mono ?_; rintro e w' ⟨rfl, rfl⟩) | (go_at_call 113; with_reducible refine Calls.mono (below_any x 1073741824 _ (by omega) (by omega) (by omega) (by omega)) ?_; rintro e w' ⟨rfl, rfl⟩))
  go_ret
  exact ⟨(belF (belF x 1073741824 + rr) m).toNat, ret_int (by omega), by omega, hSS.out, hEE.out⟩
end Go.Proofs.YtkjhbofbcmelgaaGreatDoor
