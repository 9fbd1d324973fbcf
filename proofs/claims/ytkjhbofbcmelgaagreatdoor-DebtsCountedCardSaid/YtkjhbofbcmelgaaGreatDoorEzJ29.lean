/- A library at a moment, whatever is wrong: the walks of at. Conditions: sizes; at most 19 slips. (Printed by gen_cfa.py.) What is asked of a library where something is wrong: the walks. Conditions: sizes; at most 19 slips. (Printed by gen_cfb.py.) Copies struck from a row (slices.DeleteFunc at copies that are lent). Conditions: a row of the call's own. (Printed by gen_del.py.) -/
import Derived.Test.YtkjhbofbcmelgaaGreatDoorEzLcA
import Derived.Test.YtkjhbofbcmelgaaGreatDoorEzJ5
import Derived.Test.YtkjhbofbcmelgaaGreatDoorEzJ21
import Derived.Laws.CopyRow
import Derived.Shelf.SlicesQ.IndexFunc
set_option linter.unusedSimpArgs false
set_option linter.unusedVariables false
namespace Go.Proofs.YtkjhbofbcmelgaaGreatDoor
open Go Go.RowKit
/-- Titles, rules and slips in memory, right or wrong. -/
structure ListsW (w : World) (tp : Option Addr) (tn tc : Nat) (T : List TitleV) (r : LendR) (dp : Option Addr) (dn dc : Nat) (d : List SlipV) : Prop where
 ti : Slc 3 titleC w tp tn tc T
 ts : ∀ x ∈ T, x.Small
 tl : tn ≤ 1000
 sl : Slc 7 slipC w dp dn dc d
 ss : ∀ x ∈ d, x.Small
 sn : dn ≤ 19
theorem ListsW.ext {w w' : World} {tp : Option Addr} {tn tc : Nat} {T : List TitleV} {r : LendR} {dp : Option Addr} {dn dc : Nat} {d : List SlipV} (h : ListsW w tp tn tc T r dp dn dc d) (he : Ext w w') : ListsW w' tp tn tc T r dp dn dc d :=
 ⟨h.ti.ext he, h.ts, h.tl, h.sl.ext he, h.ss, h.sn⟩
theorem ListsW.ok {w : World} {tp : Option Addr} {tn tc : Nat} {T : List TitleV} {r : LendR} {dp : Option Addr} {dn dc : Nat} {d : List SlipV} (h : ListsW w tp tn tc T r dp dn dc d) (hF : libF T r d = 0) : ListsM w tp tn tc T r dp dn dc d :=
 ⟨h.ti, h.ts, h.tl, h.sl, h.ss, h.sn, hF⟩
def momF (t : Int) : Int := if outB t 0 345686399999 = true then 1 else 0
/-- What is wrong: with the lists, with what is asked, with the moment. -/
def atF (T : List TitleV) (r : LendR) (d : List SlipV) (t b : Int) : Int := orF [libF T r d, b, momF t]
theorem atF_zero {T : List TitleV} {r : LendR} {d : List SlipV} {t b : Int} (h : atF T r d t b = 0) : libF T r d = 0 ∧ b = 0 ∧ outB t 0 345686399999 = false := by
 unfold atF momF at h
 by_cases h1 : libF T r d = 0
 ·by_cases h2 : b = 0
  ·cases hv : outB t 0 345686399999
   ·exact ⟨h1, h2, rfl⟩
   ·rw [h1, h2, hv] at h; cases h
  ·simp [orF, h1, h2] at h
 ·simp [orF, h1] at h
set_option maxRecDepth 100000 in
set_option maxHeartbeats 3200000 in
theorem atN_bad (tp : Option Addr) (tn tc : Nat) (T : List TitleV) (r : LendR) (dp : Option Addr) (dn dc : Nat) (d : List SlipV) (t b : Int) (w : World) (h : ListsW w tp tn tc T r dp dn dc d) (hf : atF T r d t b ≠ 0)
 (hcl : libF T r d = 0 → ∀ u, Ext w u → Calls Tryz.prog 67 #[] u fun e w' => e = .returned (.int .i64 b) ∧ Ext u w') :
 Calls Tryz.prog 64 #[.slice tp tn tc, lendVal r, .slice dp dn dc, .int .i64 t, .func (.func 67) #[] #[]] w fun e w' => e = .returned (.tuple #[.pointer none, .int .i64 (atF T r d t b)]) ∧ Ext w w' := by
 have hl := fun u (hu : Ext w u) => listsFault_any tp tn tc T r dp dn dc d u (h.ext hu).ti.1 h.ts h.tl (h.ext hu).sl.1 h.ss (by have := h.sn; omega)
 have hm := fun u => sMom_is (rfl : outB t 0 345686399999 = outB t 0 345686399999) u
 have he : atF T r d t b = orF [libF T r d, b, momF t] := rfl
 rw [he] at hf ⊢
 unfold momF at hf ⊢
 generalize outB t 0 345686399999 = v at *
 generalize libF T r d = f at *
 unfold lendVal at hl ⊢
 have hE : Ext w (w.alloc (.cells #[.int .i64 r.days, .int .i64 r.late, .int .i64 r.most, .int .i64 r.each] 28)) := (Ext.refl w).alloc _
 clear h he; replace hl := Lib.hid hl; replace hm := Lib.hid hm; replace hE := Lib.hid hE
 by_cases h1 : f = 0
 ·subst h1
  have hcl2 := hcl rfl
  clear hcl; replace hcl2 := Lib.hid hcl2
  by_cases h2 : b = 0
  ·subst h2
   cases v
   ·exact absurd rfl hf
   ·have hz : orF [0,0, if true = true then 1 else 0] = 1 := rfl
    rw [hz]
    clear hf hz
    go_enter Tryz.func64, Tryz.ntmps64
    go_wp2_with (first
     | (go_at_call 60; (with_reducible refine Calls.mono (hl.out _ hE.out) ?_); rintro e w1 ⟨rfl, hb1⟩)
     | (go_at_call 67; (with_reducible refine Calls.mono (hcl2.out _ (hE.out.trans hb1)) ?_); rintro e w2 ⟨rfl, hb2⟩)
     | (go_at_call 125; (with_reducible refine Calls.mono (hm.out _) ?_); rintro e w3 ⟨rfl, hb3⟩))
    go_ret2
    exact ⟨rfl, ((hE.out.trans hb1).trans hb2).trans hb3⟩
  ·have hz : orF [0, b, if v = true then 1 else 0] = b := by simp [orF, h2]
   rw [hz]
   clear hf hz
   have h2b : (b == 0) = false := beq_false_of_ne h2
   replace h2 := Lib.hid h2
   go_enter Tryz.func64, Tryz.ntmps64
   go_wp2_with (first
    | (go_at_call 60; (with_reducible refine Calls.mono (hl.out _ hE.out) ?_); rintro e w1 ⟨rfl, hb1⟩)
    | (go_at_call 67; (with_reducible refine Calls.mono (hcl2.out _ (hE.out.trans hb1)) ?_); rintro e w2 ⟨rfl, hb2⟩))
   go_ret2
   exact ⟨rfl, (hE.out.trans hb1).trans hb2⟩
 ·have hz : orF [f, b, if v = true then 1 else 0] = f := by simp [orF, h1]
  rw [hz]
  clear hf hz hcl
  have h1b : (f == 0) = false := beq_false_of_ne h1
  replace h1 := Lib.hid h1
  go_enter Tryz.func64, Tryz.ntmps64
  go_wp2_with (go_at_call 60; (with_reducible refine Calls.mono (hl.out _ hE.out) ?_); rintro e w1 ⟨rfl, hb1⟩)
  go_ret2
  exact ⟨rfl, hE.out.trans hb1⟩
set_option maxRecDepth 100000 in
set_option maxHeartbeats 3200000 in
theorem atS_bad (tp : Option Addr) (tn tc : Nat) (T : List TitleV) (r : LendR) (dp : Option Addr) (dn dc : Nat) (d : List SlipV) (t b : Int) (gS : Nat) (w : World) (h : ListsW w tp tn tc T r dp dn dc d) (hf : atF T r d t b ≠ 0)
 (hcl : libF T r d = 0 → ∀ u, Ext w u → Calls Tryz.prog 131 #[.pointer (some ⟨gS, 0, none⟩)] u fun e w' => e = .returned (.int .i64 b) ∧ Ext u w') :
 Calls Tryz.prog 64 #[.slice tp tn tc, lendVal r, .slice dp dn dc, .int .i64 t, .func (.func 131) #[] #[.pointer (some ⟨gS, 0, none⟩)]] w fun e w' => e = .returned (.tuple #[.pointer none, .int .i64 (atF T r d t b)]) ∧ Ext w w' := by
 have hl := fun u (hu : Ext w u) => listsFault_any tp tn tc T r dp dn dc d u (h.ext hu).ti.1 h.ts h.tl (h.ext hu).sl.1 h.ss (by have := h.sn; omega)
 have hm := fun u => sMom_is (rfl : outB t 0 345686399999 = outB t 0 345686399999) u
 have he : atF T r d t b = orF [libF T r d, b, momF t] := rfl
 rw [he] at hf ⊢
 unfold momF at hf ⊢
 generalize outB t 0 345686399999 = v at *
 generalize libF T r d = f at *
 unfold lendVal at hl ⊢
 have hE : Ext w (w.alloc (.cells #[.int .i64 r.days, .int .i64 r.late, .int .i64 r.most, .int .i64 r.each] 28)) := (Ext.refl w).alloc _
 clear h he; replace hl := Lib.hid hl; replace hm := Lib.hid hm; replace hE := Lib.hid hE
 by_cases h1 : f = 0
 ·subst h1
  have hcl2 := hcl rfl
  clear hcl; replace hcl2 := Lib.hid hcl2
  by_cases h2 : b = 0
  ·subst h2
   cases v
   ·exact absurd rfl hf
   ·have hz : orF [0,0, if true = true then 1 else 0] = 1 := rfl
    rw [hz]
    clear hf hz
    go_enter Tryz.func64, Tryz.ntmps64
    go_wp2_with (first
     | (go_at_call 60; (with_reducible refine Calls.mono (hl.out _ hE.out) ?_); rintro e w1 ⟨rfl, hb1⟩)
     | (go_at_call 131; (with_reducible refine Calls.mono (hcl2.out _ (hE.out.trans hb1)) ?_); rintro e w2 ⟨rfl, hb2⟩)
     | (go_at_call 125; (with_reducible refine Calls.mono (hm.out _) ?_); rintro e w3 ⟨rfl, hb3⟩))
    go_ret2
    exact ⟨rfl, ((hE.out.trans hb1).trans hb2).trans hb3⟩
  ·have hz : orF [0, b, if v = true then 1 else 0] = b := by simp [orF, h2]
   rw [hz]
   clear hf hz
   have h2b : (b == 0) = false := beq_false_of_ne h2
   replace h2 := Lib.hid h2
   go_enter Tryz.func64, Tryz.ntmps64
   go_wp2_with (first
    | (go_at_call 60; (with_reducible refine Calls.mono (hl.out _ hE.out) ?_); rintro e w1 ⟨rfl, hb1⟩)
    | (go_at_call 131; (with_reducible refine Calls.mono (hcl2.out _ (hE.out.trans hb1)) ?_); rintro e w2 ⟨rfl, hb2⟩))
   go_ret2
   exact ⟨rfl, (hE.out.trans hb1).trans hb2⟩
 ·have hz : orF [f, b, if v = true then 1 else 0] = f := by simp [orF, h1]
  rw [hz]
  clear hf hz hcl
  have h1b : (f == 0) = false := beq_false_of_ne h1
  replace h1 := Lib.hid h1
  go_enter Tryz.func64, Tryz.ntmps64
  go_wp2_with (go_at_call 60; (with_reducible refine Calls.mono (hl.out _ hE.out) ?_); rintro e w1 ⟨rfl, hb1⟩)
  go_ret2
  exact ⟨rfl, hE.out.trans hb1⟩
end Go.Proofs.YtkjhbofbcmelgaaGreatDoor
namespace Go.Proofs.YtkjhbofbcmelgaaGreatDoor
open Go Go.RowKit
set_option maxRecDepth 100000 in
set_option maxHeartbeats 1600000 in
theorem debts_bad (tp : Option Addr) (tn tc : Nat) (T : List TitleV) (r : LendR) (dp : Option Addr) (dn dc : Nat) (d : List SlipV) (t : Int) (w : World) (h : ListsW w tp tn tc T r dp dn dc d) (hf : atF T r d t 0 ≠ 0) :
 Calls Tryz.prog 32 #[.slice tp tn tc, lendVal r, .slice dp dn dc, .int .i64 t] w fun e w' => e = .returned (.tuple #[.slice none 0 0, .int .i64 (atF T r d t 0)]) ∧ Ext w w' := by
 have hat := fun u (hu : Ext w u) => atN_bad tp tn tc T r dp dn dc d t 0 u (h.ext hu) hf fun _ v hv => (nothing_any v).mono fun e w' hh => ⟨hh.1, hh.2 ▸ Ext.refl _⟩
 generalize atF T r d t 0 = f at *
 have hfb : (f == 0) = false := beq_false_of_ne hf
 unfold lendVal at hat ⊢
 have hE : Ext w (w.alloc (.cells #[.int .i64 r.days, .int .i64 r.late, .int .i64 r.most, .int .i64 r.each] 28)) := (Ext.refl w).alloc _
 clear h; replace hf := Lib.hid hf; replace hat := Lib.hid hat; replace hE := Lib.hid hE
 go_enter Tryz.func32, Tryz.ntmps32
 go_wp2_with (go_at_call 64; (with_reducible refine Calls.mono (hat.out _ hE.out) ?_); rintro e w1 ⟨rfl, hb1⟩)
 go_ret2
 exact ⟨rfl, hE.out.trans hb1⟩
set_option maxRecDepth 100000 in
set_option maxHeartbeats 1600000 in
theorem late_bad (tp : Option Addr) (tn tc : Nat) (T : List TitleV) (r : LendR) (dp : Option Addr) (dn dc : Nat) (d : List SlipV) (t : Int) (w : World) (h : ListsW w tp tn tc T r dp dn dc d) (hf : atF T r d t 0 ≠ 0) :
 Calls Tryz.prog 33 #[.slice tp tn tc, lendVal r, .slice dp dn dc, .int .i64 t] w fun e w' => e = .returned (.tuple #[.slice none 0 0, .int .i64 (atF T r d t 0)]) ∧ Ext w w' := by
 have hat := fun u (hu : Ext w u) => atN_bad tp tn tc T r dp dn dc d t 0 u (h.ext hu) hf fun _ v hv => (nothing_any v).mono fun e w' hh => ⟨hh.1, hh.2 ▸ Ext.refl _⟩
 generalize atF T r d t 0 = f at *
 have hfb : (f == 0) = false := beq_false_of_ne hf
 unfold lendVal at hat ⊢
 have hE : Ext w ((w.alloc (.cells #[.int .i64 r.days, .int .i64 r.late, .int .i64 r.most, .int .i64 r.each] 28)).alloc (.cells #[.int .i64 t] 3)) := ((Ext.refl w).alloc _).alloc _
 clear h; replace hf := Lib.hid hf; replace hat := Lib.hid hat; replace hE := Lib.hid hE
 go_enter Tryz.func33, Tryz.ntmps33
 go_wp2_with (go_at_call 64; (with_reducible refine Calls.mono (hat.out _ hE.out) ?_); rintro e w1 ⟨rfl, hb1⟩)
 go_ret2
 exact ⟨rfl, (hE.out.trans hb1).alloc _⟩
end Go.Proofs.YtkjhbofbcmelgaaGreatDoor
namespace Go.Proofs.YtkjhbofbcmelgaaGreatDoor
open Go Go.RowKit
theorem idxFirst {α : Type} (p : α → Bool) (d : α) : ∀ (l : List α) (i : Nat), (Lib.idxByFrom (fun _ y => p y) d l i = -1 ∧ ∀ x ∈ l, p x = false) ∨ ∃ k x, l[k]? = some x ∧ p x = true ∧ Lib.idxByFrom (fun _ y => p y) d l i = ((i + k : Nat) : Int) ∧ ∀ y ∈ l.take k, p y = false
 | [], _ => .inl ⟨rfl, fun x hx => by cases hx⟩
 | y :: r, i => by
   unfold Lib.idxByFrom
   cases h : p y
   ·rcases idxFirst p d r (i + 1) with ⟨h1, h2⟩ | ⟨k, x, hx, hp, e, ha⟩
    ·refine .inl ⟨by simpa using h1, fun x hx => ?_⟩
     rcases List.mem_cons.1 hx with e | hx
     ·subst e; exact h
     ·exact h2 x hx
    ·refine .inr ⟨k + 1, x, hx, hp, ?_, fun z hz => ?_⟩
     ·simp only [Bool.false_eq_true, if_false]
      rw [e]
      congr 1
      omega
     ·rw [List.take_succ_cons] at hz
      rcases List.mem_cons.1 hz with e | hz
      ·subst e; exact h
      ·exact ha z hz
   ·exact .inr ⟨0, y, rfl, h, by simp, fun z hz => by simp at hz⟩
/-! ### plain -/
section
variable {α : Type} {kp : α → Bool} {M : List α} {x : α}
theorem delL_start {k : Nat} (hx : M[k]? = some x) (h : kp x = false) (ha : ∀ y ∈ M.take k, (!kp y) = false) : M.take k = (M.take (k + 1)).filter kp := by
 rw [take_snocL hx, List.filter_append, List.filter_eq_self.2 (fun y hy => by have := ha y hy; simpa using this)]
 simp [h]
theorem delL_keep {i j : Nat} {R : List α} (hx : M[j]? = some x) (h : kp x = true) (hR : R.take i = (M.take j).filter kp) (hi : i < j) (hl : R.length = M.length) (hd : R.drop j = M.drop j) :
 (R.set i x).take (i + 1) = (M.take (j + 1)).filter kp ∧ (R.set i x).drop (j + 1) = M.drop (j + 1) := by
 have hj := (List.getElem?_eq_some_iff.1 hx).1
 have h1 : (R.set i x)[i]? = some x := List.getElem?_set_self (by omega)
 refine ⟨?_, ?_⟩
 ·rw [take_snocL h1, List.take_set_of_le (by omega), hR, take_snocL hx, List.filter_append]
  simp [h]
 ·rw [List.drop_set_of_lt (by omega), ← List.drop_drop, ← List.drop_drop, hd]
theorem delL_skip {j : Nat} (hx : M[j]? = some x) (h : kp x = false) : (M.take (j + 1)).filter kp = (M.take j).filter kp := by
 rw [take_snocL hx, List.filter_append]
 simp [h]
theorem dropL_at {R M : List α} {j : Nat} (h : R.drop j = M.drop j) : R[j]? = M[j]? := by
 have := congrArg (fun l : List α => l[0]?) h
 simpa using this
end
theorem flat_takeK {α : Type} {k : Nat} {enc : α → List Value} (hk : ∀ x, (enc x).length = k) : ∀ (xs : List α) (m : Nat), (xs.flatMap enc).take (m * k) = (xs.take m).flatMap enc
 | xs, 0 => by simp
 | [], m + 1 => by simp
 | x :: xs, m + 1 => by
   have e : (m + 1) * k - (enc x).length = m * k := by rw [hk, Nat.succ_mul, Nat.add_sub_cancel]
   rw [List.flatMap_cons, List.take_succ_cons, List.flatMap_cons, List.take_append, e, flat_takeK hk xs m, List.take_of_length_le (by rw [hk, Nat.succ_mul]; omega)]
/-! ### clear -/
theorem zeroLt (w : World) : (zeroValue 65).run Tryz.prog w = .ok (.agg #[.string ⟨#[]⟩, .int .i64 0, .string ⟨#[]⟩, .int .i64 0]) w := by
 simp [go_sem]
theorem own_clearL {w : World} {base g n m cap : Nat} {xs : List Value} (h : w.ownsRow base 65 4 (.slice (some ⟨g, 0, none⟩) n cap) n xs) (hm : m < n) : ∃ cs, (∀ ty, (Builtin.clear_ #[43] ty #[.slice (some ⟨g, m * 4, none⟩) (n - m) (cap - m)]).run Tryz.prog w = .ok (.tuple #[]) (w.setRow g cs)) ∧ (w.setRow g cs).ownsRow base 65 4 (.slice (some ⟨g, 0, none⟩) m cap) m (xs.take (m * 4)) ∧ ExtS g w (w.setRow g cs) := by
 obtain ⟨h1, h2⟩ := h
 rcases h2 with ⟨h3, -⟩ | ⟨g', cap', cur, hv, hb, hg, hnc, hcm, hcs, ht⟩
 ·cases h3
 cases hv
 have hz : (Builtin.zeroCells #[.string ⟨#[]⟩, .int .i64 0, .string ⟨#[]⟩, .int .i64 0] (n - m)).toList.length = (n - m) * 4 := by simp [Builtin.zeroCells]
 have ho : ∀ v ∈ (Builtin.zeroCells #[.string ⟨#[]⟩, .int .i64 0, .string ⟨#[]⟩, .int .i64 0] (n - m)).toList, v.oneCell' = true := fun v hv => by
  simp only [Builtin.zeroCells, Array.toList_map, List.mem_map] at hv
  obtain ⟨i, -, rfl⟩ := hv
  have hi : i % 4 < 4 := Nat.mod_lt _ (by decide)
  have e : (#[Value.string ⟨#[]⟩, .int .i64 0, .string ⟨#[]⟩, .int .i64 0] : Array Value).size = 4 := rfl
  rw [e]
  generalize i % 4 = q at *
  match q, hi with
  | 0, _ => rfl
  | 1, _ => rfl
  | 2, _ => rfl
  | 3, _ => rfl
 have hst := run_storeCells_at (P := Tryz.prog) g (m * 4) 65 (Builtin.zeroCells #[.string ⟨#[]⟩, .int .i64 0, .string ⟨#[]⟩, .int .i64 0] (n - m)).toList 0 cur w hg (by rw [hz]; omega) ho
 obtain ⟨d, hd⟩ : ∃ d, n - m = d + 1 := ⟨n - m - 1, by omega⟩
 have e3 : (cur.toList.take (m * 4 + 0)).length = m * 4 := by rw [List.length_take, Array.length_toList, hcs]; omega
 simp only [Nat.add_zero] at hst e3
 obtain ⟨vs, hvs⟩ : ∃ vs, vs = (Builtin.zeroCells #[.string ⟨#[]⟩, .int .i64 0, .string ⟨#[]⟩, .int .i64 0] (n - m)).toList := ⟨_, rfl⟩
 rw [← hvs] at hz hst ho
 rw [hd] at hvs
 have hcl : ∀ ty, (Builtin.clear_ #[43] ty #[.slice (some ⟨g, m * 4, none⟩) (n - m) (cap - m)]).run Tryz.prog w = .ok (.tuple #[]) (w.setRow g (cur.toList.take (m * 4) ++ vs ++ cur.toList.drop (m * 4 + vs.length)).toArray) := fun ty => by
  rw [hd]
  simp [Builtin.clear_, run_underlying Tryz.underlying43, zeroLt, Value.cells, ← hvs, hst]
 refine ⟨_, hcl, ⟨by rw [List.length_take, h1]; omega, .inr ⟨g, cap, _, rfl, hb, setRow_heap w g cur _ _ _ hg, by omega, hcm, ?_, ?_⟩⟩, ⟨rfl, rfl, rfl, by simp, fun k hk hn => setRow_other w g k _ hn⟩⟩
 ·simp only [List.size_toArray, List.length_append, e3, hz, List.length_drop, Array.length_toList, hcs]
  omega
 ·have e4 : xs.take (m * 4) = cur.toList.take (m * 4) := by rw [← ht, List.take_take, Nat.min_eq_left (by omega)]
  rw [e4, List.append_assoc]
  exact List.take_left' e3
theorem lent_mod {w : World} {base g n cap : Nat} {xs : List LentV} (h : w.ownsRow base 65 4 (.slice (some ⟨g, 0, none⟩) n cap) n (xs.flatMap lentC)) {i : Nat} {x : LentV} (hx : xs[i]? = some x) (y : LentV) :
 ((((w.setCell ⟨g, i * 4, none⟩ (.string y.piece)).setCell ⟨g, i * 4 + 1, none⟩ (.int .i64 y.no)).setCell ⟨g, i * 4 + 2, none⟩ (.string y.singer)).setCell ⟨g, i * 4 + 3, none⟩ (.int .i64 y.since)).ownsRow base 65 4 (.slice (some ⟨g, 0, none⟩) n cap) n ((xs.set i y).flatMap lentC) := by
 have hil := (List.getElem?_eq_some_iff.1 hx).1
 have hs : ∀ y : LentV, (xs.set i y)[i]? = some y := fun y => List.getElem?_set_self hil
 have h1 := own_set1 lentC_len h ⟨y.piece, x.no, x.singer, x.since⟩ hx 0 (by decide) (.string y.piece) rfl
 have h2 := own_set1 lentC_len h1 ⟨y.piece, y.no, x.singer, x.since⟩ (hs _) 1 (by decide) (.int .i64 y.no) rfl
 rw [List.set_set] at h2
 have h3 := own_set1 lentC_len h2 ⟨y.piece, y.no, y.singer, x.since⟩ (hs _) 2 (by decide) (.string y.singer) rfl
 rw [List.set_set] at h3
 have h4 := own_set1 lentC_len h3 ⟨y.piece, y.no, y.singer, y.since⟩ (hs _) 3 (by decide) (.int .i64 y.since) rfl
 rw [List.set_set] at h4
 exact h4
end Go.Proofs.YtkjhbofbcmelgaaGreatDoor
