/- What a singer has, by the document's library: the walk of with. Conditions: sizes. The document's library: its own cells and loans as they change. Conditions: as each theorem says. The last loan of a copy, by the document's library: slices.Backward, the walk of last. Conditions: sizes. Who had a copy: the walk of Way when all is right. Conditions: sizes; at most 19 slips. -/
import Derived.Test.YtkjhbofbcmelgaaGreatDoorEzShB
import Derived.RangeFuncNested
import Derived.RangeFuncBound
import Derived.RangeFuncCalls
import Derived.RangeFuncLeaves
import Derived.RangeFuncFrom
import Derived.Shelf.Abstract
import Derived.Shelf.RegionOpen
import Derived.WalkKit
import Derived.OwnWalkIn
import Derived.TacticsInMore
import Derived.LoopNIn
import Derived.LoopIn
import Derived.Test.YtkjhbofbcmelgaaGreatDoorEzLcA
set_option linter.unusedSimpArgs false
set_option linter.unusedVariables false
namespace Go.Proofs.YtkjhbofbcmelgaaGreatDoor
open Go Go.RowKit
def ownB (X : List LoanV) (s p : ByteArray) : Bool := (openOf X s).any fun l => decide (l.piece = p)
theorem own_snocB (X : List LoanV) (l : LoanV) (s p : ByteArray) : ownB (X ++ [l]) s p = (ownB X s p || (decide (l.Open ∧ l.singer = s) && decide (l.piece = p))) := by
 unfold ownB
 rw [open_snoc, List.any_append]
 by_cases h : l.Open ∧ l.singer = s <;> simp [h]
theorem open_snoc_len (X : List LoanV) (l : LoanV) (s : ByteArray) : (openOf (X ++ [l]) s).length = (openOf X s).length + if l.Open ∧ l.singer = s then 1 else 0 := by
 rw [open_snoc, List.length_append]
 by_cases h : l.Open ∧ l.singer = s <;> simp [h]
set_option maxRecDepth 100000 in
set_option maxHeartbeats 3200000 in
theorem with_any {base : Nat} {w : World} {bb ms mr q nr : Nat} {tp : Option Addr} {tn tc : Nat} {r : LendR} {L : LibS} {F : Int → Option Int} (h : ShM base w bb ms mr q nr tp tn tc r L F) (hl : L.loans.length ≤ 1000) (s p : ByteArray) :
 Calls Tryz.prog 232 #[.pointer (some ⟨bb, 0, none⟩), .string s, .string p] w fun e w' => e = .returned (.tuple #[.int .i64 ((openOf L.loans s).length : Int), .bool (ownB L.loans s p)]) ∧ Ext w w' := by
 obtain ⟨⟨lv, hB, ho⟩, -, -, -⟩ := h
 obtain ⟨lp, lc, rfl, hS⟩ := slc_of_own loanC_len ho (by decide) (by omega)
 have c6 := hB.cell 6
 have lb := hB.lt
 unfold shC at c6
 have hX : ∀ k, (openOf (L.loans.take k) s).length ≤ k := fun k => Nat.le_trans (open_len _ _) (by rw [List.length_take]; omega)
 generalize L.loans = X at *
 replace hS := Lib.hid hS; replace hX := Lib.hid hX; clear hB ho
 go_enter Tryz.func232, Tryz.ntmps232
 go_wp2
 go_loopw [6,7,15] (fun v6 v7 v15 wr => ∃ k : Nat, v15 = .int .i64 k ∧ k ≤ X.length ∧ v6 = .int .i64 ((openOf (X.take k) s).length : Int) ∧ v7 = .bool (ownB (X.take k) s p) ∧ Ext w wr) (fun _ _ v15 _ => X.length - (intOf v15).toNat)
 case atStart => exact ⟨0, rfl, Nat.zero_le _, rfl, rfl, Ext.refl _⟩
 case round =>
  obtain ⟨k, rfl, hk2, rfl, rfl, he⟩ := hrel
  by_cases hlt : k < X.length
  ·obtain ⟨l, hx⟩ := getD_some (rfl : X.length = X.length) hlt
   obtain ⟨b, off, rfl, hb, hEl⟩ := hS.out.1.2.2 (by omega)
   have hEr := hEl.ext he hb
   have d0 : wr.cell? ⟨b, off + k * 6, none⟩ = some (.string l.piece) := hEr k _ hx 0 _ rfl
   have d1 : wr.cell? ⟨b, off + k * 6 + 1, none⟩ = some (.int .i64 l.no) := hEr k _ hx 1 _ rfl
   have d2 : wr.cell? ⟨b, off + k * 6 + 2, none⟩ = some (.string l.singer) := hEr k _ hx 2 _ rfl
   have d3 : wr.cell? ⟨b, off + k * 6 + 3, none⟩ = some (.int .i64 l.since) := hEr k _ hx 3 _ rfl
   have d4 : wr.cell? ⟨b, off + k * 6 + 4, none⟩ = some (.int .i64 l.till) := hEr k _ hx 4 _ rfl
   have d5 : wr.cell? ⟨b, off + k * 6 + 5, none⟩ = some (.bool l.lost) := hEr k _ hx 5 _ rfl
   have hkI : (k : Int) < (X.length : Int) := by omega
   have hl1 := open_snoc_len (X.take k) l s
   have ho1 := own_snocB (X.take k) l s p
   rw [← take_snocL hx] at hl1 ho1
   have hkm := hX.out k
   have hE1 := he.alloc (.cells (loanC l).toArray 148)
   unfold loanC at hE1
   replace hx := Lib.hid hx; replace hEl := Lib.hid hEl; replace hE1 := Lib.hid hE1; clear hEr
   generalize (openOf (X.take k) s).length = m at *
   generalize ownB (X.take k) s p = ob at *
   have hwm : IntKind.i64.wrap ((m : Int) + 1) = (m : Int) + 1 := IntWalk.i64_in _ (by omega)
   by_cases hop : l.till < 0
   ·cases hq : (l.singer.toList == s.toList)
    ·have hne : ¬ (l.Open ∧ l.singer = s) := fun e => by rw [bytesB.2 e.2] at hq; cases hq
     rw [if_neg hne, Nat.add_zero] at hl1
     rw [decide_eq_false hne, Bool.false_and, Bool.or_false] at ho1
     replace hl1 := Lib.hid hl1; replace ho1 := Lib.hid ho1; replace hne := Lib.hid hne
     go_wp2
     go_roundw
     case rel => exact ⟨k + 1, by go_num, by omega, by rw [hl1.out]; rfl, by rw [ho1.out], hE1.out⟩
     case measure => simp [intOf]; omega
    ·have hyes : l.Open ∧ l.singer = s := ⟨hop, bytesB.1 hq⟩
     rw [if_pos hyes] at hl1
     rw [decide_eq_true hyes, Bool.true_and] at ho1
     replace hl1 := Lib.hid hl1; replace hyes := Lib.hid hyes
     cases ob
     ·cases hp : (l.piece.toList == p.toList)
      ·rw [decide_eq_false (fun e => by rw [bytesB.2 e] at hp; cases hp)] at ho1
       replace ho1 := Lib.hid ho1
       go_wp2
       go_roundw
       case rel => exact ⟨k + 1, by go_num, by omega, by rw [hl1.out]; rfl, by rw [ho1.out]; rfl, hE1.out⟩
       case measure => simp [intOf]; omega
      ·rw [decide_eq_true (bytesB.1 hp)] at ho1
       replace ho1 := Lib.hid ho1
       go_wp2
       go_roundw
       case rel => exact ⟨k + 1, by go_num, by omega, by rw [hl1.out]; rfl, by rw [ho1.out]; rfl, hE1.out⟩
       case measure => simp [intOf]; omega
     ·replace ho1 := Lib.hid ho1
      go_wp2
      go_roundw
      case rel => exact ⟨k + 1, by go_num, by omega, by rw [hl1.out]; rfl, by rw [ho1.out]; rfl, hE1.out⟩
      case measure => simp [intOf]; omega
   ·have hne : ¬ (l.Open ∧ l.singer = s) := fun e => hop e.1
    rw [if_neg hne, Nat.add_zero] at hl1
    rw [decide_eq_false hne, Bool.false_and, Bool.or_false] at ho1
    replace hl1 := Lib.hid hl1; replace ho1 := Lib.hid ho1; replace hne := Lib.hid hne
    go_wp2
    go_roundw
    case rel => exact ⟨k + 1, by go_num, by omega, by rw [hl1.out]; rfl, by rw [ho1.out], hE1.out⟩
    case measure => simp [intOf]; omega
  ·obtain rfl : X.length = k := by omega
   rw [List.take_length]
   go_wp2
   go_ret2
   exact ⟨rfl, he⟩
end Go.Proofs.YtkjhbofbcmelgaaGreatDoor
namespace Go.Proofs.YtkjhbofbcmelgaaGreatDoor
open Go Go.RowKit
theorem ShM.more {base : Nat} {w : World} {bb ms mr q nr : Nat} {tp : Option Addr} {tn tc : Nat} {r : LendR} {L : LibS} {F : Int → Option Int} (h : ShM base w bb ms mr q nr tp tn tc r L F) {q' : Nat} (hq : q ≤ q') : ShM base w bb ms mr q' nr tp tn tc r L F := ⟨h.row, h.st.le hq, h.ref, h.ne⟩
/-- The library's own cells and its loans. -/
def DRow (base : Nat) (w : World) (bb : Nat) (tp : Option Addr) (tn tc : Nat) (r : LendR) (ms mr : Nat) (lv : Value) (X : List LoanV) : Prop :=
 Blk w bb 143 (shC tp tn tc r ms mr lv) ∧ w.ownsRow base 148 6 lv X.length (X.flatMap loanC)
section
variable {base : Nat} {w w' : World} {bb ms mr q : Nat} {tp : Option Addr} {tn tc : Nat} {r : LendR} {lv : Value} {X : List LoanV}
theorem DRow.ext (h : DRow base w bb tp tn tc r ms mr lv X) (he : Ext w w') : DRow base w' bb tp tn tc r ms mr lv X := ⟨h.1.ext he, own_ext he h.2⟩
theorem DRow.turned (h : DRow base w bb tp tn tc r ms mr lv X) {m : Nat} (hg : w.grownBy w' (some m)) (hm : ∃ es c, w.heap[m]? = some (.map es c)) : DRow base w' bb tp tn tc r ms mr lv X := by
 obtain ⟨es, c, hm⟩ := hm
 refine ⟨(hg.block bb h.1.lt fun e => ?_).trans h.1, h.2.kept hg (.inr fun e => ?_)⟩
 ·cases e
  have h3 : w.heap[bb]? = some (.cells (shC tp tn tc r ms mr lv) 143) := h.1
  rw [h3] at hm
  cases hm
 ·rcases h.2.2 with ⟨rfl, _⟩ | ⟨g, cap, cur, rfl, _, h3, _⟩
  ·simp [Value.ownBlock] at e
  ·have e2 : g = m := by simpa [Value.ownBlock] using e
   subst e2
   rw [h3] at hm
   cases hm
/-- One loan more: the row grew, and the library's cell was set. -/
theorem DRow.more (h : DRow base w bb tp tn tc r ms mr lv X) {v' : Value} {y : LoanV} (ho : w'.ownsRow base 148 6 v' (X.length + 1) (X.flatMap loanC ++ loanC y)) (hg : w.grownBy w' lv.ownBlock) :
 DRow base (w'.setCell ⟨bb, 6, none⟩ v') bb tp tn tc r ms mr v' (X ++ [y]) := by
 have hb : Blk w' bb 143 (shC tp tn tc r ms mr lv) := (hg.block bb h.1.lt fun e => own_no h.2 h.1 (by decide) e.symm).trans h.1
 refine ⟨hb.set_ 6 v', ?_⟩
 have e1 : (X ++ [y]).length = X.length + 1 := by simp
 have e2 : (X ++ [y]).flatMap loanC = X.flatMap loanC ++ loanC y := by simp [List.flatMap_append]
 rw [e1, e2]
 exact ho.kept (grown_set w' ⟨bb, 6, none⟩ v') (.inr fun e => own_no ho hb (by decide) e)
end
/-- The library's two maps. -/
structure ShP (w : World) (ms mr q nr : Nat) (S : IdV → Option ByteArray) (F : Int → Option Int) : Prop where
 st : OwnK docS w ms q S
 ref : OwnX intE w mr nr F
 ne : ms ≠ mr
section
variable {w w' : World} {ms mr q nr : Nat} {S : IdV → Option ByteArray} {F : Int → Option Int}
theorem ShP.ext (h : ShP w ms mr q nr S F) (he : Ext w w') : ShP w' ms mr q nr S F := ⟨h.st.ext he, h.ref.ext he, h.ne⟩
theorem ShP.kept (h : ShP w ms mr q nr S F) {row : Option Nat} (hg : w.grownBy w' row) (hn : NoMap w row) : ShP w' ms mr q nr S F := by
 refine ⟨h.st.grown hg ?_, h.ref.grown hg ?_, h.ne⟩
 ·obtain ⟨es, c, e⟩ := h.st.isMap; exact hn _ _ _ e
 ·obtain ⟨es, c, e⟩ := h.ref.isMap; exact hn _ _ _ e
theorem ShP.more (h : ShP w ms mr q nr S F) {q' : Nat} (hq : q ≤ q') : ShP w ms mr q' nr S F := ⟨h.st.le hq, h.ref, h.ne⟩
theorem ShP.put (h : ShP w ms mr q nr S F) {k : IdV} (hk : okSN k) (hq : q ≤ 1000000000) (v : ByteArray) :
 ∃ w', (Instr.mapUpdate 140 (.map (some ms)) (snV k) (.string v)).run Tryz.prog w = .ok () w' ∧ ShP w' ms mr (q + 1) nr (setF S k v) F ∧ w.grownBy w' (some ms) := by
 obtain ⟨w', r1, r2, r3⟩ := h.st.put (k := k) hk (by omega) v
 exact ⟨w', r1, ⟨r2, h.ref.grown r3 (by simpa using h.ne.symm), h.ne⟩, r3⟩
end
theorem DRow.lib {base : Nat} {w : World} {bb ms mr q nr : Nat} {tp : Option Addr} {tn tc : Nat} {r : LendR} {lv : Value} {L : LibS} {F : Int → Option Int} (h : DRow base w bb tp tn tc r ms mr lv L.loans) (hp : ShP w ms mr q nr L.st F) : ShM base w bb ms mr q nr tp tn tc r L F := ⟨⟨lv, h.1, h.2⟩, hp.st, hp.ref, hp.ne⟩
theorem ShM.parts {base : Nat} {w : World} {bb ms mr q nr : Nat} {tp : Option Addr} {tn tc : Nat} {r : LendR} {L : LibS} {F : Int → Option Int} (h : ShM base w bb ms mr q nr tp tn tc r L F) : ∃ lv, DRow base w bb tp tn tc r ms mr lv L.loans ∧ ShP w ms mr q nr L.st F := by
 obtain ⟨⟨lv, h1, h2⟩, h3, h4, h5⟩ := h
 exact ⟨lv, ⟨h1, h2⟩, h3, h4, h5⟩
end Go.Proofs.YtkjhbofbcmelgaaGreatDoor
namespace Go.Proofs.YtkjhbofbcmelgaaGreatDoor
open Go Go.RowKit Go.Shelf
attribute [local go_sem] Oper.semAt_some
/-- What has come when k rounds are over, from the end on. -/
def downTo (len : Nat) (h : 0 < len) (k : Nat) : List {j : Nat // j < len} := (List.range k).map fun m => ⟨len - 1 - m, by omega⟩
theorem downTo_succ (len : Nat) (h : 0 < len) (k : Nat) : downTo len h (k + 1) = downTo len h k ++ [⟨len - 1 - k, by omega⟩] := by simp [downTo, List.range_succ]
theorem downTo_length (len : Nat) (h : 0 < len) (k : Nat) : (downTo len h k).length = k := by simp [downTo]
def loanVal2 (l : LoanV) : Value := .agg #[.string l.piece, .int .i64 l.no, .string l.singer, .int .i64 l.since, .int .i64 l.till, .bool l.lost]
def backArgs (X : List LoanV) (len : Nat) (x : {j : Nat // j < len}) : Array Value := #[.int .i64 (x.1 : Int), loanVal2 (X.getD x.1 default)]
set_option maxRecDepth 100000 in
set_option maxHeartbeats 2000000 in
theorem back1_in (F : Fence) (n : Nat) (hf : F.fn 271) (hro : F.round = none) (hn : 1 ≤ n) (l Bs n₀ b off len cap : Nat) (X : List LoanV) (hX : X.length = len) (hpos : 0 < len) (hreach : len ≤ 1000000) (hb : b < n₀) (hBn : Bs < n₀) (J Jx : List {j : Nat // j < len} → World → Prop)
 (hY : ∀ pre x W, J pre W → pre.length < len → YieldAt F (n - 1) Tryz.prog l (backArgs X len x) W fun e W' =>
   (e = .returned (.bool true) ∧ J (pre ++ [x]) W' ∧ Below n₀ W W') ∨ (e = .returned (.bool false) ∧ Jx (pre ++ [x]) W'))
 (W : World) (hBs : W.cell? ⟨Bs, 0, none⟩ = some (.slice (some ⟨b, off, none⟩) len cap)) (hE : Elems 6 loanC W b off X) (h0 : J [] W) :
 CallsIn F n Tryz.prog 271 #[.func (.yield l) #[] #[], .pointer (some ⟨Bs, 0, none⟩)] W fun e W' => (∃ v, e = .returned v) ∧
  ((∃ ys, ys = downTo len hpos len ∧ J ys W') ∨ (∃ pre, (∃ k, k ≤ len ∧ pre = downTo len hpos k) ∧ Jx pre W')) := by
 refine callsIn_of_wp Tryz.func271 rfl hf ?_ hro
 simp only [Tryz.ntmps271, List.size_toArray, List.length_cons, List.length_nil, Nat.reduceAdd, Nat.reduceSub, Array.replicate_succ, Array.replicate_zero, List.push_toArray, List.append_toArray, List.nil_append, List.cons_append]
 have hw1 : IntKind.i64.wrap ((len : Int) - 1) = (len : Int) - 1 := IntWalk.i64_in _ (by omega)
 gi_wp2
 gi_loopw [3] (fun i wr => ∃ k : Nat, k ≤ len ∧ i = .int .i64 ((len : Int) - 1 - k) ∧ J (downTo len hpos k) wr ∧ Below n₀ W wr)
  (fun i _ => ((intOf i) + 1).toNat)
 case atStart => exact ⟨0, Nat.zero_le _, by simp, h0, Below.refl _ _⟩
 case round =>
  obtain ⟨k, hk, rfl, hJs, hnx⟩ := hrel
  by_cases hlt : k < len
  ·obtain ⟨m, hm⟩ : ∃ m : Nat, m = len - 1 - k := ⟨_, rfl⟩
   have hmI : (len : Int) - 1 - k = (m : Int) := by omega
   have hmlt : m < len := by omega
   obtain ⟨fn, tmps, assign, body, hy, hR⟩ := hY _ ⟨m, hmlt⟩ wr hJs (by rw [downTo_length]; exact hlt)
   obtain ⟨x, hx⟩ : ∃ x, X[m]? = some x := ⟨_, List.getElem?_eq_getElem (by omega)⟩
   have hxd : X.getD m default = x := by rw [List.getD_eq_getElem?_getD, hx]; rfl
   unfold backArgs loanVal2 at hy
   dsimp only at hy
   rw [hxd] at hy
   have hEr : ∀ (j : Nat) (v : Value), (loanC x)[j]? = some v → wr.cell? ⟨b, off + m * 6 + j, none⟩ = some v := fun j v hv => (hnx.cell (p := ⟨b, off + m * 6 + j, none⟩) hb).trans (hE m x hx j v hv)
   have d0 : wr.cell? ⟨b, off + m * 6, none⟩ = some (.string x.piece) := hEr 0 _ rfl
   have d1 : wr.cell? ⟨b, off + m * 6 + 1, none⟩ = some (.int .i64 x.no) := hEr 1 _ rfl
   have d2 : wr.cell? ⟨b, off + m * 6 + 2, none⟩ = some (.string x.singer) := hEr 2 _ rfl
   have d3 : wr.cell? ⟨b, off + m * 6 + 3, none⟩ = some (.int .i64 x.since) := hEr 3 _ rfl
   have d4 : wr.cell? ⟨b, off + m * 6 + 4, none⟩ = some (.int .i64 x.till) := hEr 4 _ rfl
   have d5 : wr.cell? ⟨b, off + m * 6 + 5, none⟩ = some (.bool x.lost) := hEr 5 _ rfl
   have hBr : wr.cell? ⟨Bs, 0, none⟩ = some (.slice (some ⟨b, off, none⟩) len cap) := (hnx.cell (p := ⟨Bs, 0, none⟩) hBn).trans hBs
   have hm1 : IntKind.i64.wrap ((m : Int) - 1) = (m : Int) - 1 := IntWalk.i64_in _ (by omega)
   have hmlI : (m : Int) < (len : Int) := by omega
   have hs1 := downTo_succ len hpos k
   have hse : (⟨len - 1 - k, by omega⟩ : {j : Nat // j < len}) = ⟨m, hmlt⟩ := by simp only [hm]
   rw [hse] at hs1
   rw [hmI]
   clear hse; replace hs1 := Lib.hid hs1; replace hx := Lib.hid hx; replace hm := Lib.hid hm; replace hmI := Lib.hid hmI; replace hxd := Lib.hid hxd
   gi_wp2
   refine hR.mono ?_
   rintro e W3 (⟨rfl, hJ3, hk3⟩ | ⟨rfl, hJx3⟩)
   ·gi_wp2
    go_roundw
    case rel => exact ⟨k + 1, by omega, by have := hmI.out; rw [show (len : Int) - 1 - ((k + 1 : Nat) : Int) = (m : Int) - 1 by omega], by rw [hs1.out]; exact hJ3, hnx.trans hk3⟩
    case measure => simp [intOf] <;> omega
   ·gi_wp2
    refine bodyPost_ret (results_none rfl _ _ _) rfl ?_
    exact ⟨⟨_, rfl⟩, .inr ⟨_, ⟨k + 1, by omega, hs1.out.symm⟩, hJx3⟩⟩
  ·obtain rfl : k = len := by omega
   have hneg : ¬ (0 : Int) ≤ (k : Int) - 1 - k := by omega
   gi_wp2
   go_end0
   exact ⟨⟨_, rfl⟩, .inl hJs⟩
end Go.Proofs.YtkjhbofbcmelgaaGreatDoor
namespace Go.Proofs.YtkjhbofbcmelgaaGreatDoor
open Go Go.RowKit Go.Maps Go.Sort
theorem strLen (x : ByteArray) : (strC x).length = 1 := rfl
theorem strOne (x : ByteArray) : ∀ u ∈ strC x, u.oneCell' = true := by simp [strC, Value.oneCell']
theorem strInfoW : (Tryz.prog.info? 9).map (fun i => (i.zero, i.size, i.bytes)) = some (some (.string ⟨#[]⟩), 1,16) := by kernel_rfl
end Go.Proofs.YtkjhbofbcmelgaaGreatDoor
