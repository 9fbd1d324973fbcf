/- The name of a note, by tune. Conditions: the note is one. What the rows of the laws share: the argument's list; the listed table. Conditions: none. Numbers in texts, by kit. Conditions: the string's size; at most 15 digits. Numbers in texts: kit.Number reads what strconv.Itoa writes, and nothing else. Plain mathematics. Conditions: as each theorem says. Texts of lines and words, plain. Conditions: as each theorem says. -/
import Derived.Test.YtkjhbofbcmelgaaGreatDoorEzJ5
import Derived.Test.YtkjhbofbcmelgaaGreatDoorEzJ7
import Derived.Test.YtkjhbofbcmelgaaGreatDoorEzJ2
import Derived.Lib.AppendIntMem
import Derived.Lib.ItoaLen
import Derived.Test.YtkjhbofbcmelgaaGreatDoorRows
import Derived.ProofKit
import Derived.OpenShut
import Derived.ChangeOld
import Derived.ChangeSame
import Derived.ChangeVars
import Derived.JoinedOf
import Derived.LaidLaws
import Derived.LaidHandle
import Derived.MakeChecks
import Derived.Lib.LaidTab
import Derived.Stop.Joined
import Derived.Below
import Derived.Lay
import Derived.Lib.SlTrimSet
import Derived.Outline
import Derived.Test.YtkjhbofbcmelgaaGreatDoorEzJ0
import Derived.Test.YtkjhbofbcmelgaaGreatDoorEzJ3
set_option linter.unusedSimpArgs false
set_option linter.unusedVariables false
namespace Go.Proofs.YtkjhbofbcmelgaaGreatDoor
open Go Go.RowKit
/-- The table of the powers of ten lies ahead of block B. -/
def Tab (B : Nat) (w : World) : Prop := B ≤ w.heap.size ∧ Lib.TabBelow Tryz.prog B w "internal/strconv.uint64pow10" .u64 Lib.pow10Tab
theorem Tab.ext {B : Nat} {w w' : World} (h : Tab B w) (he : Ext w w') : Tab B w' := ⟨Nat.le_trans h.1 he.size, h.2.on (Below.mono he h.1)⟩
theorem Tab.extS {B s : Nat} {w w' : World} (h : Tab B w) (hs : B ≤ s) (he : ExtS s w w') : Tab B w' :=
 ⟨Nat.le_trans h.1 he.2.2.2.1, h.2.on ⟨he.1, he.2.1, he.2.2.1, he.2.2.2.1, fun k hk => he.2.2.2.2 k (Nat.lt_of_lt_of_le hk h.1) (by omega)⟩⟩
theorem itoa_any (n : Int) (h0 : -9223372036854775808 ≤ n) (h1 : n ≤ 9223372036854775807) (B : Nat) (w : World) (ht : Tab B w) :
 Calls Tryz.prog 88 #[.int .i64 n] w fun e w' => e = .returned (.string ⟨(Lib.itoa n).toArray⟩) ∧ Ext w w' :=
 (Tryz.strconv_Itoa n h0 h1 w ht.2.here).mono fun e w' ⟨he, k, os, hw⟩ => ⟨he, by subst hw; exact Lib.below_grow _ _ (Nat.le_refl _) k os⟩
end Go.Proofs.YtkjhbofbcmelgaaGreatDoor
namespace Go.Proofs.YtkjhbofbcmelgaaGreatDoor
open Go.ChangeShapes Go.WideShapes Go.ChangeAt Go.RowKit
theorem own : ownKnob Tryz.prog.godebug = none := by kernel_rfl
theorem laidOut : laidOutB Tryz.prog = true := by kernel_rfl
theorem lst_of_row {W : World} {x : Addr} {len cap : Nat} {zs : List Int} (hl : len ≤ cap) (hm : cap ≤ maxLen) (hz : zs.length = cap) (hc : ∀ i, i < zs.length → W.cell? (x.add i) = some (.int .i64 (zs.getD i 0))) (hw : ∀ n ∈ zs, (Lit.int .i64 n).wf = true) :
 Lst W W.heap.size (some x) len := by
 refine ⟨Nat.le_trans (Nat.le_trans hl hm) (by decide), fun hn => ?_⟩
 obtain ⟨B, off, sp⟩ := x
 have h0 := hc 0 (by omega)
 have hs : sp = none := by
  cases sp with
  | none => rfl
  | some q => simp [Addr.add, World.cell?] at h0; split at h0 <;> simp at h0
 subst hs
 have hadd : ∀ i, (⟨B, off, none⟩ : Addr).add i = ⟨B, off + i, none⟩ := fun i => by
  unfold Addr.add
  split
  ·subst_vars; rfl
  ·rfl
 have hB : B < W.heap.size := by
  rcases Nat.lt_or_ge B W.heap.size with h | h
  ·exact h
  ·rw [hadd] at h0
   simp [World.cell?, Array.getElem?_eq_none h] at h0
 refine ⟨B, off, rfl, hB, fun i hi => ⟨zs.getD i 0, by rw [← hadd]; exact hc i (by omega), ?_⟩⟩
 have hi' : i < zs.length := by omega
 have hg : zs.getD i 0 = zs[i] := by simp [hi']
 have := hw (zs.getD i 0) (by rw [hg]; exact List.getElem_mem _)
 simp [Lit.wf, IntKind.min, IntKind.max] at this
 first | omega | exact this
/-- The table of the powers of ten, out of what a row lists. -/
theorem tab_of_vars {P : Program} {W : World} {name : String} {k : IntKind} {zs : List Int} {g : Nat} {t e : TypeId} {n : Nat}
 (hg : P.globalNamed name = some g) (hty : (P.globals[g]?).map (·.type) = some t) (ht : P.underlying t = some (.array n e)) (he : P.underlying e = some (.int k)) (hce : P.cellsOf e = 1) (hct : P.cellsOf t = n) :
 ∀ (laid : List (String × DataW Unit)) (ps : List MemPlace), DataW.LaidVars P W laid ps → (name, Lib.tabData k zs) ∈ laid → Lib.TabIs P W name k zs
 | [], _, _, hm => by cases hm
 | (m, d) :: r, ps, h, hm => by
   obtain ⟨g', t', cs, fuel, p, q, hg', ht', hvar, hd, hr, _⟩ := h
   rcases List.mem_cons.1 hm with hh | hh
   ·injection hh with h1 h2
    subst h1
    subst h2
    obtain rfl := Option.some.inj (hg.symm.trans hg')
    obtain rfl := Option.some.inj (hty.symm.trans ht')
    unfold Lib.TabIs
    rw [hvar, ← Lib.cells_of_tab ht he hce hct hd]
   ·exact tab_of_vars hg hty ht he hce hct r q hr hh
theorem tab_of_met {laid : List (String × DataW Unit)} {W : World} (h : laidMetH Tryz.prog laid W) (hm : (laid.all fun x => x.2.handleName?.isNone) = true) (i : Nat) (hi : laid[i]? = some ("internal/strconv.uint64pow10", Lib.tabData .u64 Lib.pow10Tab)) : Tab W.heap.size W := by
 rw [Go.MakeChecks.laidMetH_plain _ _ _ hm] at h
 obtain ⟨ps, hv, _⟩ := h
 have hg : Tryz.prog.globalNamed "internal/strconv.uint64pow10" = some (Tryz.prog.globalNamed "internal/strconv.uint64pow10" |>.getD 0) := by kernel_rfl
 have hT := tab_of_vars (P := Tryz.prog) (k := .u64) (zs := Lib.pow10Tab) (t := 307) (e := 235) (n := 20) hg (by kernel_rfl) Tryz.underlying307 Tryz.underlying235 (by kernel_rfl) (by kernel_rfl) laid ps hv (List.mem_of_getElem? hi)
 exact ⟨Nat.le_refl _, Lib.tabBelow_of_tabIs hT⟩
end Go.Proofs.YtkjhbofbcmelgaaGreatDoor
namespace Go.Proofs.YtkjhbofbcmelgaaGreatDoor
open Go Go.RowKit
def digitsB : ByteArray := ⟨#[48,49,50,51,52,53,54,55,56,57]⟩
def trimD (s : ByteArray) : ByteArray := ⟨(Lib.trimS s.data.toList digitsB.data.toList).toArray⟩
def undashB (s : ByteArray) : ByteArray := ⟨(Lib.trimPrefix s.data.toList [45]).toArray⟩
def dashed (s : ByteArray) : Bool := Lib.hasPrefix s.data.toList [45]
def numOk (most : Int) (s : ByteArray) : Bool :=
 !(undashB s).toList.isEmpty && decide ((undashB s).size ≤ most) && (trimD (undashB s)).toList.isEmpty && !(((undashB s).data.toList.getD 0 0 == 48) && (decide (1 < (undashB s).size) || dashed s))
def numV (s : ByteArray) : Int := if dashed s then -((Lib.atoi (undashB s).data.toList).getD 0) else (Lib.atoi (undashB s).data.toList).getD 0
end Go.Proofs.YtkjhbofbcmelgaaGreatDoor
namespace Go.Proofs.YtkjhbofbcmelgaaGreatDoor
open Go Go.Lib
def itoaL (n : Int) : ByteArray := ⟨(Lib.itoa n).toArray⟩
theorem ba_eq {s t : ByteArray} (h : s.data.toList = t.data.toList) : s = t := by
 cases s; cases t
 simp only at h
 congr 1
 exact Array.ext' h
theorem digits_in {b : UInt8} (h : 48 ≤ b.toNat ∧ b.toNat ≤ 57) : digitsB.data.toList.contains b = true := by
 have hb : b = UInt8.ofNat b.toNat := UInt8.ofNat_toNat.symm
 obtain ⟨n, hn⟩ : ∃ n, b.toNat = n := ⟨_, rfl⟩
 rw [hn] at hb h
 rw [hb]
 obtain rfl | rfl | rfl | rfl | rfl | rfl | rfl | rfl | rfl | rfl : n = 48 ∨ n = 49 ∨ n = 50 ∨ n = 51 ∨ n = 52 ∨ n = 53 ∨ n = 54 ∨ n = 55 ∨ n = 56 ∨ n = 57 := by omega
 all_goals decide
theorem dropWhile_all {α : Type} {p : α → Bool} : ∀ {l : List α}, (∀ x ∈ l, p x = true) → l.dropWhile p = []
 | [], _ => rfl
 | x :: l, h => by
   rw [List.dropWhile_cons, if_pos (h x List.mem_cons_self)]
   exact dropWhile_all fun y hy => h y (List.mem_cons_of_mem _ hy)
theorem trimS_all {l cs : List UInt8} (h : ∀ b ∈ l, cs.contains b = true) : Lib.trimS l cs = [] := by
 have h1 : Lib.trimRightS l cs = [] := by
  unfold Lib.trimRightS
  rw [dropWhile_all fun b hb => h b (List.mem_reverse.1 hb)]; rfl
 unfold Lib.trimS
 rw [h1]; rfl
theorem atoi_dec {l : List UInt8} {v : Nat} (hne : l ≠ []) (hd : ∀ b ∈ l, 48 ≤ b.toNat ∧ b.toNat ≤ 57) (h : decFrom 0 l = some v) : Lib.atoi l = some (v : Int) := by
 cases l with
 | nil => exact absurd rfl hne
 | cons b r =>
   have hb := hd b List.mem_cons_self
   unfold Lib.atoi
   dsimp only
   rw [if_neg (fun e => by have := congrArg UInt8.toNat (beq_iff_eq.1 e); simp at this; omega), if_neg (fun e => by have := congrArg UInt8.toNat (beq_iff_eq.1 e); simp at this; omega)]
   unfold decNat
   rw [if_neg (by simp), h]; rfl
/-- What is written is read as it was. -/
theorem num_readM {m n : Nat} (h : n < 10 ^ m) (hm : 1 ≤ m) : numOk (m : Int) (itoaL n) = true ∧ numV (itoaL n) = n := by
 have hd := dec_digit n
 have hne := dec_ne n
 have hl := dec_small (n := n) (m := m) h hm
 have hdata : (itoaL n).data.toList = decDigits n := by
  show (Lib.itoa (n : Int)).toArray.toList = _
  rw [itoa_nonneg]
 have hnp : Lib.hasPrefix (itoaL n).data.toList [45] = false := by
  rw [hdata]
  unfold Lib.hasPrefix
  cases hx : decDigits n with
  | nil => exact absurd hx hne
  | cons b r =>
    have hb := hd b (by rw [hx]; exact List.mem_cons_self)
    have : (45 : UInt8) ≠ b := fun e => by
     have := congrArg UInt8.toNat e
     simp at this
     omega
    simp [List.isPrefixOf, this]
 have hu : undashB (itoaL n) = itoaL n := by
  refine ba_eq ?_
  unfold undashB Lib.trimPrefix
  rw [hnp]; simp
 have hds : dashed (itoaL n) = false := hnp
 have hsz : (itoaL n).size = (decDigits n).length := by rw [← hdata]; exact Array.length_toList.symm
 have hat := atoi_dec hne hd (dec_read n)
 refine ⟨?_, ?_⟩
 ·unfold numOk
  rw [hu, hds]
  simp only [Bool.and_eq_true, Bool.not_eq_true', decide_eq_true_eq, Bool.or_false]
  refine ⟨⟨⟨?_, by rw [hsz]; omega⟩, ?_⟩, ?_⟩
  ·have : (itoaL n).toList = (itoaL n).data.toList := Lib.toList_data _
   rw [this, hdata]
   cases hx : decDigits n with
   | nil => exact absurd hx hne
   | cons b r => rfl
  ·have ht : trimD (itoaL n) = ⟨#[]⟩ := by
    unfold trimD
    rw [hdata, trimS_all fun b hb => digits_in (hd b hb)]
   rw [ht, Lib.toList_data]; rfl
  ·rw [hdata, hsz]
   by_cases h0 : n = 0
   ·subst h0
    rw [decDigits, dif_pos (by decide)]; simp
   ·have hh := dec_head n (by omega)
    cases hx : decDigits n with
    | nil => exact absurd hx hne
    | cons b r =>
      rw [hx] at hh
      have : (b == 48) = false := beq_false_of_ne fun e => hh (by rw [e]; rfl)
      simp [this]
 ·unfold numV
  rw [hds, hu, hdata, hat]; rfl
end Go.Proofs.YtkjhbofbcmelgaaGreatDoor
namespace Go.Proofs.YtkjhbofbcmelgaaGreatDoor
open Go Go.Lib Go.RowKit
theorem empty_ba {s : ByteArray} (h : s.toList.isEmpty = true) : s = ⟨#[]⟩ := by
 rw [Lib.toList_data] at h
 exact ba_eq (List.isEmpty_iff.1 h)
theorem scan_first {f : Nat → Int} : ∀ n, (∃ i, i < n ∧ f i ≠ 0) → ∃ k, k < n ∧ Zeros f k ∧ f k ≠ 0
 | 0, ⟨i, hi, _⟩ => by omega
 | n + 1, ⟨i, hi, hx⟩ => by
   by_cases h : ∃ i, i < n ∧ f i ≠ 0
   ·obtain ⟨k, hk, h1, h2⟩ := scan_first n h
    exact ⟨k, by omega, h1, h2⟩
   ·refine ⟨n, by omega, fun j hj => Classical.byContradiction fun e => h ⟨j, hj, e⟩, ?_⟩
    obtain rfl : i = n := Classical.byContradiction fun e => h ⟨i, by omega, hx⟩
    exact hx
end Go.Proofs.YtkjhbofbcmelgaaGreatDoor
