/- The name of a note, by tune. Conditions: the note is one. What the rows of the laws share: the argument's list; the listed table. Conditions: none. The document reads the decimal numbers that strconv.Itoa writes. Conditions: the number is below 10000; the table of the powers of ten stands. -/
import Derived.Test.YtjggcofjgeiapaaGreatDoorCiJ7
import Derived.Test.YtjggcofjgeiapaaGreatDoorCiFactsB
import Derived.Test.YtjggcofjgeiapaaGreatDoorCiJ2
import Derived.Lib.AppendIntMem
import Derived.Lib.ItoaLen
import Derived.Test.YtjggcofjgeiapaaGreatDoorRows
import Derived.ProofKit
import Derived.OpenShut
import Derived.ChangeOld
import Derived.ChangeSame
import Derived.ChangeVars
import Derived.JoinedOf
import Derived.LaidLaws
import Derived.LaidHandle
import Derived.MakeChecks
import Derived.Lib.LaidTab
import Derived.Stop.Joined
import Derived.Below
import Derived.Lay
import Derived.Test.YtjggcofjgeiapaaGreatDoorCiJ13
set_option linter.unusedSimpArgs false
set_option linter.unusedVariables false
namespace Go.Proofs.YtjggcofjgeiapaaGreatDoor
open Go Go.RowKit

/-- The table of the powers of ten lies ahead of block B. -/
def Tab (B : Nat) (w : World) : Prop := B ≤ w.heap.size ∧ Lib.TabBelow Tryz.prog B w "internal/strconv.uint64pow10" .u64 Lib.pow10Tab
theorem Tab.ext {B : Nat} {w w' : World} (h : Tab B w) (he : Ext w w') : Tab B w' := ⟨Nat.le_trans h.1 he.size, h.2.on (Below.mono he h.1)⟩
theorem Tab.extS {B s : Nat} {w w' : World} (h : Tab B w) (hs : B ≤ s) (he : ExtS s w w') : Tab B w' :=
  ⟨Nat.le_trans h.1 he.2.2.2.1, h.2.on ⟨he.1, he.2.1, he.2.2.1, he.2.2.2.1, fun k hk => he.2.2.2.2 k (Nat.lt_of_lt_of_le hk h.1) (by omega)⟩⟩

theorem itoa_any (n : Int) (h0 : -9223372036854775808 ≤ n) (h1 : n ≤ 9223372036854775807) (B : Nat) (w : World) (ht : Tab B w) :
    Calls Tryz.prog 63 #[.int .i64 n] w fun e w' => e = .returned (.string ⟨(Lib.itoa n).toArray⟩) ∧ Ext w w' :=
  (Tryz.strconv_Itoa n h0 h1 w ht.2.here).mono fun e w' ⟨he, k, os, hw⟩ => ⟨he, by subst hw; exact Lib.below_grow _ _ (Nat.le_refl _) k os⟩

end Go.Proofs.YtjggcofjgeiapaaGreatDoor

namespace Go.Proofs.YtjggcofjgeiapaaGreatDoor
open Go.ChangeShapes Go.WideShapes Go.ChangeAt Go.RowKit

theorem own : ownKnob Tryz.prog.godebug = none := by kernel_rfl
theorem laidOut : laidOutB Tryz.prog = true := by kernel_rfl

theorem lst_of_row {W : World} {x : Addr} {len cap : Nat} {zs : List Int} (hl : len ≤ cap) (hm : cap ≤ maxLen) (hz : zs.length = cap) (hc : ∀ i, i < zs.length → W.cell? (x.add i) = some (.int .i64 (zs.getD i 0))) (hw : ∀ n ∈ zs, (Lit.int .i64 n).wf = true) :
    Lst W W.heap.size (some x) len := by
  refine ⟨Nat.le_trans (Nat.le_trans hl hm) (by decide), fun hn => ?_⟩
  obtain ⟨B, off, sp⟩ := x
  have h0 := hc 0 (by omega)
  have hs : sp = none := by
    cases sp with
    | none => rfl
    | some q => simp [Addr.add, World.cell?] at h0; split at h0 <;> simp at h0
  subst hs
  have hadd : ∀ i, (⟨B, off, none⟩ : Addr).add i = ⟨B, off + i, none⟩ := fun i => by
    unfold Addr.add
    split
    · subst_vars; rfl
    · rfl
  have hB : B < W.heap.size := by
    rcases Nat.lt_or_ge B W.heap.size with h | h
    · exact h
    · rw [hadd] at h0
      simp [World.cell?, Array.getElem?_eq_none h] at h0
  refine ⟨B, off, rfl, hB, fun i hi => ⟨zs.getD i 0, by rw [← hadd]; exact hc i (by omega), ?_⟩⟩
  have hi' : i < zs.length := by omega
  have hg : zs.getD i 0 = zs[i] := by simp [hi']
  have := hw (zs.getD i 0) (by rw [hg]; exact List.getElem_mem _)
  simp [Lit.wf, IntKind.min, IntKind.max] at this
  first | omega | exact this

/-- The table of the powers of ten, out of what a row lists. -/
theorem tab_of_vars {P : Program} {W : World} {name : String} {k : IntKind} {zs : List Int} {g : Nat} {t e : TypeId} {n : Nat}
    (hg : P.globalNamed name = some g) (hty : (P.globals[g]?).map (·.type) = some t) (ht : P.underlying t = some (.array n e)) (he : P.underlying e = some (.int k)) (hce : P.cellsOf e = 1) (hct : P.cellsOf t = n) :
    ∀ (laid : List (String × DataW Unit)) (ps : List MemPlace), DataW.LaidVars P W laid ps → (name, Lib.tabData k zs) ∈ laid → Lib.TabIs P W name k zs
  | [], _, _, hm => by cases hm
  | (m, d) :: r, ps, h, hm => by
    obtain ⟨g', t', cs, fuel, p, q, hg', ht', hvar, hd, hr, _⟩ := h
    rcases List.mem_cons.1 hm with hh | hh
    · injection hh with h1 h2
      subst h1
      subst h2
      obtain rfl := Option.some.inj (hg.symm.trans hg')
      obtain rfl := Option.some.inj (hty.symm.trans ht')
      unfold Lib.TabIs
      rw [hvar, ← Lib.cells_of_tab ht he hce hct hd]
    · exact tab_of_vars hg hty ht he hce hct r q hr hh

theorem tab_of_met {laid : List (String × DataW Unit)} {W : World} (h : laidMetH Tryz.prog laid W) (hm : (laid.all fun x => x.2.handleName?.isNone) = true) (i : Nat) (hi : laid[i]? = some ("internal/strconv.uint64pow10", Lib.tabData .u64 Lib.pow10Tab)) : Tab W.heap.size W := by
  rw [Go.MakeChecks.laidMetH_plain _ _ _ hm] at h
  obtain ⟨ps, hv, _⟩ := h
  have hg : Tryz.prog.globalNamed "internal/strconv.uint64pow10" = some (Tryz.prog.globalNamed "internal/strconv.uint64pow10" |>.getD 0) := by kernel_rfl
  have hT := tab_of_vars (P := Tryz.prog) (k := .u64) (zs := Lib.pow10Tab) (t := 295) (e := 244) (n := 20) hg (by kernel_rfl) Tryz.underlying295 Tryz.underlying244 (by kernel_rfl) (by kernel_rfl) laid ps hv (List.mem_of_getElem? hi)
  exact ⟨Nat.le_refl _, Lib.tabBelow_of_tabIs hT⟩
end Go.Proofs.YtjggcofjgeiapaaGreatDoor

namespace Go.Proofs.YtjggcofjgeiapaaGreatDoor
open Go Go.RowKit Go.Lib

theorem itoa_parts {n m : Nat} (h : n < 10 ^ m) (hm : 1 ≤ m) : undashB (itoaL n) = itoaL n ∧ 1 ≤ (itoaL n).size ∧ (itoaL n).size ≤ m ∧ (trimD (itoaL n)).toList.isEmpty = true ∧ Lib.atoi (itoaL n).data.toList = some (n : Int) := by
  have hd := dec_digit n
  have hne := dec_ne n
  have hl := dec_small (n := n) (m := m) h hm
  have hdata : (itoaL n).data.toList = decDigits n := by
    show (Lib.itoa (n : Int)).toArray.toList = _
    rw [itoa_nonneg]
  have hnp : Lib.hasPrefix (itoaL n).data.toList [45] = false := by
    rw [hdata]
    unfold Lib.hasPrefix
    cases hx : decDigits n with
    | nil => exact absurd hx hne
    | cons b r =>
      have hb := hd b (by rw [hx]; exact List.mem_cons_self)
      have : (45 : UInt8) ≠ b := fun e => by
        have := congrArg UInt8.toNat e
        simp at this
        omega
      simp [List.isPrefixOf, this]
  have hsz : (itoaL n).size = (decDigits n).length := by rw [← hdata]; exact Array.length_toList.symm
  refine ⟨?_, ?_, by rw [hsz]; exact hl, ?_, ?_⟩
  · refine ba_eq ?_
    unfold undashB Lib.trimPrefix
    rw [hnp]; simp
  · rw [hsz]
    exact List.length_pos_iff.2 hne
  · have ht : trimD (itoaL n) = ⟨#[]⟩ := by
      unfold trimD
      rw [hdata, trimS_all fun b hb => digits_in (hd b hb)]
    rw [ht, Lib.toList_data]; rfl
  · rw [hdata]
    exact atoi_dec hne hd (dec_read n)
set_option maxRecDepth 100000 in
set_option maxHeartbeats 1600000 in
theorem int4_any (n : Nat) (hn : n < 10000) (B : Nat) (w : World) (ht : Tab B w) :
    Calls Tryz.prog 19 #[.string (itoaL n), .int .i64 4] w fun e w' => e = .returned (.tuple #[.int .i64 n, .bool true]) ∧ Ext w w' := by
  obtain ⟨h1, h2, h3, h4, h5⟩ := itoa_parts (n := n) (m := 4) (by omega) (by omega)
  have hC := fun W => (Tryz.strings_TrimPrefix (itoaL n) ⟨#[45]⟩ W).mono fun e w' h => (⟨h.1, h.2.symm⟩ : e = .returned (.string (undashB (itoaL n))) ∧ W = w')
  rw [h1] at hC
  have hI := fun W => in_any ((itoaL n).size : Int) 1 4 W
  have hib : inB ((itoaL n).size : Int) 1 4 = true := by unfold inB; simp; omega
  rw [hib] at hI
  have hTr := fun W => trimD_any (itoaL n) W (by omega)
  have hat := fun W => (Tryz.strconv_Atoi (itoaL n) (n : Int) (by omega) h5 W).mono fun e w' hh => (by obtain ⟨he, t, hw⟩ := hh; exact ⟨he, hw ▸ ext_bytes _ _ _⟩ : e = .returned (.tuple #[.int .i64 (n : Int), .nilIface]) ∧ Ext W w')
  have hit := fun W (hW : Tab B W) => itoa_any (n : Int) (by omega) (by omega) B W hW
  generalize (trimD (itoaL n)) = U at *
  have eI : (⟨(Lib.itoa (n : Int)).toArray⟩ : ByteArray) = itoaL n := rfl
  rw [eI] at hit
  generalize itoaL (n : Int) = s at *
  clear eI h1 h2 h3 h5 hib
  replace hC := Lib.hid hC
  replace hat := Lib.hid hat
  replace hit := Lib.hid hit
  replace hI := Lib.hid hI
  replace hTr := Lib.hid hTr
  go_enter Tryz.func19, Tryz.ntmps19
  go_wp2_with (first
    | (go_at_call 65; (with_reducible refine Calls.mono (hC.out _) ?_); rintro e w1 ⟨rfl, rfl⟩)
    | (go_at_call 66; (with_reducible refine Calls.mono (hI.out _) ?_); rintro e w2 ⟨rfl, rfl⟩)
    | (go_at_call 67; (with_reducible refine Calls.mono (hTr.out _) ?_); rintro e w3 ⟨rfl, hb3⟩)
    | (go_at_call 68; (with_reducible refine Calls.mono (hat.out _) ?_); rintro e w4 ⟨rfl, hb4⟩)
    | (go_at_call 63; (with_reducible refine Calls.mono (hit.out _ (by exact (ht.ext hb3).ext hb4)) ?_); rintro e w5 ⟨rfl, hb5⟩))
  go_ret2
  exact ⟨rfl, by exact (hb3.trans hb4).trans hb5⟩
end Go.Proofs.YtjggcofjgeiapaaGreatDoor
