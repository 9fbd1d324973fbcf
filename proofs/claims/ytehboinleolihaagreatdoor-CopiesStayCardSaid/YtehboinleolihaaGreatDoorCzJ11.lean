/- Slips and their lines, plain: what is written is read as it was; what is read is written so. Conditions: as each theorem says. Texts of slips, plain: what is written is read as it was; what is read is written so. Conditions: as each theorem says. The name of a note, by tune. Conditions: the note is one. What the rows of the laws share: the argument's list; the listed table. Conditions: none. -/
import Derived.Test.YtehboinleolihaaGreatDoorCzJ10
import Derived.Test.YtehboinleolihaaGreatDoorCzJ6
import Derived.Test.YtehboinleolihaaGreatDoorCzFactsB
import Derived.Test.YtehboinleolihaaGreatDoorCzJ2
import Derived.Lib.AppendIntMem
import Derived.Lib.ItoaLen
import Derived.Test.YtehboinleolihaaGreatDoorRows
import Derived.ProofKit
import Derived.OpenShut
import Derived.ChangeOld
import Derived.ChangeSame
import Derived.ChangeVars
import Derived.JoinedOf
import Derived.LaidLaws
import Derived.LaidHandle
import Derived.MakeChecks
import Derived.Lib.LaidTab
import Derived.Stop.Joined
import Derived.Below
import Derived.Lay
set_option linter.unusedSimpArgs false
set_option linter.unusedVariables false
namespace Go.Proofs.YtehboinleolihaaGreatDoor
open Go Go.Lib Go.RowKit
structure SlipV where
 by_ : ByteArray
 no : Int
 at_ : Int
 kind : Int
 piece : ByteArray
 copy : Int
 singer : ByteArray
def slipC (x : SlipV) : List Value := [.string x.by_, .int .i64 x.no, .int .i64 x.at_, .int .i64 x.kind, .string x.piece, .int .i64 x.copy, .string x.singer]
theorem slipC_len (x : SlipV) : (slipC x).length = 7 := rfl
theorem slipC_one (x : SlipV) : ∀ u ∈ slipC x, u.oneCell' = true := by simp [slipC, Value.oneCell']
/-- What is wrong with a slip alone. -/
def slipE (x : SlipV) : Int :=
 if keyB x.by_ = false then 5 else if (outB x.no 1 3000 || outB x.at_ 0 345686399999) = true then 1 else if outB x.kind 1 5 = true then 4 else if keyB x.piece = false then 5 else if outB x.copy 1 500 = true then 1 else
  if x.kind = 1 ∧ keyB x.singer = false then 5 else if x.kind ≠ 1 ∧ x.singer ≠ ⟨#[]⟩ then 3 else 0
/-- What a right slip has. -/
structure SlipOk (x : SlipV) : Prop where
 by_ : keyB x.by_ = true
 no : 1 ≤ x.no ∧ x.no ≤ 3000
 at_ : 0 ≤ x.at_ ∧ x.at_ ≤ 345686399999
 kind : 1 ≤ x.kind ∧ x.kind ≤ 5
 piece : keyB x.piece = true
 copy : 1 ≤ x.copy ∧ x.copy ≤ 500
 singer : (x.kind = 1 ∧ keyB x.singer = true) ∨ (x.kind ≠ 1 ∧ x.singer = ⟨#[]⟩)
theorem slip_ok {x : SlipV} (h : slipE x = 0) : SlipOk x := by
 unfold slipE at h
 split at h
 ·cases h
 split at h
 ·cases h
 split at h
 ·cases h
 split at h
 ·cases h
 split at h
 ·cases h
 split at h
 ·cases h
 split at h
 ·cases h
 rename_i h1 h2 h3 h4 h5 h6 h7
 have hb : ∀ {b : Bool}, ¬ b = false → b = true := fun {b} h => by cases b <;> simp_all
 have ho : ∀ {a lo hi : Int}, ¬ outB a lo hi = true → lo ≤ a ∧ a ≤ hi := fun {a lo hi} h => by unfold outB at h; simp at h; omega
 simp only [Bool.or_eq_true, not_or] at h2
 refine ⟨hb h1, ho h2.1, ho h2.2, ho h3, hb h4, ho h5, ?_⟩
 by_cases hk : x.kind = 1
 ·exact .inl ⟨hk, hb fun e => h6 ⟨hk, e⟩⟩
 ·exact .inr ⟨hk, Classical.byContradiction fun e => h7 ⟨hk, e⟩⟩
end Go.Proofs.YtehboinleolihaaGreatDoor
namespace Go.Proofs.YtehboinleolihaaGreatDoor
open Go Go.Lib Go.RowKit
end Go.Proofs.YtehboinleolihaaGreatDoor
namespace Go.Proofs.YtehboinleolihaaGreatDoor
open Go Go.RowKit
/-- The table of the powers of ten lies ahead of block B. -/
def Tab (B : Nat) (w : World) : Prop := B ≤ w.heap.size ∧ Lib.TabBelow Tryz.prog B w "internal/strconv.uint64pow10" .u64 Lib.pow10Tab
theorem Tab.ext {B : Nat} {w w' : World} (h : Tab B w) (he : Ext w w') : Tab B w' := ⟨Nat.le_trans h.1 he.size, h.2.on (Below.mono he h.1)⟩
theorem Tab.extS {B s : Nat} {w w' : World} (h : Tab B w) (hs : B ≤ s) (he : ExtS s w w') : Tab B w' :=
 ⟨Nat.le_trans h.1 he.2.2.2.1, h.2.on ⟨he.1, he.2.1, he.2.2.1, he.2.2.2.1, fun k hk => he.2.2.2.2 k (Nat.lt_of_lt_of_le hk h.1) (by omega)⟩⟩
theorem itoa_any (n : Int) (h0 : -9223372036854775808 ≤ n) (h1 : n ≤ 9223372036854775807) (B : Nat) (w : World) (ht : Tab B w) :
 Calls Tryz.prog 110 #[.int .i64 n] w fun e w' => e = .returned (.string ⟨(Lib.itoa n).toArray⟩) ∧ Ext w w' :=
 (Tryz.strconv_Itoa n h0 h1 w ht.2.here).mono fun e w' ⟨he, k, os, hw⟩ => ⟨he, by subst hw; exact Lib.below_grow _ _ (Nat.le_refl _) k os⟩
end Go.Proofs.YtehboinleolihaaGreatDoor
namespace Go.Proofs.YtehboinleolihaaGreatDoor
open Go.ChangeShapes Go.WideShapes Go.ChangeAt Go.RowKit
theorem own : ownKnob Tryz.prog.godebug = none := by kernel_rfl
theorem laidOut : laidOutB Tryz.prog = true := by kernel_rfl
theorem lst_of_row {W : World} {x : Addr} {len cap : Nat} {zs : List Int} (hl : len ≤ cap) (hm : cap ≤ maxLen) (hz : zs.length = cap) (hc : ∀ i, i < zs.length → W.cell? (x.add i) = some (.int .i64 (zs.getD i 0))) (hw : ∀ n ∈ zs, (Lit.int .i64 n).wf = true) :
 Lst W W.heap.size (some x) len := by
 refine ⟨Nat.le_trans (Nat.le_trans hl hm) (by decide), fun hn => ?_⟩
 obtain ⟨B, off, sp⟩ := x
 have h0 := hc 0 (by omega)
 have hs : sp = none := by
  cases sp with
  | none => rfl
  | some q => simp [Addr.add, World.cell?] at h0; split at h0 <;> simp at h0
 subst hs
 have hadd : ∀ i, (⟨B, off, none⟩ : Addr).add i = ⟨B, off + i, none⟩ := fun i => by
  unfold Addr.add
  split
  ·subst_vars; rfl
  ·rfl
 have hB : B < W.heap.size := by
  rcases Nat.lt_or_ge B W.heap.size with h | h
  ·exact h
  ·rw [hadd] at h0
   simp [World.cell?, Array.getElem?_eq_none h] at h0
 refine ⟨B, off, rfl, hB, fun i hi => ⟨zs.getD i 0, by rw [← hadd]; exact hc i (by omega), ?_⟩⟩
 have hi' : i < zs.length := by omega
 have hg : zs.getD i 0 = zs[i] := by simp [hi']
 have := hw (zs.getD i 0) (by rw [hg]; exact List.getElem_mem _)
 simp [Lit.wf, IntKind.min, IntKind.max] at this
 first | omega | exact this
/-- The table of the powers of ten, out of what a row lists. -/
theorem tab_of_vars {P : Program} {W : World} {name : String} {k : IntKind} {zs : List Int} {g : Nat} {t e : TypeId} {n : Nat}
 (hg : P.globalNamed name = some g) (hty : (P.globals[g]?).map (·.type) = some t) (ht : P.underlying t = some (.array n e)) (he : P.underlying e = some (.int k)) (hce : P.cellsOf e = 1) (hct : P.cellsOf t = n) :
 ∀ (laid : List (String × DataW Unit)) (ps : List MemPlace), DataW.LaidVars P W laid ps → (name, Lib.tabData k zs) ∈ laid → Lib.TabIs P W name k zs
 | [], _, _, hm => by cases hm
 | (m, d) :: r, ps, h, hm => by
   obtain ⟨g', t', cs, fuel, p, q, hg', ht', hvar, hd, hr, _⟩ := h
   rcases List.mem_cons.1 hm with hh | hh
   ·injection hh with h1 h2
    subst h1
    subst h2
    obtain rfl := Option.some.inj (hg.symm.trans hg')
    obtain rfl := Option.some.inj (hty.symm.trans ht')
    unfold Lib.TabIs
    rw [hvar, ← Lib.cells_of_tab ht he hce hct hd]
   ·exact tab_of_vars hg hty ht he hce hct r q hr hh
theorem tab_of_met {laid : List (String × DataW Unit)} {W : World} (h : laidMetH Tryz.prog laid W) (hm : (laid.all fun x => x.2.handleName?.isNone) = true) (i : Nat) (hi : laid[i]? = some ("internal/strconv.uint64pow10", Lib.tabData .u64 Lib.pow10Tab)) : Tab W.heap.size W := by
 rw [Go.MakeChecks.laidMetH_plain _ _ _ hm] at h
 obtain ⟨ps, hv, _⟩ := h
 have hg : Tryz.prog.globalNamed "internal/strconv.uint64pow10" = some (Tryz.prog.globalNamed "internal/strconv.uint64pow10" |>.getD 0) := by kernel_rfl
 have hT := tab_of_vars (P := Tryz.prog) (k := .u64) (zs := Lib.pow10Tab) (t := 381) (e := 297) (n := 20) hg (by kernel_rfl) Tryz.underlying381 Tryz.underlying297 (by kernel_rfl) (by kernel_rfl) laid ps hv (List.mem_of_getElem? hi)
 exact ⟨Nat.le_refl _, Lib.tabBelow_of_tabIs hT⟩
end Go.Proofs.YtehboinleolihaaGreatDoor
