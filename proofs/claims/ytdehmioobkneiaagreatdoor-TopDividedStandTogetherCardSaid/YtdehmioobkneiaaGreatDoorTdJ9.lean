/- What is wrong with people, by both texts; stages. Conditions: sizes. Stands: who hides whom, and by how much rows are lifted: plain mathematics. Conditions: as each theorem says. The name of a note, by tune. Conditions: the note is one. What the rows of the laws share: the argument's list; the listed table. Conditions: none. -/
import Derived.Test.YtdehmioobkneiaaGreatDoorTdJ1
import Derived.Test.YtdehmioobkneiaaGreatDoorTdJ5
import Derived.Test.YtdehmioobkneiaaGreatDoorTdJ2
import Derived.Test.YtdehmioobkneiaaGreatDoorTdJ8
import Derived.Deep.DeepCutAuto
import Derived.Deep.Light
import Derived.Lib.AppendIntMem
import Derived.Lib.ItoaLen
import Derived.Test.YtdehmioobkneiaaGreatDoorRows
import Derived.ProofKit
import Derived.OpenShut
import Derived.ChangeOld
import Derived.ChangeSame
import Derived.ChangeVars
import Derived.JoinedOf
import Derived.LaidLaws
import Derived.LaidHandle
import Derived.MakeChecks
import Derived.Lib.LaidTab
import Derived.Stop.Joined
import Derived.Below
import Derived.Lay
set_option linter.unusedSimpArgs false
set_option linter.unusedVariables false
namespace Go.Proofs.YtdehmioobkneiaaGreatDoor
open Go Go.RowKit
structure PersonV where
  name : ByteArray
  high : Int
  sect : ByteArray
instance : Inhabited PersonV := ⟨⟨⟨#[]⟩, 0, ⟨#[]⟩⟩⟩
def perC (x : PersonV) : List Value := [.string x.name, .int .i64 x.high, .string x.sect]
theorem perC_len (x : PersonV) : (perC x).length = 3 := rfl
theorem per_one (x : PersonV) : ∀ u ∈ perC x, u.oneCell' = true := by simp [perC, Value.oneCell']
theorem Elems.per {w : World} {b off : Nat} {xs : List PersonV} (h : Elems 3 perC w b off xs) {i : Nat} {x : PersonV} (hx : xs[i]? = some x) :
    w.cell? ⟨b, off + i * 3, none⟩ = some (.string x.name) ∧ w.cell? ⟨b, off + i * 3 + 1, none⟩ = some (.int .i64 x.high) ∧ w.cell? ⟨b, off + i * 3 + 2, none⟩ = some (.string x.sect) :=
  ⟨h i x hx 0 _ rfl, h i x hx 1 _ rfl, h i x hx 2 _ rfl⟩
def PersonV.Small (x : PersonV) : Prop := x.name.size ≤ 1000 ∧ x.sect.size ≤ 1000 ∧ -1099511627776 ≤ x.high ∧ x.high ≤ 1099511627776
def chkPer (xs : List PersonV) (i : Nat) : Int :=
  if keyB (atL default xs i).name && keyB (atL default xs i).sect then (if inB (atL default xs i).high 500 2500 then (if 0 < i && leB (atL default xs i).name (atL default xs (i - 1)).name then 7 else 0) else 1) else 5
def peopleF (xs : List PersonV) : Int := if 200 < xs.length then 2 else scanF xs.length (chkPer xs)
theorem scan_all {n : Nat} {f : Nat → Int} (h : scanF n f = 0) : Zeros f n := by
  have hz : ∀ k, k ≤ n → Zeros f k := by
    intro k
    induction k with
    | zero => intro _ j hj; omega
    | succ k ih =>
      intro hk
      have hz := ih (by omega)
      refine hz.succ ?_
      rcases (inferInstance : Decidable (f k = 0)) with hn | hy
      · have := scan_at (n := n) k (by omega) hz hn
        rw [h] at this
        exact this.symm
      · exact hy
  exact hz n (Nat.le_refl _)
/-! ### names rise -/
def le2 (a b : List UInt8) : Bool := Op.bytesLess a b || a == b
theorem le2_self : ∀ a : List UInt8, le2 a a = true := fun a => by simp [le2]
theorem le2_cons (x y : UInt8) (a b : List UInt8) : le2 (x :: a) (y :: b) = false ↔ ¬ x < y ∧ (x = y → le2 a b = false) := by
  unfold le2
  simp only [Op.bytesLess, Bool.or_eq_false_iff, decide_eq_false_iff_not, Bool.and_eq_false_iff, beq_eq_false_iff_ne, ne_eq, List.cons.injEq, not_and]
  constructor
  · rintro ⟨⟨h1, h2⟩, h3⟩
    exact ⟨h1, fun e => ⟨h2.resolve_left fun h => h e, h3 e⟩⟩
  · rintro ⟨h1, h2⟩
    refine ⟨⟨h1, ?_⟩, fun e => (h2 e).2⟩
    rcases (inferInstance : Decidable (x = y)) with e | e
    · exact .inl e
    · exact .inr (h2 e).1
theorem le2_trans : ∀ {a b c : List UInt8}, le2 a b = false → le2 b c = false → le2 a c = false
  | [], b, _, h1, _ => by cases b <;> simp [le2, Op.bytesLess] at h1
  | _ :: _, [], c, _, h2 => by cases c <;> simp [le2, Op.bytesLess] at h2
  | _ :: _, _ :: _, [], _, _ => rfl
  | x :: a, y :: b, z :: c, h1, h2 => by
    rw [le2_cons] at h1 h2 ⊢
    obtain ⟨p1, q1⟩ := h1
    obtain ⟨p2, q2⟩ := h2
    have k1 : ¬ x.toNat < y.toNat := p1
    have k2 : ¬ y.toNat < z.toNat := p2
    refine ⟨fun h => ?_, fun e => ?_⟩
    · have k3 : x.toNat < z.toNat := h
      omega
    · subst e
      have e1 : x = y := UInt8.toNat_inj.1 (by omega)
      subst e1
      exact le2_trans (q1 rfl) (q2 rfl)
structure PeopleOk (L : List PersonV) : Prop where
  len : L.length ≤ 200
  one : ∀ x ∈ L, keyB x.name = true ∧ keyB x.sect = true ∧ 500 ≤ x.high ∧ x.high ≤ 2500
  rise : ∀ i x y, L[i]? = some x → L[i + 1]? = some y → le2 y.name.toList x.name.toList = false
theorem PeopleOk.order {L : List PersonV} (h : PeopleOk L) : ∀ (d i : Nat) (x y : PersonV), L[i]? = some x → L[i + 1 + d]? = some y → le2 y.name.toList x.name.toList = false
  | 0, i, x, y, hx, hy => h.rise i x y hx hy
  | d + 1, i, x, y, hx, hy => by
    have hl := (List.getElem?_eq_some_iff.1 hy).1
    have hz : L[i + 1 + d]? = some L[i + 1 + d] := List.getElem?_eq_getElem (by omega)
    exact le2_trans (h.rise (i + 1 + d) _ y hz (by rw [← hy]; congr 1)) (h.order d i x _ hx hz)
theorem PeopleOk.names {L : List PersonV} (h : PeopleOk L) {i j : Nat} {x y : PersonV} (hx : L[i]? = some x) (hy : L[j]? = some y) (e : x.name = y.name) : i = j := by
  rcases Nat.lt_trichotomy i j with h1 | h1 | h1
  · obtain ⟨d, rfl⟩ : ∃ d, j = i + 1 + d := ⟨j - (i + 1), by omega⟩
    have := h.order d i x y hx hy
    rw [e, le2_self] at this
    cases this
  · exact h1
  · obtain ⟨d, rfl⟩ : ∃ d, i = j + 1 + d := ⟨i - (j + 1), by omega⟩
    have := h.order d j y x hy hx
    rw [e, le2_self] at this
    cases this
theorem peopleF_ok {xs : List PersonV} (h : peopleF xs = 0) : PeopleOk xs := by
  unfold peopleF at h
  have hl : xs.length ≤ 200 := by
    rcases Nat.lt_or_ge 200 xs.length with h1 | h1
    · rw [if_pos h1] at h; cases h
    · exact h1
  rw [if_neg (by omega)] at h
  have hz := scan_all h
  have hat : ∀ i x, xs[i]? = some x → keyB x.name = true ∧ keyB x.sect = true ∧ inB x.high 500 2500 = true ∧ (0 < i → leB x.name (atL default xs (i - 1)).name = false) := by
    intro i x hx
    have h0 := hz i (List.getElem?_eq_some_iff.1 hx).1
    unfold chkPer at h0
    rw [atL_of hx] at h0
    cases k1 : keyB x.name
    · rw [k1] at h0; simp at h0
    cases k3 : keyB x.sect
    · rw [k1, k3] at h0; simp at h0
    cases k2 : inB x.high 500 2500
    · rw [k1, k3, k2] at h0; simp at h0
    refine ⟨rfl, rfl, rfl, fun hi => ?_⟩
    cases k4 : leB x.name (atL default xs (i - 1)).name
    · rfl
    · rw [k1, k3, k2, k4] at h0; simp [hi] at h0
  refine ⟨hl, fun x hx => ?_, fun i x y hx hy => ?_⟩
  · obtain ⟨i, hi, e⟩ := List.getElem_of_mem hx
    obtain ⟨h1, h2, h3, -⟩ := hat i x (by rw [List.getElem?_eq_getElem hi, e])
    unfold inB at h3
    simp at h3
    exact ⟨h1, h2, h3⟩
  · have := (hat (i + 1) y hy).2.2.2 (by omega)
    rw [Nat.add_sub_cancel, atL_of hx] at this
    exact this
/-! ### stages -/
def chkRow (wide high : List Int) (i : Nat) : Int :=
  if inB (atL 0 wide i) 1 30 && inB (atL 0 high i) 0 5000 then (if 0 < i && decide (atL 0 high i < atL 0 high (i - 1)) then 7 else 0) else 1
def stageF (wide high : List Int) : Int :=
  if wide.length = 0 then 8 else if 10 < wide.length then 2 else if high.length ≠ wide.length then 3 else scanF wide.length (chkRow wide high)
end Go.Proofs.YtdehmioobkneiaaGreatDoor
namespace Go.Proofs.YtdehmioobkneiaaGreatDoor
open Go
structure StandV where
  name : ByteArray
  row : Int
  place : Int
instance : Inhabited StandV := ⟨⟨⟨#[]⟩, 0, 0⟩⟩
section
variable {P : List PersonV} {wide high : List Int} {S : List StandV}
end
end Go.Proofs.YtdehmioobkneiaaGreatDoor
namespace Go.Proofs.YtdehmioobkneiaaGreatDoor
open Go Go.RowKit
/-- The table of the powers of ten lies ahead of block B. -/
def Tab (B : Nat) (w : World) : Prop := B ≤ w.heap.size ∧ Lib.TabBelow Tryz.prog B w "internal/strconv.uint64pow10" .u64 Lib.pow10Tab
theorem Tab.ext {B : Nat} {w w' : World} (h : Tab B w) (he : Ext w w') : Tab B w' := ⟨Nat.le_trans h.1 he.size, h.2.on (Below.mono he h.1)⟩
theorem Tab.extS {B s : Nat} {w w' : World} (h : Tab B w) (hs : B ≤ s) (he : ExtS s w w') : Tab B w' :=
  ⟨Nat.le_trans h.1 he.2.2.2.1, h.2.on ⟨he.1, he.2.1, he.2.2.1, he.2.2.2.1, fun k hk => he.2.2.2.2 k (Nat.lt_of_lt_of_le hk h.1) (by omega)⟩⟩
theorem itoa_any (n : Int) (h0 : -9223372036854775808 ≤ n) (h1 : n ≤ 9223372036854775807) (B : Nat) (w : World) (ht : Tab B w) :
    Calls Tryz.prog 76 #[.int .i64 n] w fun e w' => e = .returned (.string ⟨(Lib.itoa n).toArray⟩) ∧ Ext w w' :=
  (Tryz.strconv_Itoa n h0 h1 w ht.2.here).mono fun e w' ⟨he, k, os, hw⟩ => ⟨he, by subst hw; exact Lib.below_grow _ _ (Nat.le_refl _) k os⟩
end Go.Proofs.YtdehmioobkneiaaGreatDoor
namespace Go.Proofs.YtdehmioobkneiaaGreatDoor
open Go.ChangeShapes Go.WideShapes Go.ChangeAt Go.RowKit
theorem own : ownKnob Tryz.prog.godebug = none := by kernel_rfl
theorem laidOut : laidOutB Tryz.prog = true := by kernel_rfl
theorem lst_of_row {W : World} {x : Addr} {len cap : Nat} {zs : List Int} (hl : len ≤ cap) (hm : cap ≤ maxLen) (hz : zs.length = cap) (hc : ∀ i, i < zs.length → W.cell? (x.add i) = some (.int .i64 (zs.getD i 0))) (hw : ∀ n ∈ zs, (Lit.int .i64 n).wf = true) :
    Lst W W.heap.size (some x) len := by
  refine ⟨Nat.le_trans (Nat.le_trans hl hm) (by decide), fun hn => ?_⟩
  obtain ⟨B, off, sp⟩ := x
  have h0 := hc 0 (by omega)
  have hs : sp = none := by
    cases sp with
    | none => rfl
    | some q => simp [Addr.add, World.cell?] at h0; split at h0 <;> simp at h0
  subst hs
  have hadd : ∀ i, (⟨B, off, none⟩ : Addr).add i = ⟨B, off + i, none⟩ := fun i => by
    unfold Addr.add
    split
    · subst_vars; rfl
    · rfl
  have hB : B < W.heap.size := by
    rcases Nat.lt_or_ge B W.heap.size with h | h
    · exact h
    · rw [hadd] at h0
      simp [World.cell?, Array.getElem?_eq_none h] at h0
  refine ⟨B, off, rfl, hB, fun i hi => ⟨zs.getD i 0, by rw [← hadd]; exact hc i (by omega), ?_⟩⟩
  have hi' : i < zs.length := by omega
  have hg : zs.getD i 0 = zs[i] := by simp [hi']
  have := hw (zs.getD i 0) (by rw [hg]; exact List.getElem_mem _)
  simp [Lit.wf, IntKind.min, IntKind.max] at this
  first | omega | exact this
/-- The table of the powers of ten, out of what a row lists. -/
theorem tab_of_vars {P : Program} {W : World} {name : String} {k : IntKind} {zs : List Int} {g : Nat} {t e : TypeId} {n : Nat}
    (hg : P.globalNamed name = some g) (hty : (P.globals[g]?).map (·.type) = some t) (ht : P.underlying t = some (.array n e)) (he : P.underlying e = some (.int k)) (hce : P.cellsOf e = 1) (hct : P.cellsOf t = n) :
    ∀ (laid : List (String × DataW Unit)) (ps : List MemPlace), DataW.LaidVars P W laid ps → (name, Lib.tabData k zs) ∈ laid → Lib.TabIs P W name k zs
  | [], _, _, hm => by cases hm
  | (m, d) :: r, ps, h, hm => by
    obtain ⟨g', t', cs, fuel, p, q, hg', ht', hvar, hd, hr, _⟩ := h
    rcases List.mem_cons.1 hm with hh | hh
    · injection hh with h1 h2
      subst h1
      subst h2
      obtain rfl := Option.some.inj (hg.symm.trans hg')
      obtain rfl := Option.some.inj (hty.symm.trans ht')
      unfold Lib.TabIs
      rw [hvar, ← Lib.cells_of_tab ht he hce hct hd]
    · exact tab_of_vars hg hty ht he hce hct r q hr hh
theorem tab_of_met {laid : List (String × DataW Unit)} {W : World} (h : laidMetH Tryz.prog laid W) (hm : (laid.all fun x => x.2.handleName?.isNone) = true) (i : Nat) (hi : laid[i]? = some ("internal/strconv.uint64pow10", Lib.tabData .u64 Lib.pow10Tab)) : Tab W.heap.size W := by
  rw [Go.MakeChecks.laidMetH_plain _ _ _ hm] at h
  obtain ⟨ps, hv, _⟩ := h
  have hg : Tryz.prog.globalNamed "internal/strconv.uint64pow10" = some (Tryz.prog.globalNamed "internal/strconv.uint64pow10" |>.getD 0) := by kernel_rfl
  have hT := tab_of_vars (P := Tryz.prog) (k := .u64) (zs := Lib.pow10Tab) (t := 235) (e := 171) (n := 20) hg (by kernel_rfl) Tryz.underlying235 Tryz.underlying171 (by kernel_rfl) (by kernel_rfl) laid ps hv (List.mem_of_getElem? hi)
  exact ⟨Nat.le_refl _, Lib.tabBelow_of_tabIs hT⟩
end Go.Proofs.YtdehmioobkneiaaGreatDoor
