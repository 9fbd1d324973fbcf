/- What the rows of the laws share: the argument's list. Conditions: none. Slices in memory; the first error of a scan. Conditions: none. -/
import Derived.Test.YtfmkmnnmckbljaaGreatDoorRows
import Derived.Test.YtfmkmnnmckbljaaGreatDoorScStream
import Derived.ProofKit
import Derived.OpenShut
import Derived.ChangeOld
import Derived.ChangeSame
import Derived.ChangeVars
import Derived.JoinedOf
import Derived.LaidLaws
import Derived.LaidHandle
import Derived.MakeChecks
import Derived.Lib.LaidTab
import Derived.Stop.Joined
import Derived.Below
import Derived.Lay
import Derived.Test.YtfmkmnnmckbljaaGreatDoorScJ1
namespace Go.Proofs.YtfmkmnnmckbljaaGreatDoor
open Go.ChangeShapes Go.WideShapes Go.ChangeAt Go.RowKit

theorem own : ownKnob Tryz.prog.godebug = none := by kernel_rfl
theorem laidOut : laidOutB Tryz.prog = true := by kernel_rfl

theorem lst_of_row {W : World} {x : Addr} {len cap : Nat} {zs : List Int} (hl : len ≤ cap) (hm : cap ≤ maxLen) (hz : zs.length = cap) (hc : ∀ i, i < zs.length → W.cell? (x.add i) = some (.int .i64 (zs.getD i 0))) (hw : ∀ n ∈ zs, (Lit.int .i64 n).wf = true) :
    Lst W W.heap.size (some x) len := by
  refine ⟨Nat.le_trans (Nat.le_trans hl hm) (by decide), fun hn => ?_⟩
  obtain ⟨B, off, sp⟩ := x
  have h0 := hc 0 (by omega)
  have hs : sp = none := by
    cases sp with
    | none => rfl
    | some q => simp [Addr.add, World.cell?] at h0; split at h0 <;> simp at h0
  subst hs
  have hadd : ∀ i, (⟨B, off, none⟩ : Addr).add i = ⟨B, off + i, none⟩ := fun i => by
    unfold Addr.add
    split
    · subst_vars; rfl
    · rfl
  have hB : B < W.heap.size := by
    rcases Nat.lt_or_ge B W.heap.size with h | h
    · exact h
    · rw [hadd] at h0
      simp [World.cell?, Array.getElem?_eq_none h] at h0
  refine ⟨B, off, rfl, hB, fun i hi => ⟨zs.getD i 0, by rw [← hadd]; exact hc i (by omega), ?_⟩⟩
  have hi' : i < zs.length := by omega
  have hg : zs.getD i 0 = zs[i] := by simp [hi']
  have := hw (zs.getD i 0) (by rw [hg]; exact List.getElem_mem _)
  simp [Lit.wf, IntKind.min, IntKind.max] at this
  first | omega | exact this

end Go.Proofs.YtfmkmnnmckbljaaGreatDoor

namespace Go.Proofs.YtfmkmnnmckbljaaGreatDoor
open Go Go.RowKit

/-- Elements of k cells each, from a place on. -/
def Elems {α : Type} (k : Nat) (enc : α → List Value) (w : World) (b off : Nat) (xs : List α) : Prop :=
  ∀ i x, xs[i]? = some x → ∀ j v, (enc x)[j]? = some v → w.cell? ⟨b, off + i * k + j, none⟩ = some v
theorem Elems.ext {α : Type} {k : Nat} {enc : α → List Value} {w w' : World} {b off : Nat} {xs : List α} (h : Elems k enc w b off xs) (he : Ext w w') (hb : b < w.heap.size) : Elems k enc w' b off xs := fun i x hx j v hv => by
  obtain ⟨hc, _, _⟩ := he.walk
  exact (hc _ _ hb).trans (h i x hx j v hv)
/-- A slice of n elements. -/
def Sl {α : Type} (k : Nat) (enc : α → List Value) (w : World) (p : Option Addr) (n : Nat) (xs : List α) : Prop :=
  xs.length = n ∧ n ≤ 1000000000 ∧ (n ≠ 0 → ∃ b off, p = some ⟨b, off, none⟩ ∧ b < w.heap.size ∧ Elems k enc w b off xs)
theorem Sl.ext {α : Type} {k : Nat} {enc : α → List Value} {w w' : World} {p : Option Addr} {n : Nat} {xs : List α} (h : Sl k enc w p n xs) (he : Ext w w') : Sl k enc w' p n xs :=
  ⟨h.1, h.2.1, fun hn => let ⟨b, off, hp, hb, hE⟩ := h.2.2 hn; ⟨b, off, hp, Nat.lt_of_lt_of_le hb he.size, hE.ext he hb⟩⟩

def strC (s : ByteArray) : List Value := [.string s]
theorem Elems.str {w : World} {b off : Nat} {xs : List ByteArray} (h : Elems 1 strC w b off xs) {i : Nat} {s : ByteArray} (hs : xs[i]? = some s) : w.cell? ⟨b, off + i, none⟩ = some (.string s) := by
  have := h i s hs 0 (.string s) rfl
  simpa using this

/-- The first number of a scan that is not 0. -/
def scanF (n : Nat) (f : Nat → Int) : Int := orF ((List.range n).map f)
def Zeros (f : Nat → Int) (k : Nat) : Prop := ∀ j, j < k → f j = 0
theorem Zeros.zeroTo {f : Nat → Int} {k n : Nat} (h : Zeros f k) (hk : k ≤ n) : ZeroTo ((List.range n).map f) k := fun j hj => by
  rw [List.getD_eq_getElem?_getD, List.getElem?_map, List.getElem?_range (by omega)]
  exact h j hj
theorem scan_at {n : Nat} {f : Nat → Int} (k : Nat) (hk : k < n) (h : Zeros f k) (hx : f k ≠ 0) : scanF n f = f k := by
  have e : ((List.range n).map f).getD k 0 = f k := by rw [List.getD_eq_getElem?_getD, List.getElem?_map, List.getElem?_range hk]; rfl
  rw [← e] at hx ⊢
  exact orF_at _ k (by simpa using hk) (h.zeroTo (by omega)) hx
theorem scan_zero {n : Nat} {f : Nat → Int} (h : Zeros f n) : scanF n f = 0 := orF_zero _ n (by simp) (h.zeroTo (Nat.le_refl _))
theorem Zeros.succ {f : Nat → Int} {k : Nat} (h : Zeros f k) (hx : f k = 0) : Zeros f (k + 1) := fun j hj => by
  rcases Nat.lt_or_ge j k with hlt | hge
  · exact h j hlt
  · obtain rfl : j = k := by omega
    exact hx
theorem scan_congr {n : Nat} {f g : Nat → Int} (h : ∀ j, j < n → f j = g j) : scanF n f = scanF n g := by
  unfold scanF
  congr 1
  exact List.map_congr_left fun j hj => h j (by simpa using hj)
theorem scan_is {n k : Nat} {f : Nat → Int} {v : Int} (hz : Zeros f k) (hk : k < n) (hv : f k = v) (h0 : v ≠ 0) : v = scanF n f := by
  rw [scan_at k hk hz (by rw [hv]; exact h0), hv]
def atL {α : Type} (d : α) (xs : List α) (i : Nat) : α := xs.getD i d
theorem atL_of {α : Type} {d : α} {xs : List α} {i : Nat} {x : α} (h : xs[i]? = some x) : atL d xs i = x := by unfold atL; rw [List.getD_eq_getElem?_getD, h]; rfl
theorem getD_some {α : Type} {xs : List α} {i n : Nat} (h : xs.length = n) (hi : i < n) : ∃ x, xs[i]? = some x := ⟨_, List.getElem?_eq_getElem (by omega)⟩
/-- Go's <= on strings. -/
def leB (s t : ByteArray) : Bool := Op.bytesLess s.toList t.toList || (s.toList == t.toList)
end Go.Proofs.YtfmkmnnmckbljaaGreatDoor
