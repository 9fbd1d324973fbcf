/- Stands with gaps closed: plain mathematics. Conditions: as each theorem says. What right stands are, in one sentence, and the other way round they stay right: plain mathematics. Conditions: as each theorem says. Whether a string is there twice, by the document's text. Conditions: sizes. -/
import Derived.Test.YtfbegdcmnfkhgaaGreatDoorLxJ22
import Derived.Test.YtfbegdcmnfkhgaaGreatDoorLxShelf
import Derived.Sort.OwnSorted
import Derived.Sort.Grow
import Derived.Lib.OwnBridge
import Derived.Lib.RowBridge
set_option linter.unusedSimpArgs false
set_option linter.unusedVariables false
namespace Go.Proofs.YtfbegdcmnfkhgaaGreatDoor
open Go

theorem cmp_lt {a b : StandV} : cmpV a b < 0 ↔ ltV a b = true := by rw [ltV_cmp]; simp
theorem rise_pair {S : List StandV} (h : ∀ i x y, S[i]? = some x → S[i + 1]? = some y → ltV x y = true) : S.Pairwise (fun a b => ltV a b = true) := by
  rw [List.pairwise_iff_getElem]
  have hstep : ∀ (d i : Nat) (x y : StandV), S[i]? = some x → S[i + 1 + d]? = some y → ltV x y = true := by
    intro d
    induction d with
    | zero => exact fun i x y hx hy => h i x y hx hy
    | succ d ih =>
      intro i x y hx hy
      have hl := (List.getElem?_eq_some_iff.1 hy).1
      have hz : S[i + 1 + d]? = some S[i + 1 + d] := List.getElem?_eq_getElem (by omega)
      exact ltV_trans (ih i x _ hx hz) (h (i + 1 + d) _ y hz (by rw [← hy]; congr 1))
  intro i j hi hj hij
  obtain ⟨d, rfl⟩ : ∃ d, j = i + 1 + d := ⟨j - (i + 1), by omega⟩
  exact hstep d i _ _ (List.getElem?_eq_getElem hi) (List.getElem?_eq_getElem hj)
/-- Right stands are in strict order. -/
theorem stands_sorted {P : List PersonV} {wide : List Int} {S : List StandV} (h : scanF S.length (chkSta P wide S) = 0) : S.Pairwise (fun a b => ltV a b = true) := by
  refine rise_pair fun i x y hx hy => ?_
  have h4 := scan_all h (i + 1) (List.getElem?_eq_some_iff.1 hy).1
  unfold chkSta at h4
  rw [atL_of hy] at h4
  cases k0 : hasP P y.name
  · rw [k0] at h4; simp at h4
  cases k1 : inB y.row 0 (wide.length - 1)
  · rw [k0, k1] at h4; simp at h4
  cases k2 : inB y.place 0 (wide.getD y.row.toNat 0 - 1)
  · rw [k0, k1, k2] at h4; simp at h4
  rw [k0, k1, k2, Nat.add_sub_cancel, atL_of hx] at h4
  rw [← cmp_lt]
  by_cases k3 : 0 ≤ cmpV x y
  · simp [k3] at h4
  · omega
end Go.Proofs.YtfbegdcmnfkhgaaGreatDoor

namespace Go.Proofs.YtfbegdcmnfkhgaaGreatDoor
open Go

def AtS (P : List PersonV) (wide : List Int) (x : StandV) : Prop := hasP P x.name = true ∧ (0 ≤ x.row ∧ x.row ≤ wide.length - 1) ∧ 0 ≤ x.place ∧ x.place ≤ wide.getD x.row.toNat 0 - 1
theorem standsF_right {P : List PersonV} {wide high : List Int} {S : List StandV} (h : standsF P wide high S = 0) : ostF P wide high = 0 ∧ S.length ≤ P.length ∧ (∀ x ∈ S, AtS P wide x) ∧ S.Pairwise (fun a b => ltV a b = true) ∧ (namesS S).Nodup := by
  have hnd := (standsF_ok h).2.2.2
  unfold standsF at h
  by_cases h0 : ostF P wide high = 0
  rotate_left
  · rw [if_neg h0] at h; exact absurd h h0
  rw [if_pos h0] at h
  unfold listF at h
  by_cases h2 : P.length < S.length
  · rw [if_pos h2] at h; cases h
  rw [if_neg h2] at h
  by_cases h3 : scanF S.length (chkSta P wide S) = 0
  rotate_left
  · rw [if_neg h3] at h; exact absurd h h3
  refine ⟨h0, by omega, fun x hx => ?_, stands_sorted h3, hnd⟩
  obtain ⟨i, hi, rfl⟩ := List.getElem_of_mem hx
  have h4 := scan_all h3 i hi
  unfold chkSta at h4
  rw [atL_of (List.getElem?_eq_getElem hi)] at h4
  cases k0 : hasP P S[i].name
  · rw [k0] at h4; simp at h4
  cases k1 : inB S[i].row 0 (wide.length - 1)
  · rw [k0, k1] at h4; simp at h4
  cases k2 : inB S[i].place 0 (wide.getD S[i].row.toNat 0 - 1)
  · rw [k0, k1, k2] at h4; simp at h4
  exact ⟨k0, inB_iff.1 k1, inB_iff.1 k2⟩
theorem standsF_mk {P : List PersonV} {wide high : List Int} {S : List StandV} (h0 : ostF P wide high = 0) (hl : S.length ≤ P.length) (ha : ∀ x ∈ S, AtS P wide x) (hs : S.Pairwise (fun a b => ltV a b = true)) (hn : (namesS S).Nodup) : standsF P wide high S = 0 := by
  unfold standsF listF
  rw [if_pos h0, if_neg (by omega)]
  have h3 : scanF S.length (chkSta P wide S) = 0 := scan_zero fun i hi => by
    obtain ⟨k0, k1, k2⟩ := ha _ (List.getElem_mem hi)
    unfold chkSta
    rw [atL_of (List.getElem?_eq_getElem hi), k0, inB_iff.2 k1, inB_iff.2 k2]
    rcases Nat.eq_zero_or_pos i with hz | hz
    · subst hz; simp
    · have hi1 : i - 1 < S.length := by omega
      rw [atL_of (List.getElem?_eq_getElem hi1)]
      have h5 := List.pairwise_iff_getElem.1 hs (i - 1) i hi1 hi (by omega)
      have h6 := cmp_lt.2 h5
      have h7 : ¬ 0 ≤ cmpV S[i - 1] S[i] := by omega
      simp [h7]
  have hd : dupB (namesS S) = false := by
    cases hh : dupB (namesS S)
    · rfl
    · exact absurd hn (dupB_iff.1 hh)
  rw [if_pos h3, hd]
  simp
end Go.Proofs.YtfbegdcmnfkhgaaGreatDoor

namespace Go.Proofs.YtfbegdcmnfkhgaaGreatDoor
open Go Go.RowKit Go.Sort

theorem le_tr {a b c : List UInt8} (h : a ≤ b) (k : b ≤ c) : a ≤ c := List.le_trans h k
theorem le_as {a b : List UInt8} (h : a ≤ b) (k : b ≤ a) : a = b := List.le_antisymm h k
theorem le_to (a b : List UInt8) : a ≤ b ∨ b ≤ a := List.le_total a b
theorem srt (ss : List (List UInt8)) : (ss.mergeSort fun x y => decide (x ≤ y)).Pairwise (· ≤ ·) := by
  have := List.pairwise_mergeSort (le := fun x y : List UInt8 => decide (x ≤ y)) (fun a b c h k => by simp at *; exact le_tr h k) (fun a b => by simp; exact le_to a b) ss
  exact this.imp (by simp)
theorem enc_str (x : ByteArray) : encStr x.data.toList = .string x := by cases x; rfl
theorem map_enc (T : List ByteArray) : (T.map fun x => x.data.toList).map encStr = T.map Value.string := by
  rw [List.map_map]
  exact List.map_congr_left fun x _ => enc_str x
theorem nodup_bytes (T : List ByteArray) : (T.map fun x => x.data.toList).Nodup ↔ T.Nodup := by
  constructor
  · intro h
    rw [List.nodup_iff_pairwise_ne, List.pairwise_map] at h
    rw [List.nodup_iff_pairwise_ne]
    exact h.imp fun hne e => hne (by rw [e])
  · intro h
    rw [List.nodup_iff_pairwise_ne] at h ⊢
    rw [List.pairwise_map]
    exact h.imp fun hne e => hne (by rename_i a b; cases a; cases b; simp only at e; congr 1; exact Array.toList_inj.1 e)

end Go.Proofs.YtfbegdcmnfkhgaaGreatDoor
