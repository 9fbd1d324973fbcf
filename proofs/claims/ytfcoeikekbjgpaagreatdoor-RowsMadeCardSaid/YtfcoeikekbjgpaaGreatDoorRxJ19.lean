/- What is wrong with stands: plain words. Conditions: as each theorem says. Stands the other way round: plain mathematics. Conditions: as each theorem says. Stands with gaps closed: plain mathematics. Conditions: as each theorem says. Whether a string is there twice, by the document's text. Conditions: sizes. -/
import Derived.Test.YtfcoeikekbjgpaaGreatDoorRxStK
import Derived.Test.YtfcoeikekbjgpaaGreatDoorRxJ14
import Derived.Test.YtfcoeikekbjgpaaGreatDoorRxShelf
import Derived.Sort.OwnSorted
import Derived.Sort.Grow
import Derived.Lib.OwnBridge
import Derived.Lib.RowBridge
set_option linter.unusedSimpArgs false
set_option linter.unusedVariables false
namespace Go.Proofs.YtfcoeikekbjgpaaGreatDoor
open Go Go.RowKit

theorem baL {a b : ByteArray} : (a.toList == b.toList) = true ↔ a = b := by
  constructor
  · intro h
    have h4 := eq_of_beq h
    rw [ByteArray.toList_eq, ByteArray.toList_eq] at h4
    cases a; cases b
    simp only at h4 ⊢
    congr 1
    exact Array.toList_inj.1 h4
  · rintro rfl
    simp
def hasP (P : List PersonV) (nm : ByteArray) : Bool := P.any fun x => x.name.toList == nm.toList
theorem hasP_iff {P : List PersonV} {nm : ByteArray} : hasP P nm = true ↔ ∃ x ∈ P, x.name = nm := by
  unfold hasP
  rw [List.any_eq_true]
  exact ⟨fun ⟨x, hx, h⟩ => ⟨x, hx, baL.1 h⟩, fun ⟨x, hx, h⟩ => ⟨x, hx, baL.2 h⟩⟩
def dupB : List ByteArray → Bool
  | [] => false
  | x :: l => (l.any fun y => x.toList == y.toList) || dupB l
theorem dupB_iff : ∀ {l : List ByteArray}, dupB l = true ↔ ¬ l.Nodup
  | [] => by simp [dupB]
  | x :: l => by
    have ih := @dupB_iff l
    unfold dupB
    rw [Bool.or_eq_true, List.any_eq_true, ih, List.nodup_cons]
    constructor
    · rintro (⟨y, hy, e⟩ | h)
      · have := baL.1 e; subst this; exact fun h => h.1 hy
      · exact fun h2 => h h2.2
    · intro h
      by_cases hm : x ∈ l
      · exact .inl ⟨x, hm, baL.2 rfl⟩
      · exact .inr fun h2 => h ⟨hm, h2⟩
def cmpV (a b : StandV) : Int := if a.row < b.row then -1 else if b.row < a.row then 1 else if a.place < b.place then -1 else if b.place < a.place then 1 else 0
def chkSta (P : List PersonV) (wide : List Int) (S : List StandV) (i : Nat) : Int :=
  if hasP P (atL default S i).name then (if inB (atL default S i).row 0 (wide.length - 1) && inB (atL default S i).place 0 (wide.getD (atL default S i).row.toNat 0 - 1) then (if 0 < i && decide (0 ≤ cmpV (atL default S (i - 1)) (atL default S i)) then 7 else 0) else 1) else 8
def ostF (P : List PersonV) (wide high : List Int) : Int := if peopleF P = 0 then stageF wide high else peopleF P
def listF (P : List PersonV) (wide : List Int) (S : List StandV) : Int :=
  if P.length < S.length then 2 else if scanF S.length (chkSta P wide S) = 0 then (if dupB (namesS S) then 6 else 0) else scanF S.length (chkSta P wide S)
def standsF (P : List PersonV) (wide high : List Int) (S : List StandV) : Int :=
  if ostF P wide high = 0 then listF P wide S else ostF P wide high

theorem stageF_ok {wide high : List Int} (h : stageF wide high = 0) : WideOk wide ∧ (∀ v ∈ high, 0 ≤ v ∧ v ≤ 5000) ∧ high.length = wide.length ∧ 1 ≤ wide.length ∧ ∀ i x y, high[i]? = some x → high[i + 1]? = some y → x ≤ y := by
  unfold stageF at h
  by_cases h0 : wide.length = 0
  · rw [if_pos h0] at h; cases h
  rw [if_neg h0] at h
  by_cases h1 : 10 < wide.length
  · rw [if_pos h1] at h; cases h
  rw [if_neg h1] at h
  by_cases h2 : high.length ≠ wide.length
  · rw [if_pos h2] at h; cases h
  rw [if_neg h2] at h
  have h2 : high.length = wide.length := Decidable.not_not.1 h2
  have hz := scan_all h
  have hat : ∀ i x y, wide[i]? = some x → high[i]? = some y → (1 ≤ x ∧ x ≤ 30) ∧ (0 ≤ y ∧ y ≤ 5000) ∧ (0 < i → atL 0 high (i - 1) ≤ y) := by
    intro i x y hx hy
    have h3 := hz i (List.getElem?_eq_some_iff.1 hx).1
    unfold chkRow at h3
    rw [atL_of hx, atL_of hy] at h3
    cases k1 : inB x 1 30
    · rw [k1] at h3; simp at h3
    cases k2 : inB y 0 5000
    · rw [k1, k2] at h3; simp at h3
    refine ⟨inB_iff.1 k1, inB_iff.1 k2, fun hi => ?_⟩
    rw [k1, k2] at h3
    by_cases k3 : y < atL 0 high (i - 1)
    · simp [hi, k3] at h3
    · omega
  have both : ∀ i, i < wide.length → ∃ x y, wide[i]? = some x ∧ high[i]? = some y := fun i hi => ⟨_, _, List.getElem?_eq_getElem hi, List.getElem?_eq_getElem (by omega)⟩
  refine ⟨⟨by omega, fun v hv => ?_⟩, fun v hv => ?_, h2, by omega, fun i x y hx hy => ?_⟩
  · obtain ⟨i, hi, e⟩ := List.getElem_of_mem hv
    obtain ⟨x, y, hx, hy⟩ := both i hi
    have hx2 : wide[i]? = some v := by rw [List.getElem?_eq_getElem hi, e]
    exact (hat i v y hx2 hy).1
  · obtain ⟨i, hi, e⟩ := List.getElem_of_mem hv
    obtain ⟨x, y, hx, hy⟩ := both i (by omega)
    have hy2 : high[i]? = some v := by rw [List.getElem?_eq_getElem hi, e]
    exact (hat i x v hx hy2).2.1
  · obtain ⟨u, v, hu, hv⟩ := both (i + 1) (by have := (List.getElem?_eq_some_iff.1 hy).1; omega)
    have := (hat (i + 1) u y hu hy).2.2 (by omega)
    rwa [Nat.add_sub_cancel, atL_of hx] at this
theorem ostF_ok {P : List PersonV} {wide high : List Int} (h : ostF P wide high = 0) : peopleF P = 0 ∧ stageF wide high = 0 := by
  unfold ostF at h
  by_cases h0 : peopleF P = 0
  · rw [if_pos h0] at h; exact ⟨h0, h⟩
  · rw [if_neg h0] at h; exact absurd h h0
theorem standsF_ok {P : List PersonV} {wide high : List Int} {S : List StandV} (h : standsF P wide high S = 0) : StandsOk P wide high S ∧ 1 ≤ wide.length ∧ (∀ v ∈ high, v ≤ 5000) ∧ (namesS S).Nodup := by
  unfold standsF at h
  by_cases h0 : ostF P wide high = 0
  rotate_left
  · rw [if_neg h0] at h; exact absurd h h0
  rw [if_pos h0] at h
  obtain ⟨hp, hs⟩ := ostF_ok h0
  have hpo := peopleF_ok hp
  obtain ⟨hw, hh, hwh, h1, -⟩ := stageF_ok hs
  unfold listF at h
  by_cases h2 : P.length < S.length
  · rw [if_pos h2] at h; cases h
  rw [if_neg h2] at h
  by_cases h3 : scanF S.length (chkSta P wide S) = 0
  rotate_left
  · rw [if_neg h3] at h; exact absurd h h3
  rw [if_pos h3] at h
  have hd : dupB (namesS S) = false := by
    cases hh : dupB (namesS S)
    · rfl
    · rw [hh] at h; cases h
  have hz := scan_all h3
  have hat : ∀ (i : Nat) (x : StandV), S[i]? = some x → hasP P x.name = true ∧ (0 ≤ x.row ∧ x.row ≤ wide.length - 1) ∧ 0 ≤ x.place ∧ x.place ≤ wide.getD x.row.toNat 0 - 1 := by
    intro i x hx
    have h4 := hz i (List.getElem?_eq_some_iff.1 hx).1
    unfold chkSta at h4
    rw [atL_of hx] at h4
    cases k0 : hasP P x.name
    · rw [k0] at h4; simp at h4
    cases k1 : inB x.row 0 (wide.length - 1)
    · rw [k0, k1] at h4; simp at h4
    cases k2 : inB x.place 0 (wide.getD x.row.toNat 0 - 1)
    · rw [k0, k1, k2] at h4; simp at h4
    exact ⟨rfl, inB_iff.1 k1, inB_iff.1 k2⟩
  have hmem : ∀ x ∈ S, ∃ i, S[i]? = some x := fun x hx => let ⟨i, hi, e⟩ := List.getElem_of_mem hx; ⟨i, by rw [List.getElem?_eq_getElem hi, e]⟩
  have hpl := hpo.len
  refine ⟨⟨hpo, hw, fun v hv => ?_, hwh, by omega, fun x hx => ?_, fun x hx => ?_⟩, h1, fun v hv => (hh v hv).2, ?_⟩
  · have := hh v hv; omega
  · obtain ⟨i, hi⟩ := hmem x hx
    obtain ⟨-, h5, h6⟩ := hat i x hi
    have h7 : wide.getD x.row.toNat 0 ≤ 30 := by
      rw [List.getD_eq_getElem?_getD]
      cases hg : wide[x.row.toNat]? with
      | none => simp
      | some v => simpa using (hw.2 v (List.mem_of_getElem? hg)).2
    exact ⟨h5.1, by omega, h6.1, by omega⟩
  · obtain ⟨i, hi⟩ := hmem x hx
    obtain ⟨q, hq, e⟩ := hasP_iff.1 (hat i x hi).1
    obtain ⟨k, hk, e2⟩ := List.getElem_of_mem hq
    exact ⟨k, q, by rw [List.getElem?_eq_getElem hk, e2], e⟩
  · exact Classical.not_not.1 fun hn => by rw [dupB_iff.2 hn] at hd; cases hd
end Go.Proofs.YtfcoeikekbjgpaaGreatDoor

namespace Go.Proofs.YtfcoeikekbjgpaaGreatDoor
open Go

section
variable {P : List PersonV} {wide high : List Int}
end
end Go.Proofs.YtfcoeikekbjgpaaGreatDoor

namespace Go.Proofs.YtfcoeikekbjgpaaGreatDoor
open Go

end Go.Proofs.YtfcoeikekbjgpaaGreatDoor

namespace Go.Proofs.YtfcoeikekbjgpaaGreatDoor
open Go Go.RowKit Go.Sort

end Go.Proofs.YtfcoeikekbjgpaaGreatDoor
