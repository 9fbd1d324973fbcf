/- What right stands are, in one sentence, and the other way round they stay right: plain mathematics. Conditions: as each theorem says. Gaps, row by row; with them closed the stands stay right: plain mathematics. Conditions: as each theorem says. -/
import Derived.Test.YtakfanmoepiagaaGreatDoorSmJ21
set_option linter.unusedSimpArgs false
set_option linter.unusedVariables false
namespace Go.Proofs.YtakfanmoepiagaaGreatDoor
open Go

def AtS (P : List PersonV) (wide : List Int) (x : StandV) : Prop := hasP P x.name = true ∧ (0 ≤ x.row ∧ x.row ≤ wide.length - 1) ∧ 0 ≤ x.place ∧ x.place ≤ wide.getD x.row.toNat 0 - 1
theorem standsF_right {P : List PersonV} {wide high : List Int} {S : List StandV} (h : standsF P wide high S = 0) : ostF P wide high = 0 ∧ S.length ≤ P.length ∧ (∀ x ∈ S, AtS P wide x) ∧ S.Pairwise (fun a b => ltV a b = true) ∧ (namesS S).Nodup := by
  have hnd := (standsF_ok h).2.2.2
  unfold standsF at h
  by_cases h0 : ostF P wide high = 0
  rotate_left
  · rw [if_neg h0] at h; exact absurd h h0
  rw [if_pos h0] at h
  unfold listF at h
  by_cases h2 : P.length < S.length
  · rw [if_pos h2] at h; cases h
  rw [if_neg h2] at h
  by_cases h3 : scanF S.length (chkSta P wide S) = 0
  rotate_left
  · rw [if_neg h3] at h; exact absurd h h3
  refine ⟨h0, by omega, fun x hx => ?_, stands_sorted h3, hnd⟩
  obtain ⟨i, hi, rfl⟩ := List.getElem_of_mem hx
  have h4 := scan_all h3 i hi
  unfold chkSta at h4
  rw [atL_of (List.getElem?_eq_getElem hi)] at h4
  cases k0 : hasP P S[i].name
  · rw [k0] at h4; simp at h4
  cases k1 : inB S[i].row 0 (wide.length - 1)
  · rw [k0, k1] at h4; simp at h4
  cases k2 : inB S[i].place 0 (wide.getD S[i].row.toNat 0 - 1)
  · rw [k0, k1, k2] at h4; simp at h4
  exact ⟨k0, inB_iff.1 k1, inB_iff.1 k2⟩
end Go.Proofs.YtakfanmoepiagaaGreatDoor

namespace Go.Proofs.YtakfanmoepiagaaGreatDoor
open Go

def inG (G : List ByteArray) (x : StandV) : Bool := G.any fun y => y.toList == x.name.toList
theorem inG_iff {G : List ByteArray} {x : StandV} : inG G x = true ↔ x.name ∈ G := by
  unfold inG
  rw [List.any_eq_true]
  exact ⟨fun ⟨y, hy, h⟩ => baL.1 h ▸ hy, fun h => ⟨_, h, baL.2 rfl⟩⟩
/-- How many of the first k are gone, row by row. -/
def cntK (S : List StandV) (g : StandV → Bool) (k : Nat) (r : Int) : Nat := ((S.take k).filter fun z => g z && decide (z.row = r)).length
def gapL (S : List StandV) (g : StandV → Bool) (n k : Nat) : List Int := (List.range n).map fun r : Nat => (cntK S g k (r : Int) : Int)
theorem gap_len (S : List StandV) (g : StandV → Bool) (n k : Nat) : (gapL S g n k).length = n := by simp [gapL]
theorem gap_zero (S : List StandV) (g : StandV → Bool) (n : Nat) : gapL S g n 0 = List.replicate n 0 := by
  unfold gapL cntK
  apply List.ext_getElem?
  intro i
  rw [List.getElem?_map]
  by_cases h : i < n
  · rw [List.getElem?_range h, List.getElem?_replicate, if_pos h]; simp
  · rw [List.getElem?_eq_none (by simpa using h), List.getElem?_replicate, if_neg h]; rfl
theorem gap_get {S : List StandV} {g : StandV → Bool} {n k r : Nat} (h : r < n) : (gapL S g n k)[r]? = some (cntK S g k r : Int) := by
  unfold gapL
  rw [List.getElem?_map, List.getElem?_range h]
  rfl
theorem cntK_succ {S : List StandV} {g : StandV → Bool} {k : Nat} {x : StandV} (hx : S[k]? = some x) (r : Int) : cntK S g (k + 1) r = cntK S g k r + (if g x && decide (x.row = r) then 1 else 0) := by
  unfold cntK
  rw [take_snocL hx, List.filter_append, List.length_append]
  congr 1
  cases h : (g x && decide (x.row = r)) <;> simp [h]
theorem gap_out {S : List StandV} {g : StandV → Bool} {n k : Nat} {x : StandV} (hx : S[k]? = some x) (hg : g x = false) : gapL S g n (k + 1) = gapL S g n k := by
  unfold gapL
  refine List.map_congr_left fun r _ => ?_
  rw [cntK_succ hx, hg]
  simp
theorem gap_in {S : List StandV} {g : StandV → Bool} {n k r : Nat} {x : StandV} (hx : S[k]? = some x) (hg : g x = true) (hr : x.row = (r : Int)) (hn : r < n) : gapL S g n (k + 1) = (gapL S g n k).set r ((cntK S g k r : Int) + 1) := by
  apply List.ext_getElem?
  intro i
  rw [List.getElem?_set]
  by_cases h : i < n
  · rw [gap_get h, cntK_succ hx, hg]
    by_cases e : r = i
    · subst e
      have hlen : r < (gapL S g n k).length := by rw [gap_len]; exact h
      simp [hr, hlen]
    · have e2 : ¬ x.row = (i : Int) := by omega
      rw [if_neg e, gap_get h]
      simp [e2]
  · have e : ¬ r = i := by omega
    rw [if_neg e, List.getElem?_eq_none (by rw [gap_len]; omega), List.getElem?_eq_none (by rw [gap_len]; omega)]
theorem cnt_is {S : List StandV} (hs : S.Pairwise (fun a b => ltV a b = true)) (g : StandV → Bool) {k : Nat} {x : StandV} (hx : S[k]? = some x) : cntG S g x = cntK S g k x.row := by
  obtain ⟨hk, e⟩ := List.getElem?_eq_some_iff.1 hx
  unfold cntG cntK
  have h1 : S.filter (fun z => g z && (decide (z.row = x.row) && decide (z.place < x.place))) = ((S.take k).filter fun z => g z && (decide (z.row = x.row) && decide (z.place < x.place))) ++ ((S.drop k).filter fun z => g z && (decide (z.row = x.row) && decide (z.place < x.place))) := by
    rw [← List.filter_append, List.take_append_drop]
  have h2 : (S.drop k).filter (fun z => g z && (decide (z.row = x.row) && decide (z.place < x.place))) = [] := by
    rw [List.filter_eq_nil_iff]
    intro z hz hb
    simp at hb
    obtain ⟨i, hi, ez⟩ := List.getElem_of_mem hz
    rw [List.getElem_drop] at ez
    rw [List.length_drop] at hi
    rcases Nat.eq_zero_or_pos i with h0 | h0
    · subst h0
      have exz : x = z := e.symm.trans ez
      subst exz
      omega
    · have h3 := List.pairwise_iff_getElem.1 hs k (k + i) hk (by omega) (by omega)
      rw [e, ez] at h3
      unfold ltV at h3
      simp at h3
      omega
  rw [h1, h2, List.append_nil]
  congr 1
  refine List.filter_congr fun z hz => ?_
  obtain ⟨i, hi, ez⟩ := List.getElem_of_mem hz
  rw [List.length_take] at hi
  rw [List.getElem_take] at ez
  have h3 := List.pairwise_iff_getElem.1 hs i k (by omega) hk (by omega)
  rw [e, ez] at h3
  unfold ltV at h3
  simp at h3
  congr 1
  by_cases hr : z.row = x.row
  · have : z.place < x.place := by omega
    simp [hr, this]
  · simp [hr]
theorem gap_is {S : List StandV} (hs : S.Pairwise (fun a b => ltV a b = true)) (g : StandV → Bool) {n k r : Nat} {x : StandV} (hx : S[k]? = some x) (hr : x.row = (r : Int)) (hn : r < n) : (gapL S g n k)[r]? = some (cntG S g x : Int) := by
  rw [gap_get hn, cnt_is hs g hx, hr]
def closeT (S : List StandV) (g : StandV → Bool) (k : Nat) : List StandV := ((S.take k).filter fun x => !g x).map (closeS S g)
theorem closeT_all (S : List StandV) (g : StandV → Bool) : closeT S g S.length = closeL S g := by unfold closeT closeL; rw [List.take_length]
theorem closeT_out {S : List StandV} {g : StandV → Bool} {k : Nat} {x : StandV} (hx : S[k]? = some x) (hg : g x = false) : closeT S g (k + 1) = closeT S g k ++ [closeS S g x] := by
  unfold closeT
  rw [take_snocL hx, List.filter_append, List.map_append]
  simp [hg]
theorem closeT_in {S : List StandV} {g : StandV → Bool} {k : Nat} {x : StandV} (hx : S[k]? = some x) (hg : g x = true) : closeT S g (k + 1) = closeT S g k := by
  unfold closeT
  rw [take_snocL hx, List.filter_append, List.map_append]
  simp [hg]
theorem closeT_len (S : List StandV) (g : StandV → Bool) (k : Nat) : (closeT S g k).length ≤ k := by
  unfold closeT
  rw [List.length_map]
  exact Nat.le_trans (List.length_filter_le _ _) (by rw [List.length_take]; omega)
end Go.Proofs.YtakfanmoepiagaaGreatDoor
