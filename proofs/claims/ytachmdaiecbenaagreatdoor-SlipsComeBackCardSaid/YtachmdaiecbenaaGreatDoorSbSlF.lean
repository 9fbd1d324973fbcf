/- Lines, words and numbers of a text, by kit. Conditions: sizes; the variable internal/bytealg.MaxLen holds some number. -/
import Derived.Test.YtachmdaiecbenaaGreatDoorSbSlE
set_option linter.unusedSimpArgs false
set_option linter.unusedVariables false
namespace Go.Proofs.YtachmdaiecbenaaGreatDoor
open Go Go.RowKit

/-- The variable that strings.Split looks at holds some number; it lies ahead of block B. -/
def MaxL (B : Nat) (w : World) : Prop := 0 < B ∧ B ≤ w.heap.size ∧ ∃ m : Int, w.cell? ⟨0, 0, none⟩ = some (.int .i64 m)
theorem MaxL.ext {B : Nat} {w w' : World} (h : MaxL B w) (he : Ext w w') : MaxL B w' := by
  obtain ⟨h1, h2, m, hm⟩ := h
  obtain ⟨hc, -, -⟩ := he.walk
  exact ⟨h1, Nat.le_trans h2 he.size, m, (hc _ _ (Nat.lt_of_lt_of_le h1 h2)).trans hm⟩
theorem MaxL.extS {B s : Nat} {w w' : World} (h : MaxL B w) (hs : B ≤ s) (he : ExtS s w w') : MaxL B w' := by
  obtain ⟨h1, h2, m, hm⟩ := h
  exact ⟨h1, Nat.le_trans h2 he.2.2.2.1, m, (he.cell (Nat.lt_of_lt_of_le h1 h2) (by omega) 0).trans hm⟩
def splitW (c : UInt8) (l : List UInt8) : List ByteArray := (cutL c l).map fun x => ⟨x.toArray⟩
theorem splitB_is (c : UInt8) (s : ByteArray) : Lib.splitB ⟨#[c]⟩ 0 (Lib.countB s ⟨#[c]⟩) s = splitW c s.data.toList := by
  have h := congrArg (List.map fun x : List UInt8 => (⟨x.toArray⟩ : ByteArray)) (splitB_cut c s)
  rw [List.map_map] at h
  rw [← show (splitW c s.data.toList) = (cutL c s.data.toList).map (fun x => ⟨x.toArray⟩) from rfl] at h
  rw [← h]
  exact (List.map_id'' (fun w => ba_eq rfl) _).symm
theorem splitW_len (c : UInt8) (s : ByteArray) : Lib.countB s ⟨#[c]⟩ + 1 = (splitW c s.data.toList).length := by
  unfold splitW
  rw [List.length_map, cutL_len]
  show Lib.count s.data.toList [c] + 1 = _
  rw [Lib.count_one]
theorem count_le (c : UInt8) : ∀ l : List UInt8, l.count c ≤ l.length := fun l => List.count_le_length
theorem splitW_most (c : UInt8) (l : List UInt8) : (splitW c l).length ≤ l.length + 1 := by
  unfold splitW
  rw [List.length_map, cutL_len]
  have := count_le c l
  omega
theorem split_any (c : UInt8) (s : ByteArray) (B : Nat) (w : World) (hs : s.size ≤ 1000000000) (hm : MaxL B w) :
    Calls Tryz.prog 56 #[.string s, .string ⟨#[c]⟩] w fun e w' => e = .returned (.slice (some ⟨w.heap.size, 0, none⟩) (splitW c s.data.toList).length (splitW c s.data.toList).length) ∧ w' = w.alloc (.cells ((splitW c s.data.toList).map Value.string).toArray 9) := by
  obtain ⟨-, -, m, hm⟩ := hm
  have h := Tryz.strings_Split s ⟨#[c]⟩ m w (by omega) hm (Nat.le_refl 1)
  rw [splitB_is, splitW_len] at h
  exact h
theorem cell_of_row {w : World} {g : Nat} {e : TypeId} {W : List ByteArray} (h : Blk w g e (W.map Value.string).toArray) {j : Nat} {x : ByteArray} (hx : W[j]? = some x) : w.cell? ⟨g, j, none⟩ = some (.string x) := by
  rw [h.cell]
  simp [hx]
theorem ba_empty {s : ByteArray} (h : ¬ s = ⟨#[]⟩) : s.toList.isEmpty = false ∧ ¬ s.toList = [] := by
  have g1 : s.toList.isEmpty = false := by
    cases hh : s.toList.isEmpty with
    | false => rfl
    | true => exact absurd (empty_ba hh) h
  exact ⟨g1, fun e => by rw [e] at g1; cases g1⟩

set_option maxRecDepth 100000 in
set_option maxHeartbeats 1600000 in
theorem words_good (s : ByteArray) (B : Nat) (w : World) (hs : s.size ≤ 1000000000) (hm : MaxL B w) (hw : ∀ x ∈ wordsL s.data.toList, x ≠ ⟨#[]⟩) :
    Calls Tryz.prog 57 #[.string s] w fun e w' => e = .returned (.tuple #[.slice (some ⟨w.heap.size, 0, none⟩) (wordsL s.data.toList).length (wordsL s.data.toList).length, .bool true]) ∧ w' = w.alloc (.cells ((wordsL s.data.toList).map Value.string).toArray 9) := by
  have hsp := split_any 32 s B w hs hm
  have hmo := splitW_most 32 s.data.toList
  have hsz : s.data.toList.length = s.size := Array.length_toList
  have hB := Blk.new' (w := w) (t := 9) (cs := ((wordsL s.data.toList).map Value.string).toArray) rfl
  change (wordsL s.data.toList).length ≤ _ at hmo
  rw [hsz] at hmo
  rw [show splitW 32 s.data.toList = wordsL s.data.toList from rfl] at hsp
  generalize wordsL s.data.toList = W at *
  have hlW : W.length ≤ 1000000001 := by omega
  replace hsp := Lib.hid hsp
  replace hB := Lib.hid hB
  clear hmo hsz hm
  go_enter Tryz.func57, Tryz.ntmps57
  go_wp2_with (go_at_call 56; (with_reducible refine Calls.mono hsp.out ?_); rintro e w1 ⟨rfl, rfl⟩)
  go_loop [11] (fun i => ∃ k : Nat, k ≤ W.length ∧ i = .int .i64 k) (fun i => W.length - (intOf i).toNat)
  case atStart => exact ⟨0, Nat.zero_le _, rfl⟩
  case round =>
    obtain ⟨k, hk, rfl⟩ := hrel
    by_cases hlt : k < W.length
    · obtain ⟨x, hx⟩ := getD_some (rfl : W.length = W.length) hlt
      have c0 := cell_of_row hB.out hx
      obtain ⟨g1, g2⟩ := ba_empty (hw x (List.mem_of_getElem? hx))
      have hkI : (k : Int) < W.length := by omega
      clear hx
      go_wp2
      go_round
      case rel => exact ⟨k + 1, by omega, by go_num⟩
      case measure => simp [intOf]; omega
    · obtain rfl : k = W.length := by omega
      go_wp2
      go_ret2
      exact ⟨rfl, rfl⟩
set_option maxRecDepth 100000 in
set_option maxHeartbeats 1600000 in
theorem words_bad (s : ByteArray) (B : Nat) (w : World) (hs : s.size ≤ 1000000000) (hm : MaxL B w) (hw : ∃ x ∈ wordsL s.data.toList, x = ⟨#[]⟩) :
    Calls Tryz.prog 57 #[.string s] w fun e w' => e = .returned (.tuple #[.slice none 0 0, .bool false]) ∧ Ext w w' := by
  have hsp := split_any 32 s B w hs hm
  have hmo := splitW_most 32 s.data.toList
  have hsz : s.data.toList.length = s.size := Array.length_toList
  have hB := Blk.new' (w := w) (t := 9) (cs := ((wordsL s.data.toList).map Value.string).toArray) rfl
  change (wordsL s.data.toList).length ≤ _ at hmo
  rw [hsz] at hmo
  rw [show splitW 32 s.data.toList = wordsL s.data.toList from rfl] at hsp
  generalize wordsL s.data.toList = W at *
  have hlW : W.length ≤ 1000000001 := by omega
  replace hsp := Lib.hid hsp
  replace hB := Lib.hid hB
  replace hw := Lib.hid hw
  clear hmo hsz hm
  go_enter Tryz.func57, Tryz.ntmps57
  go_wp2_with (go_at_call 56; (with_reducible refine Calls.mono hsp.out ?_); rintro e w1 ⟨rfl, rfl⟩)
  go_loop [11] (fun i => ∃ k : Nat, k ≤ W.length ∧ i = .int .i64 k ∧ ∀ j x, j < k → W[j]? = some x → ¬ x = ⟨#[]⟩) (fun i => W.length - (intOf i).toNat)
  case atStart => exact ⟨0, Nat.zero_le _, rfl, fun j x hj => by omega⟩
  case round =>
    obtain ⟨k, hk, rfl, hz⟩ := hrel
    by_cases hlt : k < W.length
    · obtain ⟨x, hx⟩ := getD_some (rfl : W.length = W.length) hlt
      have c0 := cell_of_row hB.out hx
      have hkI : (k : Int) < W.length := by omega
      by_cases h0 : x = ⟨#[]⟩
      · subst h0
        clear hx hz
        go_wp2
        go_ret2
        exact ⟨rfl, (Ext.refl _).alloc _⟩
      · obtain ⟨g1, g2⟩ := ba_empty h0
        have hz2 : ∀ j y, j < k + 1 → W[j]? = some y → ¬ y = ⟨#[]⟩ := fun j y hj hy => by
          rcases Nat.lt_or_ge j k with h | h
          · exact hz j y h hy
          · obtain rfl : j = k := by omega
            rw [hx] at hy
            cases hy
            exact h0
        replace hz2 := Lib.hid hz2
        clear hx hz h0
        go_wp2
        go_round
        case rel => exact ⟨k + 1, by omega, by go_num, hz2.out⟩
        case measure => simp [intOf]; omega
    · exfalso
      obtain ⟨x, hx, e⟩ := hw.out
      obtain ⟨j, hj, rfl⟩ := List.getElem_of_mem hx
      exact hz j _ (by omega) (List.getElem?_eq_getElem hj) e
set_option maxRecDepth 100000 in
theorem lines_nil (w : World) :
    Calls Tryz.prog 27 #[.string ⟨#[]⟩] w fun e w' => e = .returned (.tuple #[.slice none 0 0, .bool true]) ∧ Ext w w' := by
  go_enter Tryz.func27, Tryz.ntmps27
  go_wp2
  go_ret2
  exact ⟨rfl, Ext.refl _⟩
/-- The lines of a text that is not empty. -/
def linesW (s : List UInt8) : List ByteArray := splitW 10 (Lib.trimSuffix s [10])
set_option maxRecDepth 100000 in
set_option maxHeartbeats 1600000 in
theorem lines_some (s : ByteArray) (B : Nat) (w : World) (hs : s.size ≤ 1000000000) (hm : MaxL B w) (h0 : ¬ s = ⟨#[]⟩) :
    Calls Tryz.prog 27 #[.string s] w fun e w' => e = .returned (.tuple #[.slice (some ⟨w.heap.size, 0, none⟩) (linesW s.data.toList).length (linesW s.data.toList).length, .bool (Lib.hasSuffix s.data.toList [10])]) ∧ w' = w.alloc (.cells ((linesW s.data.toList).map Value.string).toArray 9) := by
  obtain ⟨g1, g2⟩ := ba_empty h0
  have hcs : Calls Tryz.prog 55 #[.string s, .string ⟨#[10]⟩] w _ := Tryz.strings_CutSuffix s ⟨#[10]⟩ w (by omega)
  have htl : (Lib.trimSuffix s.data.toList [10]).length ≤ s.size := by
    have : s.data.toList.length = s.size := Array.length_toList
    unfold Lib.trimSuffix
    split
    · rw [List.length_take]; omega
    · omega
  have hsp := split_any 10 ⟨(Lib.trimSuffix s.data.toList [10]).toArray⟩ B w (by show (Lib.trimSuffix s.data.toList [10]).toArray.size ≤ _; simp; omega) hm
  change Calls _ _ _ _ fun e w' => e = .returned (.slice (some ⟨w.heap.size, 0, none⟩) (linesW s.data.toList).length (linesW s.data.toList).length) ∧ w' = w.alloc (.cells ((linesW s.data.toList).map Value.string).toArray 9) at hsp
  change Calls _ _ _ _ fun e w' => e = .returned (.tuple #[.string ⟨(Lib.trimSuffix s.data.toList [10]).toArray⟩, .bool (Lib.hasSuffix s.data.toList [10])]) ∧ w' = w at hcs
  generalize linesW s.data.toList = W at *
  generalize (Lib.trimSuffix s.data.toList [10]).toArray = T at *
  generalize Lib.hasSuffix s.data.toList [10] = E at *
  replace hsp := Lib.hid hsp
  replace hcs := Lib.hid hcs
  clear htl hm h0
  go_enter Tryz.func27, Tryz.ntmps27
  go_wp2_with (first
    | (go_at_call 55; (with_reducible refine Calls.mono hcs.out ?_); rintro e w1 ⟨rfl, rfl⟩)
    | (go_at_call 56; (with_reducible refine Calls.mono hsp.out ?_); rintro e w1 ⟨rfl, rfl⟩))
  go_ret2
  exact ⟨rfl, rfl⟩
end Go.Proofs.YtachmdaiecbenaaGreatDoor
