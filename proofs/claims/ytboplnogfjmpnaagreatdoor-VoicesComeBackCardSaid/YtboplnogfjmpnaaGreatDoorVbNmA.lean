/- Names sorted, and each once: plain mathematics, and the walks of slices.Sort and of the document's 'once'. Conditions: sizes. -/
import Derived.Test.YtboplnogfjmpnaaGreatDoorVbRepB
import Derived.Test.YtboplnogfjmpnaaGreatDoorVbShelf
import Derived.Sort.OwnSorted
import Derived.Sort.Grow
import Derived.Lib.OwnBridge
import Derived.Lib.RowBridge
set_option linter.unusedSimpArgs false
set_option linter.unusedVariables false
namespace Go.Proofs.YtboplnogfjmpnaaGreatDoor
open Go Go.RowKit Go.Sort

theorem enc_str (x : ByteArray) : encStr x.data.toList = .string x := by cases x; rfl
theorem map_enc (T : List ByteArray) : (T.map fun x => x.data.toList).map encStr = T.map Value.string := by
  rw [List.map_map]
  exact List.map_congr_left fun x _ => enc_str x
def srtB (T : List ByteArray) : List (List UInt8) := (T.map fun x => x.data.toList).mergeSort fun x y => decide (x ≤ y)
def srtN (T : List ByteArray) : List ByteArray := (srtB T).map fun l => ⟨l.toArray⟩
theorem srtB_len (T : List ByteArray) : (srtB T).length = T.length := by unfold srtB; rw [List.length_mergeSort, List.length_map]
theorem flat_enc (T : List ByteArray) : T.flatMap strC = (T.map fun x => x.data.toList).map encStr := by
  rw [map_enc]
  induction T with
  | nil => rfl
  | cons x l ih => rw [List.flatMap_cons, ih]; rfl
theorem srtN_cells (T : List ByteArray) : (srtN T).flatMap strC = (srtB T).map encStr := by
  rw [flat_enc]
  unfold srtN
  have e : ((srtB T).map fun l => (⟨l.toArray⟩ : ByteArray)).map (fun x : ByteArray => x.data.toList) = srtB T := by
    rw [List.map_map]
    have : ((fun x : ByteArray => x.data.toList) ∘ fun l : List UInt8 => (⟨l.toArray⟩ : ByteArray)) = id := funext fun l => by simp
    rw [this, List.map_id]
  rw [e]
theorem sortN_any {w : World} {base g n cap : Nat} {T : List ByteArray} (h : w.ownsRow base 9 1 (.slice (some ⟨g, 0, none⟩) n cap) n (T.flatMap strC)) (hn : T.length = n) (hn1 : n ≤ 1000) :
    Calls Tryz.prog 81 #[.slice (some ⟨g, 0, none⟩) n cap] w fun e w' => e = .returned (.tuple #[]) ∧ w'.ownsRow base 9 1 (.slice (some ⟨g, 0, none⟩) n cap) n ((srtN T).flatMap strC) ∧ ∀ a : World, Ext a w → a.heap.size ≤ g → Ext a w' := by
  rw [flat_enc] at h
  have h0 := h
  obtain ⟨g', cap', he, hbg, hgl, hncap, hcm, hlen, hH⟩ := Lib.holds_of_ownsRow h (by intro e; cases e)
  cases he
  have hl : (T.map fun x => x.data.toList).length = n := by rw [List.length_map, hn]
  have hs := Tryz.slices_Sort_string g 0 cap (T.map fun x => x.data.toList) w hH hgl (by omega)
  rw [hl] at hs
  refine hs.mono fun e w' ⟨he, nn, os, hw⟩ => ⟨he, ?_, fun a ha hg => ?_⟩
  · rw [hw, srtN_cells]
    rcases h0.2 with ⟨h1, -⟩ | ⟨g', cap', cur, h1, hb, hgc, hnc, hcm2, hcs, htk⟩
    · cases h1
    cases h1
    have h9 := ownsRow_sorted (w := w) (n := nn) (os := os) (base := base) (g := g) (cap := cap) (cur := cur) (ss := T.map fun x => x.data.toList) (ts := srtB T) (by rw [srtB_len, List.length_map]) hb hgc (by omega) hcm2 hcs
    rw [hl] at h9
    exact h9
  · rw [hw]
    exact ha.grown (grownBy_sorted _) (fun j e => by cases e; exact hg)
theorem strC_map (T : List ByteArray) : T.map Value.string = T.flatMap strC := by rw [flat_enc, map_enc]

theorem nmInfo : (Tryz.prog.info? 9).map (fun i => (i.zero, i.size, i.bytes)) = some (some (.string ⟨#[]⟩), 1, 16) := by kernel_rfl
/-! ### compaction of a sorted list -/
def unB (l : List UInt8) : ByteArray := ⟨l.toArray⟩
theorem unB_data (l : List UInt8) : (unB l).data.toList = l := by simp [unB]
/-- Names, sorted and each once. -/
def onceL (T : List ByteArray) : List ByteArray := (Lib.compact (srtB T)).map unB
theorem onceL_len_le (T : List ByteArray) : (onceL T).length ≤ T.length := by
  unfold onceL
  rw [List.length_map, ← srtB_len T]
  exact Lib.compact_length_le _
theorem onceL_cells (T : List ByteArray) : (onceL T).flatMap strC = (Lib.compact (srtB T)).map encStr := by
  have : ((fun x : ByteArray => x.data.toList) ∘ unB) = id := funext unB_data
  have e : (onceL T).map (fun x : ByteArray => x.data.toList) = Lib.compact (srtB T) := by
    unfold onceL
    rw [List.map_map, this, List.map_id]
  rw [flat_enc, e]

set_option maxRecDepth 100000 in
set_option maxHeartbeats 3200000 in
theorem onceG_any (p : Option Addr) (n c : Nat) (T : List ByteArray) (w : World) (hS : Sl 1 strC w p n T) (hn : n ≤ 1000) :
    Calls Tryz.prog 50 #[.slice p n c] w fun e w' => ∃ (p' : Option Addr) (c' : Nat), e = .returned (.slice p' (onceL T).length c') ∧ w'.ownsRow w.heap.size 9 1 (.slice p' (onceL T).length c') (onceL T).length ((onceL T).flatMap strC) ∧ Ext w w' := by
  have hl := hS.1
  by_cases hn0 : n = 0
  · subst hn0
    obtain rfl : T = [] := List.eq_nil_of_length_eq_zero hl
    have hon : onceL [] = [] := List.eq_nil_of_length_eq_zero (by have := onceL_len_le []; simpa using this)
    rw [hon]
    clear hS
    cases p with
    | none =>
      have h1 := Tryz.slices_Clone_string_nil 0 c w
      replace h1 := Lib.hid h1
      go_enter Tryz.func50, Tryz.ntmps50
      go_wp2_with (first
        | (go_at_call 80; refine (h1.out).mono ?_; rintro e w1 ⟨rfl, rfl⟩)
        | (go_at_call 81; refine (Tryz.slices_Sort_string_none _ _ _).mono ?_; rintro e w2 ⟨rfl, rfl⟩)
        | (go_at_call 82; refine (Tryz.slices_Compact_string_empty _ _ _).mono ?_; rintro e w3 ⟨rfl, rfl⟩))
      go_ret
      exact ⟨none, 0, rfl, World.ownsRow_nil _ _ _ _, Ext.refl _⟩
    | some a =>
      have h1 := Tryz.slices_Clone_string_zero a c w
      replace h1 := Lib.hid h1
      go_enter Tryz.func50, Tryz.ntmps50
      go_wp2_with (first
        | (go_at_call 80; refine (h1.out).mono ?_; rintro e w1 ⟨v1, rfl, hown, hnn, hbel⟩; obtain ⟨p1, c1, rfl, hS1⟩ := slc_of_own (xs := ([] : List ByteArray)) (enc := strC) (fun _ => rfl) hown (by decide) (by decide))
        | (go_at_call 81; refine (Tryz.slices_Sort_string_none _ _ _).mono ?_; rintro e w2 ⟨rfl, rfl⟩)
        | (go_at_call 82; refine (Tryz.slices_Compact_string_empty _ _ _).mono ?_; rintro e w3 ⟨rfl, rfl⟩))
      go_ret
      exact ⟨p1, c1, rfl, hown, hbel⟩
  · obtain ⟨b, off, rfl, hb, hE⟩ := hS.2.2 hn0
    have h1 := Tryz.slices_Clone_string b off n c T w (by omega) (by omega) (fun j hj => by
      have hx : T[j]? = some T[j] := List.getElem?_eq_getElem hj
      rw [hE.str hx, List.getD_eq_getElem?_getD, hx]
      rfl)
    rw [List.take_of_length_le (by omega), strC_map] at h1
    have hcl := Lib.compact_length_le (srtB T)
    have hbl := srtB_len T
    have hol : (onceL T).length = (Lib.compact (srtB T)).length := by unfold onceL; rw [List.length_map]
    have hpos : 0 < n := by omega
    replace h1 := Lib.hid h1
    replace hol := Lib.hid hol
    clear hS hE
    go_enter Tryz.func50, Tryz.ntmps50
    go_wp2_with (first
      | (go_at_call 80; refine (h1.out).mono ?_; rintro e w1 ⟨v1, rfl, hown, hnn, hbel⟩
         obtain ⟨g, cap, rfl, hbg, -⟩ := hown.form hpos
         have hsort := sortN_any hown hl hn
         replace hsort := Lib.hid hsort)
      | (go_at_call 81; refine (hsort.out).mono ?_; rintro e w2 ⟨rfl, hown2, hext2⟩
         have hbel2 : Ext w w2 := hext2 w hbel hbg
         rw [srtN_cells] at hown2
         obtain ⟨g', cap', heq, -, hgl, hncap, hcm, hlen, hH2⟩ := Lib.holds_of_ownsRow hown2 hnn
         cases heq
         have hcomp := Tryz.slices_Compact_string g 0 cap (srtB T) w2 hH2 (by omega) (by omega)
         rw [hlen] at hcomp
         replace hcomp := Lib.hid hcomp
         replace hown2 := Lib.hid hown2)
      | (go_at_call 82; refine (hcomp.out).mono ?_; rintro e w3 ⟨rfl, q, rfl⟩))
    go_ret
    have ho3 := Lib.ownsRow_putRow (q := q) (k := (Lib.compact (srtB T)).length) (ys := Lib.compact (srtB T) ++ List.replicate (n - (Lib.compact (srtB T)).length) []) hown2.out (by rw [List.length_append, List.length_replicate]; omega) (by omega)
    rw [List.take_left] at ho3
    refine ⟨some ⟨g, 0, none⟩, cap, by rw [hol.out]; rfl, ?_, Lib.below_putRow hbel2 hbg⟩
    rw [hol.out, onceL_cells]
    exact ho3
end Go.Proofs.YtboplnogfjmpnaaGreatDoor
