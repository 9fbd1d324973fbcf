/- What is wrong with stands: plain words. Conditions: as each theorem says. Whether a string is there twice, by the document's text. Conditions: sizes. Stands the other way round: plain mathematics. Conditions: as each theorem says. Stands with gaps closed: plain mathematics. Conditions: as each theorem says. What right stands are, in one sentence, and the other way round they stay right: plain mathematics. Conditions: as each theorem says. Gaps, row by row; with them closed the stands stay right: plain mathematics. Conditions: as each theorem says. -/
import Derived.Test.YtfcoeikekbjgpaaGreatDoorSxStK
import Derived.Test.YtfcoeikekbjgpaaGreatDoorSxJ16
import Derived.Test.YtfcoeikekbjgpaaGreatDoorSxShelf
import Derived.Sort.OwnSorted
import Derived.Sort.Grow
import Derived.Lib.OwnBridge
import Derived.Lib.RowBridge
set_option linter.unusedSimpArgs false
set_option linter.unusedVariables false
namespace Go.Proofs.YtfcoeikekbjgpaaGreatDoor
open Go Go.RowKit

theorem baL {a b : ByteArray} : (a.toList == b.toList) = true ↔ a = b := by
  constructor
  · intro h
    have h4 := eq_of_beq h
    rw [ByteArray.toList_eq, ByteArray.toList_eq] at h4
    cases a; cases b
    simp only at h4 ⊢
    congr 1
    exact Array.toList_inj.1 h4
  · rintro rfl
    simp
def hasP (P : List PersonV) (nm : ByteArray) : Bool := P.any fun x => x.name.toList == nm.toList
theorem hasP_iff {P : List PersonV} {nm : ByteArray} : hasP P nm = true ↔ ∃ x ∈ P, x.name = nm := by
  unfold hasP
  rw [List.any_eq_true]
  exact ⟨fun ⟨x, hx, h⟩ => ⟨x, hx, baL.1 h⟩, fun ⟨x, hx, h⟩ => ⟨x, hx, baL.2 h⟩⟩
def dupB : List ByteArray → Bool
  | [] => false
  | x :: l => (l.any fun y => x.toList == y.toList) || dupB l
theorem dupB_iff : ∀ {l : List ByteArray}, dupB l = true ↔ ¬ l.Nodup
  | [] => by simp [dupB]
  | x :: l => by
    have ih := @dupB_iff l
    unfold dupB
    rw [Bool.or_eq_true, List.any_eq_true, ih, List.nodup_cons]
    constructor
    · rintro (⟨y, hy, e⟩ | h)
      · have := baL.1 e; subst this; exact fun h => h.1 hy
      · exact fun h2 => h h2.2
    · intro h
      by_cases hm : x ∈ l
      · exact .inl ⟨x, hm, baL.2 rfl⟩
      · exact .inr fun h2 => h ⟨hm, h2⟩
def cmpV (a b : StandV) : Int := if a.row < b.row then -1 else if b.row < a.row then 1 else if a.place < b.place then -1 else if b.place < a.place then 1 else 0
def chkSta (P : List PersonV) (wide : List Int) (S : List StandV) (i : Nat) : Int :=
  if hasP P (atL default S i).name then (if inB (atL default S i).row 0 (wide.length - 1) && inB (atL default S i).place 0 (wide.getD (atL default S i).row.toNat 0 - 1) then (if 0 < i && decide (0 ≤ cmpV (atL default S (i - 1)) (atL default S i)) then 7 else 0) else 1) else 8
def ostF (P : List PersonV) (wide high : List Int) : Int := if peopleF P = 0 then stageF wide high else peopleF P
def listF (P : List PersonV) (wide : List Int) (S : List StandV) : Int :=
  if P.length < S.length then 2 else if scanF S.length (chkSta P wide S) = 0 then (if dupB (namesS S) then 6 else 0) else scanF S.length (chkSta P wide S)
def standsF (P : List PersonV) (wide high : List Int) (S : List StandV) : Int :=
  if ostF P wide high = 0 then listF P wide S else ostF P wide high

theorem stageF_ok {wide high : List Int} (h : stageF wide high = 0) : WideOk wide ∧ (∀ v ∈ high, 0 ≤ v ∧ v ≤ 5000) ∧ high.length = wide.length ∧ 1 ≤ wide.length ∧ ∀ i x y, high[i]? = some x → high[i + 1]? = some y → x ≤ y := by
  unfold stageF at h
  by_cases h0 : wide.length = 0
  · rw [if_pos h0] at h; cases h
  rw [if_neg h0] at h
  by_cases h1 : 10 < wide.length
  · rw [if_pos h1] at h; cases h
  rw [if_neg h1] at h
  by_cases h2 : high.length ≠ wide.length
  · rw [if_pos h2] at h; cases h
  rw [if_neg h2] at h
  have h2 : high.length = wide.length := Decidable.not_not.1 h2
  have hz := scan_all h
  have hat : ∀ i x y, wide[i]? = some x → high[i]? = some y → (1 ≤ x ∧ x ≤ 30) ∧ (0 ≤ y ∧ y ≤ 5000) ∧ (0 < i → atL 0 high (i - 1) ≤ y) := by
    intro i x y hx hy
    have h3 := hz i (List.getElem?_eq_some_iff.1 hx).1
    unfold chkRow at h3
    rw [atL_of hx, atL_of hy] at h3
    cases k1 : inB x 1 30
    · rw [k1] at h3; simp at h3
    cases k2 : inB y 0 5000
    · rw [k1, k2] at h3; simp at h3
    refine ⟨inB_iff.1 k1, inB_iff.1 k2, fun hi => ?_⟩
    rw [k1, k2] at h3
    by_cases k3 : y < atL 0 high (i - 1)
    · simp [hi, k3] at h3
    · omega
  have both : ∀ i, i < wide.length → ∃ x y, wide[i]? = some x ∧ high[i]? = some y := fun i hi => ⟨_, _, List.getElem?_eq_getElem hi, List.getElem?_eq_getElem (by omega)⟩
  refine ⟨⟨by omega, fun v hv => ?_⟩, fun v hv => ?_, h2, by omega, fun i x y hx hy => ?_⟩
  · obtain ⟨i, hi, e⟩ := List.getElem_of_mem hv
    obtain ⟨x, y, hx, hy⟩ := both i hi
    have hx2 : wide[i]? = some v := by rw [List.getElem?_eq_getElem hi, e]
    exact (hat i v y hx2 hy).1
  · obtain ⟨i, hi, e⟩ := List.getElem_of_mem hv
    obtain ⟨x, y, hx, hy⟩ := both i (by omega)
    have hy2 : high[i]? = some v := by rw [List.getElem?_eq_getElem hi, e]
    exact (hat i x v hx hy2).2.1
  · obtain ⟨u, v, hu, hv⟩ := both (i + 1) (by have := (List.getElem?_eq_some_iff.1 hy).1; omega)
    have := (hat (i + 1) u y hu hy).2.2 (by omega)
    rwa [Nat.add_sub_cancel, atL_of hx] at this
theorem ostF_ok {P : List PersonV} {wide high : List Int} (h : ostF P wide high = 0) : peopleF P = 0 ∧ stageF wide high = 0 := by
  unfold ostF at h
  by_cases h0 : peopleF P = 0
  · rw [if_pos h0] at h; exact ⟨h0, h⟩
  · rw [if_neg h0] at h; exact absurd h h0
theorem standsF_ok {P : List PersonV} {wide high : List Int} {S : List StandV} (h : standsF P wide high S = 0) : StandsOk P wide high S ∧ 1 ≤ wide.length ∧ (∀ v ∈ high, v ≤ 5000) ∧ (namesS S).Nodup := by
  unfold standsF at h
  by_cases h0 : ostF P wide high = 0
  rotate_left
  · rw [if_neg h0] at h; exact absurd h h0
  rw [if_pos h0] at h
  obtain ⟨hp, hs⟩ := ostF_ok h0
  have hpo := peopleF_ok hp
  obtain ⟨hw, hh, hwh, h1, -⟩ := stageF_ok hs
  unfold listF at h
  by_cases h2 : P.length < S.length
  · rw [if_pos h2] at h; cases h
  rw [if_neg h2] at h
  by_cases h3 : scanF S.length (chkSta P wide S) = 0
  rotate_left
  · rw [if_neg h3] at h; exact absurd h h3
  rw [if_pos h3] at h
  have hd : dupB (namesS S) = false := by
    cases hh : dupB (namesS S)
    · rfl
    · rw [hh] at h; cases h
  have hz := scan_all h3
  have hat : ∀ (i : Nat) (x : StandV), S[i]? = some x → hasP P x.name = true ∧ (0 ≤ x.row ∧ x.row ≤ wide.length - 1) ∧ 0 ≤ x.place ∧ x.place ≤ wide.getD x.row.toNat 0 - 1 := by
    intro i x hx
    have h4 := hz i (List.getElem?_eq_some_iff.1 hx).1
    unfold chkSta at h4
    rw [atL_of hx] at h4
    cases k0 : hasP P x.name
    · rw [k0] at h4; simp at h4
    cases k1 : inB x.row 0 (wide.length - 1)
    · rw [k0, k1] at h4; simp at h4
    cases k2 : inB x.place 0 (wide.getD x.row.toNat 0 - 1)
    · rw [k0, k1, k2] at h4; simp at h4
    exact ⟨rfl, inB_iff.1 k1, inB_iff.1 k2⟩
  have hmem : ∀ x ∈ S, ∃ i, S[i]? = some x := fun x hx => let ⟨i, hi, e⟩ := List.getElem_of_mem hx; ⟨i, by rw [List.getElem?_eq_getElem hi, e]⟩
  have hpl := hpo.len
  refine ⟨⟨hpo, hw, fun v hv => ?_, hwh, by omega, fun x hx => ?_, fun x hx => ?_⟩, h1, fun v hv => (hh v hv).2, ?_⟩
  · have := hh v hv; omega
  · obtain ⟨i, hi⟩ := hmem x hx
    obtain ⟨-, h5, h6⟩ := hat i x hi
    have h7 : wide.getD x.row.toNat 0 ≤ 30 := by
      rw [List.getD_eq_getElem?_getD]
      cases hg : wide[x.row.toNat]? with
      | none => simp
      | some v => simpa using (hw.2 v (List.mem_of_getElem? hg)).2
    exact ⟨h5.1, by omega, h6.1, by omega⟩
  · obtain ⟨i, hi⟩ := hmem x hx
    obtain ⟨q, hq, e⟩ := hasP_iff.1 (hat i x hi).1
    obtain ⟨k, hk, e2⟩ := List.getElem_of_mem hq
    exact ⟨k, q, by rw [List.getElem?_eq_getElem hk, e2], e⟩
  · exact Classical.not_not.1 fun hn => by rw [dupB_iff.2 hn] at hd; cases hd
end Go.Proofs.YtfcoeikekbjgpaaGreatDoor

namespace Go.Proofs.YtfcoeikekbjgpaaGreatDoor
open Go Go.RowKit Go.Sort

theorem le_tr {a b c : List UInt8} (h : a ≤ b) (k : b ≤ c) : a ≤ c := List.le_trans h k
theorem le_as {a b : List UInt8} (h : a ≤ b) (k : b ≤ a) : a = b := List.le_antisymm h k
theorem le_to (a b : List UInt8) : a ≤ b ∨ b ≤ a := List.le_total a b
theorem srt (ss : List (List UInt8)) : (ss.mergeSort fun x y => decide (x ≤ y)).Pairwise (· ≤ ·) := by
  have := List.pairwise_mergeSort (le := fun x y : List UInt8 => decide (x ≤ y)) (fun a b c h k => by simp at *; exact le_tr h k) (fun a b => by simp; exact le_to a b) ss
  exact this.imp (by simp)
theorem compact_len_lt (zs : List (List UInt8)) (hs : zs.Pairwise (· ≤ ·)) : (Lib.compact zs).length = zs.length ↔ zs.Nodup := by
  unfold Lib.compact Lib.compactUpTo
  rw [List.length_map]
  have e : ((List.range zs.length).filter (Lib.keeps zs.toArray)).length = zs.length ↔ ∀ j, j < zs.length → Lib.keeps zs.toArray j = true := by
    have := List.length_filter_eq_length_iff (p := Lib.keeps zs.toArray) (l := List.range zs.length)
    rw [List.length_range] at this
    rw [this]
    simp
  rw [e]
  constructor
  · intro h
    rw [List.nodup_iff_pairwise_ne, List.pairwise_iff_getElem]
    intro i j hi hj hij heq
    have h1 : i + 1 < zs.length := by omega
    have hk := h (i + 1) h1
    unfold Lib.keeps at hk
    simp at hk
    rw [List.pairwise_iff_getElem] at hs
    have h2 : zs[i] ≤ zs[i + 1] := hs i (i + 1) hi h1 (by omega)
    have h3 : zs[i + 1] ≤ zs[i] := by
      rw [heq]
      rcases Nat.lt_or_ge (i + 1) j with h4 | h4
      · exact hs (i + 1) j h1 hj h4
      · obtain rfl : j = i + 1 := by omega
        exact List.le_refl _
    have h5 := le_as h2 h3
    apply hk
    simp [h1, hi, h5]
  · intro h j hj
    unfold Lib.keeps
    rcases Nat.eq_zero_or_pos j with h0 | h0
    · simp [h0]
    · simp only [decide_eq_true_eq]
      right
      intro heq
      rw [List.nodup_iff_pairwise_ne, List.pairwise_iff_getElem] at h
      have hj1 : j - 1 < zs.length := by omega
      refine h (j - 1) j hj1 hj (by omega) ?_
      have e1 : zs.toArray[j]! = zs[j] := by simp [getElem!_pos, hj]
      have e2 : zs.toArray[j - 1]! = zs[j - 1] := by simp [getElem!_pos, hj1]
      rw [e1, e2] at heq
      exact heq.symm
theorem compact_sorted (ss : List (List UInt8)) : (Lib.compact (ss.mergeSort fun x y => decide (x ≤ y))).length = ss.length ↔ ss.Nodup := by
  have h := compact_len_lt _ (srt ss)
  rw [List.length_mergeSort] at h
  rw [h]
  exact (List.mergeSort_perm ss _).nodup_iff

theorem enc_str (x : ByteArray) : encStr x.data.toList = .string x := by cases x; rfl
theorem map_enc (T : List ByteArray) : (T.map fun x => x.data.toList).map encStr = T.map Value.string := by
  rw [List.map_map]
  exact List.map_congr_left fun x _ => enc_str x
theorem nodup_bytes (T : List ByteArray) : (T.map fun x => x.data.toList).Nodup ↔ T.Nodup := by
  constructor
  · intro h
    rw [List.nodup_iff_pairwise_ne, List.pairwise_map] at h
    rw [List.nodup_iff_pairwise_ne]
    exact h.imp fun hne e => hne (by rw [e])
  · intro h
    rw [List.nodup_iff_pairwise_ne] at h ⊢
    rw [List.pairwise_map]
    exact h.imp fun hne e => hne (by rename_i a b; cases a; cases b; simp only at e; congr 1; exact Array.toList_inj.1 e)

set_option maxRecDepth 100000 in
set_option maxHeartbeats 3200000 in
theorem once_any (p : Option Addr) (n c : Nat) (T : List ByteArray) (w : World) (hS : Sl 1 strC w p n T) (hn : n ≤ 1000) :
    Calls Tryz.prog 88 #[.slice p n c] w fun e w' => ∃ (p' : Option Addr) (m c' : Nat), e = .returned (.slice p' m c') ∧ m ≤ n ∧ (m < n ↔ dupB T = true) ∧ Ext w w' := by
  have hl := hS.1
  by_cases hn0 : n = 0
  · subst hn0
    obtain rfl : T = [] := List.eq_nil_of_length_eq_zero hl
    clear hS
    cases p with
    | none =>
      have h1 := Tryz.slices_Clone_string_nil 0 c w
      replace h1 := Lib.hid h1
      go_enter Tryz.func88, Tryz.ntmps88
      go_wp2_with (first
        | (go_at_call 119; refine (h1.out).mono ?_; rintro e w1 ⟨rfl, rfl⟩)
        | (go_at_call 120; refine (Tryz.slices_Sort_string_none _ _ _).mono ?_; rintro e w2 ⟨rfl, rfl⟩)
        | (go_at_call 121; refine (Tryz.slices_Compact_string_empty _ _ _).mono ?_; rintro e w3 ⟨rfl, rfl⟩))
      go_ret
      exact ⟨none, 0, 0, rfl, Nat.le_refl _, by simp [dupB], Ext.refl _⟩
    | some a =>
      have h1 := Tryz.slices_Clone_string_zero a c w
      replace h1 := Lib.hid h1
      go_enter Tryz.func88, Tryz.ntmps88
      go_wp2_with (first
        | (go_at_call 119; refine (h1.out).mono ?_; rintro e w1 ⟨v1, rfl, hown, hnn, hbel⟩; obtain ⟨p1, c1, rfl, -⟩ := slc_of_own (xs := ([] : List ByteArray)) (enc := strC) (fun _ => rfl) hown (by decide) (by decide))
        | (go_at_call 120; refine (Tryz.slices_Sort_string_none _ _ _).mono ?_; rintro e w2 ⟨rfl, rfl⟩)
        | (go_at_call 121; refine (Tryz.slices_Compact_string_empty _ _ _).mono ?_; rintro e w3 ⟨rfl, rfl⟩))
      go_ret
      exact ⟨p1, 0, c1, rfl, Nat.le_refl _, by simp [dupB], hbel⟩
  · obtain ⟨b, off, rfl, hb, hE⟩ := hS.2.2 hn0
    have h1 := Tryz.slices_Clone_string b off n c T w (by omega) (by omega) (fun j hj => by
      have hx : T[j]? = some T[j] := List.getElem?_eq_getElem hj
      rw [hE.str hx, List.getD_eq_getElem?_getD, hx]
      rfl)
    rw [List.take_of_length_le (by omega), ← map_enc] at h1
    have hdup : (Lib.compact ((T.map fun x => x.data.toList).mergeSort fun x y => decide (x ≤ y))).length < n ↔ dupB T = true := by
      have h2 := compact_sorted (T.map fun x => x.data.toList)
      rw [List.length_map, hl, nodup_bytes] at h2
      have h3 := Lib.compact_length_le ((T.map fun x => x.data.toList).mergeSort fun x y => decide (x ≤ y))
      rw [List.length_mergeSort, List.length_map, hl] at h3
      rw [dupB_iff, ← h2]
      omega
    have hls : (T.map fun x => x.data.toList).length = n := by rw [List.length_map, hl]
    generalize (T.map fun x => x.data.toList) = ss at *
    replace h1 := Lib.hid h1
    replace hdup := Lib.hid hdup
    clear hS hE
    go_enter Tryz.func88, Tryz.ntmps88
    go_wp2_with (first
      | (go_at_call 119; refine (h1.out).mono ?_; rintro e w1 ⟨v1, rfl, hown, hnn, hbel⟩
         obtain ⟨g, cap, rfl, hbg, hgl, hncap, hcm, hlen, hH⟩ := Lib.holds_of_ownsRow hown hnn
         have hsort := Tryz.slices_Sort_string g 0 cap ss w1 hH hgl (by omega)
         rw [hlen] at hsort
         replace hsort := Lib.hid hsort
         replace hH := Lib.hid hH
         replace hown := Lib.hid hown)
      | (go_at_call 120; refine (hsort.out).mono ?_; rintro e w2 ⟨rfl, nn, os, rfl⟩
         have hl2 : (ss.mergeSort fun x y => decide (x ≤ y)).length = n := by rw [List.length_mergeSort]; exact hlen
         have hH2 : Holds encStr (grow (putRow encStr (Sort.ahead w1 nn) g 0 (ss.mergeSort fun x y => decide (x ≤ y)).toArray) os) g 0 (ss.mergeSort fun x y => decide (x ≤ y)).toArray :=
           holds_grow encStr _ os g 0 _ (by simpa [putRow, mapBlock, Sort.ahead] using hgl) (holds_putRow encStr _ g 0 _ _ (holds_ahead encStr w1 nn g 0 _ hH.out) (by simp))
         have hcomp := Tryz.slices_Compact_string g 0 cap (ss.mergeSort fun x y => decide (x ≤ y)) _ hH2 (by omega) (by omega)
         rw [hl2] at hcomp
         replace hcomp := Lib.hid hcomp
         have hbel2 : Below w.heap.size w (grow (putRow encStr (Sort.ahead w1 nn) g 0 (ss.mergeSort fun x y => decide (x ≤ y)).toArray) os) := hbel.grown (grownBy_sorted _) hbel.size (fun j hj => by cases hj; exact hbg)
         clear hH2
         generalize grow (putRow encStr (Sort.ahead w1 nn) g 0 (ss.mergeSort fun x y => decide (x ≤ y)).toArray) os = w2 at *)
      | (go_at_call 121; refine (hcomp.out).mono ?_; rintro e w3 ⟨rfl, q, rfl⟩))
    go_ret
    exact ⟨_, _, _, rfl, by have h3 := Lib.compact_length_le (ss.mergeSort fun x y => decide (x ≤ y)); omega, hdup.out, Lib.below_putRow hbel2 hbg⟩

set_option maxRecDepth 100000 in
theorem rtwice_any (p : Option Addr) (n c : Nat) (T : List ByteArray) (w : World) (hS : Sl 1 strC w p n T) (hn : n ≤ 1000) :
    Calls Tryz.prog 56 #[.slice p n c] w fun e w' => e = .returned (.bool (dupB T)) ∧ Ext w w' := by
  have h1 := once_any p n c T w hS hn
  replace h1 := Lib.hid h1
  clear hS
  cases hd : dupB T
  all_goals
    go_enter Tryz.func56, Tryz.ntmps56
    go_wp2_with (go_at_call 88; (with_reducible refine Calls.mono h1.out ?_); rintro e w1 ⟨p1, m, c1, rfl, hm, hmn, hb1⟩; rw [hd] at hmn; simp at hmn)
    go_ret
    exact ⟨ret_bool (by simp <;> omega), hb1⟩
end Go.Proofs.YtfcoeikekbjgpaaGreatDoor

namespace Go.Proofs.YtfcoeikekbjgpaaGreatDoor
open Go

def mirS (wide : List Int) (x : StandV) : StandV := ⟨x.name, x.row, wide.getD x.row.toNat 0 - 1 - x.place⟩
section
variable {P : List PersonV} {wide high : List Int}
end
/-- Ordered by row, and by place in a row. -/
def ltV (a b : StandV) : Bool := decide (a.row < b.row) || (decide (a.row = b.row) && decide (a.place < b.place))
theorem ltV_cmp (a b : StandV) : ltV a b = decide (cmpV a b < 0) := by
  unfold ltV cmpV
  by_cases h1 : a.row < b.row
  · simp [h1]
  · by_cases h2 : b.row < a.row
    · have h3 : ¬ a.row = b.row := by omega
      simp [h1, h2, h3]
    · have h3 : a.row = b.row := by omega
      by_cases h4 : a.place < b.place
      · simp [h3, h4]
      · by_cases h5 : b.place < a.place <;> simp [h3, h4, h5]
theorem ltV_irrefl (a : StandV) : ltV a a = false := by unfold ltV; simp
theorem ltV_trans {a b c : StandV} (h1 : ltV a b = true) (h2 : ltV b c = true) : ltV a c = true := by
  unfold ltV at *
  simp at *
  omega
end Go.Proofs.YtfcoeikekbjgpaaGreatDoor

namespace Go.Proofs.YtfcoeikekbjgpaaGreatDoor
open Go

theorem cmp_lt {a b : StandV} : cmpV a b < 0 ↔ ltV a b = true := by rw [ltV_cmp]; simp
theorem rise_pair {S : List StandV} (h : ∀ i x y, S[i]? = some x → S[i + 1]? = some y → ltV x y = true) : S.Pairwise (fun a b => ltV a b = true) := by
  rw [List.pairwise_iff_getElem]
  have hstep : ∀ (d i : Nat) (x y : StandV), S[i]? = some x → S[i + 1 + d]? = some y → ltV x y = true := by
    intro d
    induction d with
    | zero => exact fun i x y hx hy => h i x y hx hy
    | succ d ih =>
      intro i x y hx hy
      have hl := (List.getElem?_eq_some_iff.1 hy).1
      have hz : S[i + 1 + d]? = some S[i + 1 + d] := List.getElem?_eq_getElem (by omega)
      exact ltV_trans (ih i x _ hx hz) (h (i + 1 + d) _ y hz (by rw [← hy]; congr 1))
  intro i j hi hj hij
  obtain ⟨d, rfl⟩ : ∃ d, j = i + 1 + d := ⟨j - (i + 1), by omega⟩
  exact hstep d i _ _ (List.getElem?_eq_getElem hi) (List.getElem?_eq_getElem hj)
/-- Right stands are in strict order. -/
theorem stands_sorted {P : List PersonV} {wide : List Int} {S : List StandV} (h : scanF S.length (chkSta P wide S) = 0) : S.Pairwise (fun a b => ltV a b = true) := by
  refine rise_pair fun i x y hx hy => ?_
  have h4 := scan_all h (i + 1) (List.getElem?_eq_some_iff.1 hy).1
  unfold chkSta at h4
  rw [atL_of hy] at h4
  cases k0 : hasP P y.name
  · rw [k0] at h4; simp at h4
  cases k1 : inB y.row 0 (wide.length - 1)
  · rw [k0, k1] at h4; simp at h4
  cases k2 : inB y.place 0 (wide.getD y.row.toNat 0 - 1)
  · rw [k0, k1, k2] at h4; simp at h4
  rw [k0, k1, k2, Nat.add_sub_cancel, atL_of hx] at h4
  rw [← cmp_lt]
  by_cases k3 : 0 ≤ cmpV x y
  · simp [k3] at h4
  · omega
/-- How many of those who are gone stood in front of a place, in its row. -/
def cntG (S : List StandV) (g : StandV → Bool) (x : StandV) : Nat := (S.filter fun z => g z && (decide (z.row = x.row) && decide (z.place < x.place))).length
def closeS (S : List StandV) (g : StandV → Bool) (x : StandV) : StandV := ⟨x.name, x.row, x.place - cntG S g x⟩
def closeL (S : List StandV) (g : StandV → Bool) : List StandV := (S.filter fun x => !g x).map (closeS S g)

end Go.Proofs.YtfcoeikekbjgpaaGreatDoor

namespace Go.Proofs.YtfcoeikekbjgpaaGreatDoor
open Go

def AtS (P : List PersonV) (wide : List Int) (x : StandV) : Prop := hasP P x.name = true ∧ (0 ≤ x.row ∧ x.row ≤ wide.length - 1) ∧ 0 ≤ x.place ∧ x.place ≤ wide.getD x.row.toNat 0 - 1
theorem standsF_right {P : List PersonV} {wide high : List Int} {S : List StandV} (h : standsF P wide high S = 0) : ostF P wide high = 0 ∧ S.length ≤ P.length ∧ (∀ x ∈ S, AtS P wide x) ∧ S.Pairwise (fun a b => ltV a b = true) ∧ (namesS S).Nodup := by
  have hnd := (standsF_ok h).2.2.2
  unfold standsF at h
  by_cases h0 : ostF P wide high = 0
  rotate_left
  · rw [if_neg h0] at h; exact absurd h h0
  rw [if_pos h0] at h
  unfold listF at h
  by_cases h2 : P.length < S.length
  · rw [if_pos h2] at h; cases h
  rw [if_neg h2] at h
  by_cases h3 : scanF S.length (chkSta P wide S) = 0
  rotate_left
  · rw [if_neg h3] at h; exact absurd h h3
  refine ⟨h0, by omega, fun x hx => ?_, stands_sorted h3, hnd⟩
  obtain ⟨i, hi, rfl⟩ := List.getElem_of_mem hx
  have h4 := scan_all h3 i hi
  unfold chkSta at h4
  rw [atL_of (List.getElem?_eq_getElem hi)] at h4
  cases k0 : hasP P S[i].name
  · rw [k0] at h4; simp at h4
  cases k1 : inB S[i].row 0 (wide.length - 1)
  · rw [k0, k1] at h4; simp at h4
  cases k2 : inB S[i].place 0 (wide.getD S[i].row.toNat 0 - 1)
  · rw [k0, k1, k2] at h4; simp at h4
  exact ⟨k0, inB_iff.1 k1, inB_iff.1 k2⟩
end Go.Proofs.YtfcoeikekbjgpaaGreatDoor

namespace Go.Proofs.YtfcoeikekbjgpaaGreatDoor
open Go

def inG (G : List ByteArray) (x : StandV) : Bool := G.any fun y => y.toList == x.name.toList
theorem inG_iff {G : List ByteArray} {x : StandV} : inG G x = true ↔ x.name ∈ G := by
  unfold inG
  rw [List.any_eq_true]
  exact ⟨fun ⟨y, hy, h⟩ => baL.1 h ▸ hy, fun h => ⟨_, h, baL.2 rfl⟩⟩
/-- How many of the first k are gone, row by row. -/
def cntK (S : List StandV) (g : StandV → Bool) (k : Nat) (r : Int) : Nat := ((S.take k).filter fun z => g z && decide (z.row = r)).length
def gapL (S : List StandV) (g : StandV → Bool) (n k : Nat) : List Int := (List.range n).map fun r : Nat => (cntK S g k (r : Int) : Int)
theorem gap_len (S : List StandV) (g : StandV → Bool) (n k : Nat) : (gapL S g n k).length = n := by simp [gapL]
theorem gap_zero (S : List StandV) (g : StandV → Bool) (n : Nat) : gapL S g n 0 = List.replicate n 0 := by
  unfold gapL cntK
  apply List.ext_getElem?
  intro i
  rw [List.getElem?_map]
  by_cases h : i < n
  · rw [List.getElem?_range h, List.getElem?_replicate, if_pos h]; simp
  · rw [List.getElem?_eq_none (by simpa using h), List.getElem?_replicate, if_neg h]; rfl
theorem gap_get {S : List StandV} {g : StandV → Bool} {n k r : Nat} (h : r < n) : (gapL S g n k)[r]? = some (cntK S g k r : Int) := by
  unfold gapL
  rw [List.getElem?_map, List.getElem?_range h]
  rfl
theorem cntK_succ {S : List StandV} {g : StandV → Bool} {k : Nat} {x : StandV} (hx : S[k]? = some x) (r : Int) : cntK S g (k + 1) r = cntK S g k r + (if g x && decide (x.row = r) then 1 else 0) := by
  unfold cntK
  rw [take_snocL hx, List.filter_append, List.length_append]
  congr 1
  cases h : (g x && decide (x.row = r)) <;> simp [h]
theorem gap_out {S : List StandV} {g : StandV → Bool} {n k : Nat} {x : StandV} (hx : S[k]? = some x) (hg : g x = false) : gapL S g n (k + 1) = gapL S g n k := by
  unfold gapL
  refine List.map_congr_left fun r _ => ?_
  rw [cntK_succ hx, hg]
  simp
theorem gap_in {S : List StandV} {g : StandV → Bool} {n k r : Nat} {x : StandV} (hx : S[k]? = some x) (hg : g x = true) (hr : x.row = (r : Int)) (hn : r < n) : gapL S g n (k + 1) = (gapL S g n k).set r ((cntK S g k r : Int) + 1) := by
  apply List.ext_getElem?
  intro i
  rw [List.getElem?_set]
  by_cases h : i < n
  · rw [gap_get h, cntK_succ hx, hg]
    by_cases e : r = i
    · subst e
      have hlen : r < (gapL S g n k).length := by rw [gap_len]; exact h
      simp [hr, hlen]
    · have e2 : ¬ x.row = (i : Int) := by omega
      rw [if_neg e, gap_get h]
      simp [e2]
  · have e : ¬ r = i := by omega
    rw [if_neg e, List.getElem?_eq_none (by rw [gap_len]; omega), List.getElem?_eq_none (by rw [gap_len]; omega)]
theorem cnt_is {S : List StandV} (hs : S.Pairwise (fun a b => ltV a b = true)) (g : StandV → Bool) {k : Nat} {x : StandV} (hx : S[k]? = some x) : cntG S g x = cntK S g k x.row := by
  obtain ⟨hk, e⟩ := List.getElem?_eq_some_iff.1 hx
  unfold cntG cntK
  have h1 : S.filter (fun z => g z && (decide (z.row = x.row) && decide (z.place < x.place))) = ((S.take k).filter fun z => g z && (decide (z.row = x.row) && decide (z.place < x.place))) ++ ((S.drop k).filter fun z => g z && (decide (z.row = x.row) && decide (z.place < x.place))) := by
    rw [← List.filter_append, List.take_append_drop]
  have h2 : (S.drop k).filter (fun z => g z && (decide (z.row = x.row) && decide (z.place < x.place))) = [] := by
    rw [List.filter_eq_nil_iff]
    intro z hz hb
    simp at hb
    obtain ⟨i, hi, ez⟩ := List.getElem_of_mem hz
    rw [List.getElem_drop] at ez
    rw [List.length_drop] at hi
    rcases Nat.eq_zero_or_pos i with h0 | h0
    · subst h0
      have exz : x = z := e.symm.trans ez
      subst exz
      omega
    · have h3 := List.pairwise_iff_getElem.1 hs k (k + i) hk (by omega) (by omega)
      rw [e, ez] at h3
      unfold ltV at h3
      simp at h3
      omega
  rw [h1, h2, List.append_nil]
  congr 1
  refine List.filter_congr fun z hz => ?_
  obtain ⟨i, hi, ez⟩ := List.getElem_of_mem hz
  rw [List.length_take] at hi
  rw [List.getElem_take] at ez
  have h3 := List.pairwise_iff_getElem.1 hs i k (by omega) hk (by omega)
  rw [e, ez] at h3
  unfold ltV at h3
  simp at h3
  congr 1
  by_cases hr : z.row = x.row
  · have : z.place < x.place := by omega
    simp [hr, this]
  · simp [hr]
theorem gap_is {S : List StandV} (hs : S.Pairwise (fun a b => ltV a b = true)) (g : StandV → Bool) {n k r : Nat} {x : StandV} (hx : S[k]? = some x) (hr : x.row = (r : Int)) (hn : r < n) : (gapL S g n k)[r]? = some (cntG S g x : Int) := by
  rw [gap_get hn, cnt_is hs g hx, hr]
def closeT (S : List StandV) (g : StandV → Bool) (k : Nat) : List StandV := ((S.take k).filter fun x => !g x).map (closeS S g)
theorem closeT_all (S : List StandV) (g : StandV → Bool) : closeT S g S.length = closeL S g := by unfold closeT closeL; rw [List.take_length]
theorem closeT_out {S : List StandV} {g : StandV → Bool} {k : Nat} {x : StandV} (hx : S[k]? = some x) (hg : g x = false) : closeT S g (k + 1) = closeT S g k ++ [closeS S g x] := by
  unfold closeT
  rw [take_snocL hx, List.filter_append, List.map_append]
  simp [hg]
theorem closeT_in {S : List StandV} {g : StandV → Bool} {k : Nat} {x : StandV} (hx : S[k]? = some x) (hg : g x = true) : closeT S g (k + 1) = closeT S g k := by
  unfold closeT
  rw [take_snocL hx, List.filter_append, List.map_append]
  simp [hg]
theorem closeT_len (S : List StandV) (g : StandV → Bool) (k : Nat) : (closeT S g k).length ≤ k := by
  unfold closeT
  rw [List.length_map]
  exact Nat.le_trans (List.length_filter_le _ _) (by rw [List.length_take]; omega)
end Go.Proofs.YtfcoeikekbjgpaaGreatDoor
