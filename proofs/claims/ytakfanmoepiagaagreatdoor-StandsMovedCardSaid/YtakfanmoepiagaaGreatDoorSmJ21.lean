/- Whether a string is there twice, by the document's text. Conditions: sizes. Stands the other way round: plain mathematics. Conditions: as each theorem says. Stands with gaps closed: plain mathematics. Conditions: as each theorem says. -/
import Derived.Test.YtakfanmoepiagaaGreatDoorSmJ20
import Derived.Test.YtakfanmoepiagaaGreatDoorSmShelf
import Derived.Sort.OwnSorted
import Derived.Sort.Grow
import Derived.Lib.OwnBridge
import Derived.Lib.RowBridge
set_option linter.unusedSimpArgs false
set_option linter.unusedVariables false
namespace Go.Proofs.YtakfanmoepiagaaGreatDoor
open Go Go.RowKit Go.Sort

theorem le_tr {a b c : List UInt8} (h : a ≤ b) (k : b ≤ c) : a ≤ c := List.le_trans h k
theorem le_as {a b : List UInt8} (h : a ≤ b) (k : b ≤ a) : a = b := List.le_antisymm h k
theorem le_to (a b : List UInt8) : a ≤ b ∨ b ≤ a := List.le_total a b
theorem srt (ss : List (List UInt8)) : (ss.mergeSort fun x y => decide (x ≤ y)).Pairwise (· ≤ ·) := by
  have := List.pairwise_mergeSort (le := fun x y : List UInt8 => decide (x ≤ y)) (fun a b c h k => by simp at *; exact le_tr h k) (fun a b => by simp; exact le_to a b) ss
  exact this.imp (by simp)
theorem compact_len_lt (zs : List (List UInt8)) (hs : zs.Pairwise (· ≤ ·)) : (Lib.compact zs).length = zs.length ↔ zs.Nodup := by
  unfold Lib.compact Lib.compactUpTo
  rw [List.length_map]
  have e : ((List.range zs.length).filter (Lib.keeps zs.toArray)).length = zs.length ↔ ∀ j, j < zs.length → Lib.keeps zs.toArray j = true := by
    have := List.length_filter_eq_length_iff (p := Lib.keeps zs.toArray) (l := List.range zs.length)
    rw [List.length_range] at this
    rw [this]
    simp
  rw [e]
  constructor
  · intro h
    rw [List.nodup_iff_pairwise_ne, List.pairwise_iff_getElem]
    intro i j hi hj hij heq
    have h1 : i + 1 < zs.length := by omega
    have hk := h (i + 1) h1
    unfold Lib.keeps at hk
    simp at hk
    rw [List.pairwise_iff_getElem] at hs
    have h2 : zs[i] ≤ zs[i + 1] := hs i (i + 1) hi h1 (by omega)
    have h3 : zs[i + 1] ≤ zs[i] := by
      rw [heq]
      rcases Nat.lt_or_ge (i + 1) j with h4 | h4
      · exact hs (i + 1) j h1 hj h4
      · obtain rfl : j = i + 1 := by omega
        exact List.le_refl _
    have h5 := le_as h2 h3
    apply hk
    simp [h1, hi, h5]
  · intro h j hj
    unfold Lib.keeps
    rcases Nat.eq_zero_or_pos j with h0 | h0
    · simp [h0]
    · simp only [decide_eq_true_eq]
      right
      intro heq
      rw [List.nodup_iff_pairwise_ne, List.pairwise_iff_getElem] at h
      have hj1 : j - 1 < zs.length := by omega
      refine h (j - 1) j hj1 hj (by omega) ?_
      have e1 : zs.toArray[j]! = zs[j] := by simp [getElem!_pos, hj]
      have e2 : zs.toArray[j - 1]! = zs[j - 1] := by simp [getElem!_pos, hj1]
      rw [e1, e2] at heq
      exact heq.symm
theorem compact_sorted (ss : List (List UInt8)) : (Lib.compact (ss.mergeSort fun x y => decide (x ≤ y))).length = ss.length ↔ ss.Nodup := by
  have h := compact_len_lt _ (srt ss)
  rw [List.length_mergeSort] at h
  rw [h]
  exact (List.mergeSort_perm ss _).nodup_iff

theorem enc_str (x : ByteArray) : encStr x.data.toList = .string x := by cases x; rfl
theorem map_enc (T : List ByteArray) : (T.map fun x => x.data.toList).map encStr = T.map Value.string := by
  rw [List.map_map]
  exact List.map_congr_left fun x _ => enc_str x
theorem nodup_bytes (T : List ByteArray) : (T.map fun x => x.data.toList).Nodup ↔ T.Nodup := by
  constructor
  · intro h
    rw [List.nodup_iff_pairwise_ne, List.pairwise_map] at h
    rw [List.nodup_iff_pairwise_ne]
    exact h.imp fun hne e => hne (by rw [e])
  · intro h
    rw [List.nodup_iff_pairwise_ne] at h ⊢
    rw [List.pairwise_map]
    exact h.imp fun hne e => hne (by rename_i a b; cases a; cases b; simp only at e; congr 1; exact Array.toList_inj.1 e)

set_option maxRecDepth 100000 in
set_option maxHeartbeats 3200000 in
theorem once_any (p : Option Addr) (n c : Nat) (T : List ByteArray) (w : World) (hS : Sl 1 strC w p n T) (hn : n ≤ 1000) :
    Calls Tryz.prog 81 #[.slice p n c] w fun e w' => ∃ (p' : Option Addr) (m c' : Nat), e = .returned (.slice p' m c') ∧ m ≤ n ∧ (m < n ↔ dupB T = true) ∧ Ext w w' := by
  have hl := hS.1
  by_cases hn0 : n = 0
  · subst hn0
    obtain rfl : T = [] := List.eq_nil_of_length_eq_zero hl
    clear hS
    cases p with
    | none =>
      have h1 := Tryz.slices_Clone_string_nil 0 c w
      replace h1 := Lib.hid h1
      go_enter Tryz.func81, Tryz.ntmps81
      go_wp2_with (first
        | (go_at_call 119; refine (h1.out).mono ?_; rintro e w1 ⟨rfl, rfl⟩)
        | (go_at_call 79; refine (Tryz.slices_Sort_string_none _ _ _).mono ?_; rintro e w2 ⟨rfl, rfl⟩)
        | (go_at_call 120; refine (Tryz.slices_Compact_string_empty _ _ _).mono ?_; rintro e w3 ⟨rfl, rfl⟩))
      go_ret
      exact ⟨none, 0, 0, rfl, Nat.le_refl _, by simp [dupB], Ext.refl _⟩
    | some a =>
      have h1 := Tryz.slices_Clone_string_zero a c w
      replace h1 := Lib.hid h1
      go_enter Tryz.func81, Tryz.ntmps81
      go_wp2_with (first
        | (go_at_call 119; refine (h1.out).mono ?_; rintro e w1 ⟨v1, rfl, hown, hnn, hbel⟩; obtain ⟨p1, c1, rfl, -⟩ := slc_of_own (xs := ([] : List ByteArray)) (enc := strC) (fun _ => rfl) hown (by decide) (by decide))
        | (go_at_call 79; refine (Tryz.slices_Sort_string_none _ _ _).mono ?_; rintro e w2 ⟨rfl, rfl⟩)
        | (go_at_call 120; refine (Tryz.slices_Compact_string_empty _ _ _).mono ?_; rintro e w3 ⟨rfl, rfl⟩))
      go_ret
      exact ⟨p1, 0, c1, rfl, Nat.le_refl _, by simp [dupB], hbel⟩
  · obtain ⟨b, off, rfl, hb, hE⟩ := hS.2.2 hn0
    have h1 := Tryz.slices_Clone_string b off n c T w (by omega) (by omega) (fun j hj => by
      have hx : T[j]? = some T[j] := List.getElem?_eq_getElem hj
      rw [hE.str hx, List.getD_eq_getElem?_getD, hx]
      rfl)
    rw [List.take_of_length_le (by omega), ← map_enc] at h1
    have hdup : (Lib.compact ((T.map fun x => x.data.toList).mergeSort fun x y => decide (x ≤ y))).length < n ↔ dupB T = true := by
      have h2 := compact_sorted (T.map fun x => x.data.toList)
      rw [List.length_map, hl, nodup_bytes] at h2
      have h3 := Lib.compact_length_le ((T.map fun x => x.data.toList).mergeSort fun x y => decide (x ≤ y))
      rw [List.length_mergeSort, List.length_map, hl] at h3
      rw [dupB_iff, ← h2]
      omega
    have hls : (T.map fun x => x.data.toList).length = n := by rw [List.length_map, hl]
    generalize (T.map fun x => x.data.toList) = ss at *
    replace h1 := Lib.hid h1
    replace hdup := Lib.hid hdup
    clear hS hE
    go_enter Tryz.func81, Tryz.ntmps81
    go_wp2_with (first
      | (go_at_call 119; refine (h1.out).mono ?_; rintro e w1 ⟨v1, rfl, hown, hnn, hbel⟩
         obtain ⟨g, cap, rfl, hbg, hgl, hncap, hcm, hlen, hH⟩ := Lib.holds_of_ownsRow hown hnn
         have hsort := Tryz.slices_Sort_string g 0 cap ss w1 hH hgl (by omega)
         rw [hlen] at hsort
         replace hsort := Lib.hid hsort
         replace hH := Lib.hid hH
         replace hown := Lib.hid hown)
      | (go_at_call 79; refine (hsort.out).mono ?_; rintro e w2 ⟨rfl, nn, os, rfl⟩
         have hl2 : (ss.mergeSort fun x y => decide (x ≤ y)).length = n := by rw [List.length_mergeSort]; exact hlen
         have hH2 : Holds encStr (grow (putRow encStr (Sort.ahead w1 nn) g 0 (ss.mergeSort fun x y => decide (x ≤ y)).toArray) os) g 0 (ss.mergeSort fun x y => decide (x ≤ y)).toArray :=
           holds_grow encStr _ os g 0 _ (by simpa [putRow, mapBlock, Sort.ahead] using hgl) (holds_putRow encStr _ g 0 _ _ (holds_ahead encStr w1 nn g 0 _ hH.out) (by simp))
         have hcomp := Tryz.slices_Compact_string g 0 cap (ss.mergeSort fun x y => decide (x ≤ y)) _ hH2 (by omega) (by omega)
         rw [hl2] at hcomp
         replace hcomp := Lib.hid hcomp
         have hbel2 : Below w.heap.size w (grow (putRow encStr (Sort.ahead w1 nn) g 0 (ss.mergeSort fun x y => decide (x ≤ y)).toArray) os) := hbel.grown (grownBy_sorted _) hbel.size (fun j hj => by cases hj; exact hbg)
         clear hH2
         generalize grow (putRow encStr (Sort.ahead w1 nn) g 0 (ss.mergeSort fun x y => decide (x ≤ y)).toArray) os = w2 at *)
      | (go_at_call 120; refine (hcomp.out).mono ?_; rintro e w3 ⟨rfl, q, rfl⟩))
    go_ret
    exact ⟨_, _, _, rfl, by have h3 := Lib.compact_length_le (ss.mergeSort fun x y => decide (x ≤ y)); omega, hdup.out, Lib.below_putRow hbel2 hbg⟩

set_option maxRecDepth 100000 in
theorem rtwice_any (p : Option Addr) (n c : Nat) (T : List ByteArray) (w : World) (hS : Sl 1 strC w p n T) (hn : n ≤ 1000) :
    Calls Tryz.prog 80 #[.slice p n c] w fun e w' => e = .returned (.bool (dupB T)) ∧ Ext w w' := by
  have h1 := once_any p n c T w hS hn
  replace h1 := Lib.hid h1
  clear hS
  cases hd : dupB T
  all_goals
    go_enter Tryz.func80, Tryz.ntmps80
    go_wp2_with (go_at_call 81; (with_reducible refine Calls.mono h1.out ?_); rintro e w1 ⟨p1, m, c1, rfl, hm, hmn, hb1⟩; rw [hd] at hmn; simp at hmn)
    go_ret
    exact ⟨ret_bool (by simp <;> omega), hb1⟩
end Go.Proofs.YtakfanmoepiagaaGreatDoor

namespace Go.Proofs.YtakfanmoepiagaaGreatDoor
open Go

def mirS (wide : List Int) (x : StandV) : StandV := ⟨x.name, x.row, wide.getD x.row.toNat 0 - 1 - x.place⟩
section
variable {P : List PersonV} {wide high : List Int}
end
/-- Ordered by row, and by place in a row. -/
def ltV (a b : StandV) : Bool := decide (a.row < b.row) || (decide (a.row = b.row) && decide (a.place < b.place))
theorem ltV_cmp (a b : StandV) : ltV a b = decide (cmpV a b < 0) := by
  unfold ltV cmpV
  by_cases h1 : a.row < b.row
  · simp [h1]
  · by_cases h2 : b.row < a.row
    · have h3 : ¬ a.row = b.row := by omega
      simp [h1, h2, h3]
    · have h3 : a.row = b.row := by omega
      by_cases h4 : a.place < b.place
      · simp [h3, h4]
      · by_cases h5 : b.place < a.place <;> simp [h3, h4, h5]
theorem ltV_irrefl (a : StandV) : ltV a a = false := by unfold ltV; simp
theorem ltV_trans {a b c : StandV} (h1 : ltV a b = true) (h2 : ltV b c = true) : ltV a c = true := by
  unfold ltV at *
  simp at *
  omega
/-- Two lists in strict order that hold the same are the same. -/
theorem sorted_same : ∀ {S T : List StandV}, S.Pairwise (fun a b => ltV a b = true) → T.Pairwise (fun a b => ltV a b = true) → S.Perm T → S = T
  | [], T, _, _, h => h.nil_eq
  | a :: S, [], _, _, h => by have := h.length_eq; simp at this
  | a :: S, b :: T, h1, h2, h => by
    have hab : a = b := by
      have ha : a ∈ b :: T := h.subset List.mem_cons_self
      have hb : b ∈ a :: S := h.symm.subset List.mem_cons_self
      rcases List.mem_cons.1 ha with e | e
      · exact e
      · rcases List.mem_cons.1 hb with e2 | e2
        · exact e2.symm
        · have k1 := (List.pairwise_cons.1 h2).1 a e
          have k2 := (List.pairwise_cons.1 h1).1 b e2
          have := ltV_trans k1 k2
          rw [ltV_irrefl] at this
          cases this
    subst hab
    rw [sorted_same (List.pairwise_cons.1 h1).2 (List.pairwise_cons.1 h2).2 h.cons_inv]
end Go.Proofs.YtakfanmoepiagaaGreatDoor

namespace Go.Proofs.YtakfanmoepiagaaGreatDoor
open Go

theorem cmp_lt {a b : StandV} : cmpV a b < 0 ↔ ltV a b = true := by rw [ltV_cmp]; simp
theorem rise_pair {S : List StandV} (h : ∀ i x y, S[i]? = some x → S[i + 1]? = some y → ltV x y = true) : S.Pairwise (fun a b => ltV a b = true) := by
  rw [List.pairwise_iff_getElem]
  have hstep : ∀ (d i : Nat) (x y : StandV), S[i]? = some x → S[i + 1 + d]? = some y → ltV x y = true := by
    intro d
    induction d with
    | zero => exact fun i x y hx hy => h i x y hx hy
    | succ d ih =>
      intro i x y hx hy
      have hl := (List.getElem?_eq_some_iff.1 hy).1
      have hz : S[i + 1 + d]? = some S[i + 1 + d] := List.getElem?_eq_getElem (by omega)
      exact ltV_trans (ih i x _ hx hz) (h (i + 1 + d) _ y hz (by rw [← hy]; congr 1))
  intro i j hi hj hij
  obtain ⟨d, rfl⟩ : ∃ d, j = i + 1 + d := ⟨j - (i + 1), by omega⟩
  exact hstep d i _ _ (List.getElem?_eq_getElem hi) (List.getElem?_eq_getElem hj)
/-- Right stands are in strict order. -/
theorem stands_sorted {P : List PersonV} {wide : List Int} {S : List StandV} (h : scanF S.length (chkSta P wide S) = 0) : S.Pairwise (fun a b => ltV a b = true) := by
  refine rise_pair fun i x y hx hy => ?_
  have h4 := scan_all h (i + 1) (List.getElem?_eq_some_iff.1 hy).1
  unfold chkSta at h4
  rw [atL_of hy] at h4
  cases k0 : hasP P y.name
  · rw [k0] at h4; simp at h4
  cases k1 : inB y.row 0 (wide.length - 1)
  · rw [k0, k1] at h4; simp at h4
  cases k2 : inB y.place 0 (wide.getD y.row.toNat 0 - 1)
  · rw [k0, k1, k2] at h4; simp at h4
  rw [k0, k1, k2, Nat.add_sub_cancel, atL_of hx] at h4
  rw [← cmp_lt]
  by_cases k3 : 0 ≤ cmpV x y
  · simp [k3] at h4
  · omega
/-- How many of those who are gone stood in front of a place, in its row. -/
def cntG (S : List StandV) (g : StandV → Bool) (x : StandV) : Nat := (S.filter fun z => g z && (decide (z.row = x.row) && decide (z.place < x.place))).length
def closeS (S : List StandV) (g : StandV → Bool) (x : StandV) : StandV := ⟨x.name, x.row, x.place - cntG S g x⟩
def closeL (S : List StandV) (g : StandV → Bool) : List StandV := (S.filter fun x => !g x).map (closeS S g)

end Go.Proofs.YtakfanmoepiagaaGreatDoor
