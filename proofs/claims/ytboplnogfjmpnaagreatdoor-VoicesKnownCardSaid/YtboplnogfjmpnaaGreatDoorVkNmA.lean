/- Names sorted, and each once: plain mathematics, and the walks of slices.Sort and of the document's 'once'. Conditions: sizes. -/
import Derived.Test.YtboplnogfjmpnaaGreatDoorVkJ5
import Derived.Test.YtboplnogfjmpnaaGreatDoorVkShelf
import Derived.Sort.OwnSorted
import Derived.Sort.Grow
import Derived.Lib.OwnBridge
import Derived.Lib.RowBridge
set_option linter.unusedSimpArgs false
set_option linter.unusedVariables false
namespace Go.Proofs.YtboplnogfjmpnaaGreatDoor
open Go Go.RowKit Go.Sort

theorem le_tr {a b c : List UInt8} (h : a ≤ b) (k : b ≤ c) : a ≤ c := List.le_trans h k
theorem le_as {a b : List UInt8} (h : a ≤ b) (k : b ≤ a) : a = b := List.le_antisymm h k
theorem le_to (a b : List UInt8) : a ≤ b ∨ b ≤ a := List.le_total a b
theorem srt (ss : List (List UInt8)) : (ss.mergeSort fun x y => decide (x ≤ y)).Pairwise (· ≤ ·) := by
  have := List.pairwise_mergeSort (le := fun x y : List UInt8 => decide (x ≤ y)) (fun a b c h k => by simp at *; exact le_tr h k) (fun a b => by simp; exact le_to a b) ss
  exact this.imp (by simp)
theorem enc_str (x : ByteArray) : encStr x.data.toList = .string x := by cases x; rfl
theorem map_enc (T : List ByteArray) : (T.map fun x => x.data.toList).map encStr = T.map Value.string := by
  rw [List.map_map]
  exact List.map_congr_left fun x _ => enc_str x
theorem nodup_bytes (T : List ByteArray) : (T.map fun x => x.data.toList).Nodup ↔ T.Nodup := by
  constructor
  · intro h
    rw [List.nodup_iff_pairwise_ne, List.pairwise_map] at h
    rw [List.nodup_iff_pairwise_ne]
    exact h.imp fun hne e => hne (by rw [e])
  · intro h
    rw [List.nodup_iff_pairwise_ne] at h ⊢
    rw [List.pairwise_map]
    exact h.imp fun hne e => hne (by rename_i a b; cases a; cases b; simp only at e; congr 1; exact Array.toList_inj.1 e)

theorem le_uniq : ∀ {a b : List (List UInt8)}, a.Pairwise (· ≤ ·) → b.Pairwise (· ≤ ·) → a.Perm b → a = b
  | [], b, _, _, h => h.nil_eq
  | x :: a, [], _, _, h => by have := h.length_eq; simp at this
  | x :: a, y :: b, h1, h2, h => by
    obtain ⟨p1, q1⟩ := List.pairwise_cons.1 h1
    obtain ⟨p2, q2⟩ := List.pairwise_cons.1 h2
    have hxy : x ≤ y := by
      rcases List.mem_cons.1 (h.symm.subset List.mem_cons_self) with e | e
      · rw [e]; exact List.le_refl _
      · exact p1 y e
    have hyx : y ≤ x := by
      rcases List.mem_cons.1 (h.subset List.mem_cons_self) with e | e
      · rw [e]; exact List.le_refl _
      · exact p2 x e
    have e := le_as hxy hyx
    subst e
    rw [le_uniq q1 q2 h.cons_inv]
def srtB (T : List ByteArray) : List (List UInt8) := (T.map fun x => x.data.toList).mergeSort fun x y => decide (x ≤ y)
def srtN (T : List ByteArray) : List ByteArray := (srtB T).map fun l => ⟨l.toArray⟩
theorem srtB_len (T : List ByteArray) : (srtB T).length = T.length := by unfold srtB; rw [List.length_mergeSort, List.length_map]
theorem flat_enc (T : List ByteArray) : T.flatMap strC = (T.map fun x => x.data.toList).map encStr := by
  rw [map_enc]
  induction T with
  | nil => rfl
  | cons x l ih => rw [List.flatMap_cons, ih]; rfl
theorem srtN_cells (T : List ByteArray) : (srtN T).flatMap strC = (srtB T).map encStr := by
  rw [flat_enc]
  unfold srtN
  have e : ((srtB T).map fun l => (⟨l.toArray⟩ : ByteArray)).map (fun x : ByteArray => x.data.toList) = srtB T := by
    rw [List.map_map]
    have : ((fun x : ByteArray => x.data.toList) ∘ fun l : List UInt8 => (⟨l.toArray⟩ : ByteArray)) = id := funext fun l => by simp
    rw [this, List.map_id]
  rw [e]
theorem sortN_any {w : World} {base g n cap : Nat} {T : List ByteArray} (h : w.ownsRow base 9 1 (.slice (some ⟨g, 0, none⟩) n cap) n (T.flatMap strC)) (hn : T.length = n) (hn1 : n ≤ 1000) :
    Calls Tryz.prog 81 #[.slice (some ⟨g, 0, none⟩) n cap] w fun e w' => e = .returned (.tuple #[]) ∧ w'.ownsRow base 9 1 (.slice (some ⟨g, 0, none⟩) n cap) n ((srtN T).flatMap strC) ∧ ∀ a : World, Ext a w → a.heap.size ≤ g → Ext a w' := by
  rw [flat_enc] at h
  have h0 := h
  obtain ⟨g', cap', he, hbg, hgl, hncap, hcm, hlen, hH⟩ := Lib.holds_of_ownsRow h (by intro e; cases e)
  cases he
  have hl : (T.map fun x => x.data.toList).length = n := by rw [List.length_map, hn]
  have hs := Tryz.slices_Sort_string g 0 cap (T.map fun x => x.data.toList) w hH hgl (by omega)
  rw [hl] at hs
  refine hs.mono fun e w' ⟨he, nn, os, hw⟩ => ⟨he, ?_, fun a ha hg => ?_⟩
  · rw [hw, srtN_cells]
    rcases h0.2 with ⟨h1, -⟩ | ⟨g', cap', cur, h1, hb, hgc, hnc, hcm2, hcs, htk⟩
    · cases h1
    cases h1
    have h9 := ownsRow_sorted (w := w) (n := nn) (os := os) (base := base) (g := g) (cap := cap) (cur := cur) (ss := T.map fun x => x.data.toList) (ts := srtB T) (by rw [srtB_len, List.length_map]) hb hgc (by omega) hcm2 hcs
    rw [hl] at h9
    exact h9
  · rw [hw]
    exact ha.grown (grownBy_sorted _) (fun j e => by cases e; exact hg)
theorem strC_map (T : List ByteArray) : T.map Value.string = T.flatMap strC := by rw [flat_enc, map_enc]

theorem nmInfo : (Tryz.prog.info? 9).map (fun i => (i.zero, i.size, i.bytes)) = some (some (.string ⟨#[]⟩), 1, 16) := by kernel_rfl
/-! ### compaction of a sorted list -/
theorem compact_mem (zs : List (List UInt8)) : ∀ m, m ≤ zs.length → ∀ x, x ∈ Lib.compactUpTo zs.toArray m ↔ x ∈ zs.take m
  | 0, _, x => by simp [Lib.compactUpTo]
  | m + 1, hm, x => by
    have ih := compact_mem zs m (by omega)
    have hz : zs[m]? = some zs[m] := List.getElem?_eq_getElem (by omega)
    have e1 : zs.toArray[m]! = zs[m] := by simp [getElem!_pos, show m < zs.length by omega]
    rw [Lib.compactUpTo_succ, List.take_add_one, hz, Option.toList_some, List.mem_append, List.mem_append, ih x, e1]
    cases hk : Lib.keeps zs.toArray m
    · simp only [Bool.false_eq_true, if_false, List.not_mem_nil, or_false]
      constructor
      · exact .inl
      · rintro (h | h)
        · exact h
        · rw [List.mem_singleton] at h
          unfold Lib.keeps at hk
          simp only [decide_eq_false_iff_not, not_or, Decidable.not_not] at hk
          obtain ⟨h0, h1⟩ := hk
          have e2 : zs.toArray[m - 1]! = zs[m - 1] := by simp [getElem!_pos, show m - 1 < zs.length by omega]
          rw [e1, e2] at h1
          rw [h, h1]
          exact List.mem_take_iff_getElem.2 ⟨m - 1, by omega, rfl⟩
    · simp
theorem compact_mem_iff (zs : List (List UInt8)) (x : List UInt8) : x ∈ Lib.compact zs ↔ x ∈ zs := by
  have := compact_mem zs zs.length (Nat.le_refl _) x
  rwa [List.take_length] at this
theorem compact_strict (zs : List (List UInt8)) (hs : zs.Pairwise (· ≤ ·)) : (Lib.compact zs).Pairwise (fun a b => a ≤ b ∧ a ≠ b) := by
  unfold Lib.compact Lib.compactUpTo
  rw [List.pairwise_map]
  have h1 : ((List.range zs.length).filter (Lib.keeps zs.toArray)).Pairwise (· < ·) := List.pairwise_lt_range.filter _
  refine h1.imp_of_mem fun {i j} hi hj hij => ?_
  obtain ⟨hi1, hi2⟩ := List.mem_filter.1 hi
  obtain ⟨hj1, hj2⟩ := List.mem_filter.1 hj
  rw [List.mem_range] at hi1 hj1
  have e1 : zs.toArray[i]! = zs[i] := by simp [getElem!_pos, hi1]
  have e2 : zs.toArray[j]! = zs[j] := by simp [getElem!_pos, hj1]
  rw [List.pairwise_iff_getElem] at hs
  rw [e1, e2]
  refine ⟨hs i j hi1 hj1 hij, fun heq => ?_⟩
  unfold Lib.keeps at hj2
  simp only [decide_eq_true_eq] at hj2
  have e3 : zs.toArray[j - 1]! = zs[j - 1] := by simp [getElem!_pos, show j - 1 < zs.length by omega]
  rw [e2, e3] at hj2
  rcases hj2 with h | h
  · omega
  · apply h
    have h5 : zs[j - 1] ≤ zs[j] := hs (j - 1) j (by omega) hj1 (by omega)
    have h6 : zs[i] ≤ zs[j - 1] := by
      rcases Nat.lt_or_ge i (j - 1) with h7 | h7
      · exact hs i (j - 1) hi1 (by omega) h7
      · obtain rfl : i = j - 1 := by omega
        exact List.le_refl _
    rw [heq] at h6
    exact le_as h6 h5
def unB (l : List UInt8) : ByteArray := ⟨l.toArray⟩
theorem unB_data (l : List UInt8) : (unB l).data.toList = l := by simp [unB]
theorem unB_of (x : ByteArray) : unB x.data.toList = x := by cases x; rfl
theorem unB_inj {a b : List UInt8} (h : unB a = unB b) : a = b := by rw [← unB_data a, h, unB_data]
/-- Names, sorted and each once. -/
def onceL (T : List ByteArray) : List ByteArray := (Lib.compact (srtB T)).map unB
theorem onceL_mem {T : List ByteArray} {x : ByteArray} : x ∈ onceL T ↔ x ∈ T := by
  unfold onceL
  rw [List.mem_map]
  constructor
  · rintro ⟨l, hl, rfl⟩
    rw [compact_mem_iff] at hl
    have := (List.mergeSort_perm _ _).subset hl
    obtain ⟨y, hy, e⟩ := List.mem_map.1 this
    rw [← e, unB_of]
    exact hy
  · intro h
    exact ⟨x.data.toList, (compact_mem_iff _ _).2 ((List.mergeSort_perm _ _).symm.subset (List.mem_map.2 ⟨x, h, rfl⟩)), unB_of x⟩
/-- Names that rise. -/
def RiseN (T : List ByteArray) : Prop := T.Pairwise fun a b => a.data.toList ≤ b.data.toList ∧ a ≠ b
theorem onceL_rise (T : List ByteArray) : RiseN (onceL T) := by
  unfold RiseN onceL
  rw [List.pairwise_map]
  refine (compact_strict _ (srt _)).imp fun {a b} h => ⟨by rw [unB_data, unB_data]; exact h.1, fun e => h.2 (unB_inj e)⟩
theorem RiseN.nodup {T : List ByteArray} (h : RiseN T) : T.Nodup := by
  rw [List.nodup_iff_pairwise_ne]
  exact h.imp fun h => h.2
theorem rise_uniq {a b : List ByteArray} (ha : RiseN a) (hb : RiseN b) (h : ∀ x, x ∈ a ↔ x ∈ b) : a = b := by
  have hp : a.Perm b := (List.perm_ext_iff_of_nodup ha.nodup hb.nodup).2 h
  have e : (a.map fun x => x.data.toList) = b.map fun x => x.data.toList := le_uniq (List.pairwise_map.2 (ha.imp fun h => h.1)) (List.pairwise_map.2 (hb.imp fun h => h.1)) (hp.map _)
  have inj : ∀ x y : ByteArray, x.data.toList = y.data.toList → x = y := fun x y e => by rw [← unB_of x, e, unB_of]
  have : a.map (fun x => unB x.data.toList) = b.map fun x => unB x.data.toList := by
    have h2 := congrArg (List.map unB) e
    rwa [List.map_map, List.map_map] at h2
  have hid : (fun x : ByteArray => unB x.data.toList) = id := funext unB_of
  rwa [hid, List.map_id, List.map_id] at this
theorem onceL_len_le (T : List ByteArray) : (onceL T).length ≤ T.length := by
  unfold onceL
  rw [List.length_map, ← srtB_len T]
  exact Lib.compact_length_le _
theorem onceL_cells (T : List ByteArray) : (onceL T).flatMap strC = (Lib.compact (srtB T)).map encStr := by
  have : ((fun x : ByteArray => x.data.toList) ∘ unB) = id := funext unB_data
  have e : (onceL T).map (fun x : ByteArray => x.data.toList) = Lib.compact (srtB T) := by
    unfold onceL
    rw [List.map_map, this, List.map_id]
  rw [flat_enc, e]

set_option maxRecDepth 100000 in
set_option maxHeartbeats 3200000 in
theorem onceG_any (p : Option Addr) (n c : Nat) (T : List ByteArray) (w : World) (hS : Sl 1 strC w p n T) (hn : n ≤ 1000) :
    Calls Tryz.prog 50 #[.slice p n c] w fun e w' => ∃ (p' : Option Addr) (c' : Nat), e = .returned (.slice p' (onceL T).length c') ∧ w'.ownsRow w.heap.size 9 1 (.slice p' (onceL T).length c') (onceL T).length ((onceL T).flatMap strC) ∧ Ext w w' := by
  have hl := hS.1
  by_cases hn0 : n = 0
  · subst hn0
    obtain rfl : T = [] := List.eq_nil_of_length_eq_zero hl
    have hon : onceL [] = [] := List.eq_nil_of_length_eq_zero (by have := onceL_len_le []; simpa using this)
    rw [hon]
    clear hS
    cases p with
    | none =>
      have h1 := Tryz.slices_Clone_string_nil 0 c w
      replace h1 := Lib.hid h1
      go_enter Tryz.func50, Tryz.ntmps50
      go_wp2_with (first
        | (go_at_call 80; refine (h1.out).mono ?_; rintro e w1 ⟨rfl, rfl⟩)
        | (go_at_call 81; refine (Tryz.slices_Sort_string_none _ _ _).mono ?_; rintro e w2 ⟨rfl, rfl⟩)
        | (go_at_call 82; refine (Tryz.slices_Compact_string_empty _ _ _).mono ?_; rintro e w3 ⟨rfl, rfl⟩))
      go_ret
      exact ⟨none, 0, rfl, World.ownsRow_nil _ _ _ _, Ext.refl _⟩
    | some a =>
      have h1 := Tryz.slices_Clone_string_zero a c w
      replace h1 := Lib.hid h1
      go_enter Tryz.func50, Tryz.ntmps50
      go_wp2_with (first
        | (go_at_call 80; refine (h1.out).mono ?_; rintro e w1 ⟨v1, rfl, hown, hnn, hbel⟩; obtain ⟨p1, c1, rfl, hS1⟩ := slc_of_own (xs := ([] : List ByteArray)) (enc := strC) (fun _ => rfl) hown (by decide) (by decide))
        | (go_at_call 81; refine (Tryz.slices_Sort_string_none _ _ _).mono ?_; rintro e w2 ⟨rfl, rfl⟩)
        | (go_at_call 82; refine (Tryz.slices_Compact_string_empty _ _ _).mono ?_; rintro e w3 ⟨rfl, rfl⟩))
      go_ret
      exact ⟨p1, c1, rfl, hown, hbel⟩
  · obtain ⟨b, off, rfl, hb, hE⟩ := hS.2.2 hn0
    have h1 := Tryz.slices_Clone_string b off n c T w (by omega) (by omega) (fun j hj => by
      have hx : T[j]? = some T[j] := List.getElem?_eq_getElem hj
      rw [hE.str hx, List.getD_eq_getElem?_getD, hx]
      rfl)
    rw [List.take_of_length_le (by omega), strC_map] at h1
    have hcl := Lib.compact_length_le (srtB T)
    have hbl := srtB_len T
    have hol : (onceL T).length = (Lib.compact (srtB T)).length := by unfold onceL; rw [List.length_map]
    have hpos : 0 < n := by omega
    replace h1 := Lib.hid h1
    replace hol := Lib.hid hol
    clear hS hE
    go_enter Tryz.func50, Tryz.ntmps50
    go_wp2_with (first
      | (go_at_call 80; refine (h1.out).mono ?_; rintro e w1 ⟨v1, rfl, hown, hnn, hbel⟩
         obtain ⟨g, cap, rfl, hbg, -⟩ := hown.form hpos
         have hsort := sortN_any hown hl hn
         replace hsort := Lib.hid hsort)
      | (go_at_call 81; refine (hsort.out).mono ?_; rintro e w2 ⟨rfl, hown2, hext2⟩
         have hbel2 : Ext w w2 := hext2 w hbel hbg
         rw [srtN_cells] at hown2
         obtain ⟨g', cap', heq, -, hgl, hncap, hcm, hlen, hH2⟩ := Lib.holds_of_ownsRow hown2 hnn
         cases heq
         have hcomp := Tryz.slices_Compact_string g 0 cap (srtB T) w2 hH2 (by omega) (by omega)
         rw [hlen] at hcomp
         replace hcomp := Lib.hid hcomp
         replace hown2 := Lib.hid hown2)
      | (go_at_call 82; refine (hcomp.out).mono ?_; rintro e w3 ⟨rfl, q, rfl⟩))
    go_ret
    have ho3 := Lib.ownsRow_putRow (q := q) (k := (Lib.compact (srtB T)).length) (ys := Lib.compact (srtB T) ++ List.replicate (n - (Lib.compact (srtB T)).length) []) hown2.out (by rw [List.length_append, List.length_replicate]; omega) (by omega)
    rw [List.take_left] at ho3
    refine ⟨some ⟨g, 0, none⟩, cap, by rw [hol.out]; rfl, ?_, Lib.below_putRow hbel2 hbg⟩
    rw [hol.out, onceL_cells]
    exact ho3
end Go.Proofs.YtboplnogfjmpnaaGreatDoor
