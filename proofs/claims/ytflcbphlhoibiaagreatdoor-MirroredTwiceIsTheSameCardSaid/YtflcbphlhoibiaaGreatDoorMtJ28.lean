/- Whether a string is there twice, by the document's text. Conditions: sizes. Gaps, row by row; with them closed the stands stay right: plain mathematics. Conditions: as each theorem says. -/
import Derived.Test.YtflcbphlhoibiaaGreatDoorMtJ26
import Derived.Test.YtflcbphlhoibiaaGreatDoorMtShelf
import Derived.Sort.OwnSorted
import Derived.Sort.Grow
import Derived.Lib.OwnBridge
import Derived.Lib.RowBridge
import Derived.Test.YtflcbphlhoibiaaGreatDoorMtJ27
set_option linter.unusedSimpArgs false
set_option linter.unusedVariables false
namespace Go.Proofs.YtflcbphlhoibiaaGreatDoor
open Go Go.RowKit Go.Sort

theorem le_tr {a b c : List UInt8} (h : a ≤ b) (k : b ≤ c) : a ≤ c := List.le_trans h k
theorem le_as {a b : List UInt8} (h : a ≤ b) (k : b ≤ a) : a = b := List.le_antisymm h k
theorem le_to (a b : List UInt8) : a ≤ b ∨ b ≤ a := List.le_total a b
theorem srt (ss : List (List UInt8)) : (ss.mergeSort fun x y => decide (x ≤ y)).Pairwise (· ≤ ·) := by
  have := List.pairwise_mergeSort (le := fun x y : List UInt8 => decide (x ≤ y)) (fun a b c h k => by simp at *; exact le_tr h k) (fun a b => by simp; exact le_to a b) ss
  exact this.imp (by simp)
theorem compact_len_lt (zs : List (List UInt8)) (hs : zs.Pairwise (· ≤ ·)) : (Lib.compact zs).length = zs.length ↔ zs.Nodup := by
  unfold Lib.compact Lib.compactUpTo
  rw [List.length_map]
  have e : ((List.range zs.length).filter (Lib.keeps zs.toArray)).length = zs.length ↔ ∀ j, j < zs.length → Lib.keeps zs.toArray j = true := by
    have := List.length_filter_eq_length_iff (p := Lib.keeps zs.toArray) (l := List.range zs.length)
    rw [List.length_range] at this
    rw [this]
    simp
  rw [e]
  constructor
  · intro h
    rw [List.nodup_iff_pairwise_ne, List.pairwise_iff_getElem]
    intro i j hi hj hij heq
    have h1 : i + 1 < zs.length := by omega
    have hk := h (i + 1) h1
    unfold Lib.keeps at hk
    simp at hk
    rw [List.pairwise_iff_getElem] at hs
    have h2 : zs[i] ≤ zs[i + 1] := hs i (i + 1) hi h1 (by omega)
    have h3 : zs[i + 1] ≤ zs[i] := by
      rw [heq]
      rcases Nat.lt_or_ge (i + 1) j with h4 | h4
      · exact hs (i + 1) j h1 hj h4
      · obtain rfl : j = i + 1 := by omega
        exact List.le_refl _
    have h5 := le_as h2 h3
    apply hk
    simp [h1, hi, h5]
  · intro h j hj
    unfold Lib.keeps
    rcases Nat.eq_zero_or_pos j with h0 | h0
    · simp [h0]
    · simp only [decide_eq_true_eq]
      right
      intro heq
      rw [List.nodup_iff_pairwise_ne, List.pairwise_iff_getElem] at h
      have hj1 : j - 1 < zs.length := by omega
      refine h (j - 1) j hj1 hj (by omega) ?_
      have e1 : zs.toArray[j]! = zs[j] := by simp [getElem!_pos, hj]
      have e2 : zs.toArray[j - 1]! = zs[j - 1] := by simp [getElem!_pos, hj1]
      rw [e1, e2] at heq
      exact heq.symm
theorem compact_sorted (ss : List (List UInt8)) : (Lib.compact (ss.mergeSort fun x y => decide (x ≤ y))).length = ss.length ↔ ss.Nodup := by
  have h := compact_len_lt _ (srt ss)
  rw [List.length_mergeSort] at h
  rw [h]
  exact (List.mergeSort_perm ss _).nodup_iff

theorem enc_str (x : ByteArray) : encStr x.data.toList = .string x := by cases x; rfl
theorem map_enc (T : List ByteArray) : (T.map fun x => x.data.toList).map encStr = T.map Value.string := by
  rw [List.map_map]
  exact List.map_congr_left fun x _ => enc_str x
theorem nodup_bytes (T : List ByteArray) : (T.map fun x => x.data.toList).Nodup ↔ T.Nodup := by
  constructor
  · intro h
    rw [List.nodup_iff_pairwise_ne, List.pairwise_map] at h
    rw [List.nodup_iff_pairwise_ne]
    exact h.imp fun hne e => hne (by rw [e])
  · intro h
    rw [List.nodup_iff_pairwise_ne] at h ⊢
    rw [List.pairwise_map]
    exact h.imp fun hne e => hne (by rename_i a b; cases a; cases b; simp only at e; congr 1; exact Array.toList_inj.1 e)

set_option maxRecDepth 100000 in
set_option maxHeartbeats 3200000 in
theorem once_any (p : Option Addr) (n c : Nat) (T : List ByteArray) (w : World) (hS : Sl 1 strC w p n T) (hn : n ≤ 1000) :
    Calls Tryz.prog 46 #[.slice p n c] w fun e w' => ∃ (p' : Option Addr) (m c' : Nat), e = .returned (.slice p' m c') ∧ m ≤ n ∧ (m < n ↔ dupB T = true) ∧ Ext w w' := by
  have hl := hS.1
  by_cases hn0 : n = 0
  · subst hn0
    obtain rfl : T = [] := List.eq_nil_of_length_eq_zero hl
    clear hS
    cases p with
    | none =>
      have h1 := Tryz.slices_Clone_string_nil 0 c w
      replace h1 := Lib.hid h1
      go_enter Tryz.func46, Tryz.ntmps46
      go_wp2_with (first
        | (go_at_call 72; refine (h1.out).mono ?_; rintro e w1 ⟨rfl, rfl⟩)
        | (go_at_call 41; refine (Tryz.slices_Sort_string_none _ _ _).mono ?_; rintro e w2 ⟨rfl, rfl⟩)
        | (go_at_call 73; refine (Tryz.slices_Compact_string_empty _ _ _).mono ?_; rintro e w3 ⟨rfl, rfl⟩))
      go_ret
      exact ⟨none, 0, 0, rfl, Nat.le_refl _, by simp [dupB], Ext.refl _⟩
    | some a =>
      have h1 := Tryz.slices_Clone_string_zero a c w
      replace h1 := Lib.hid h1
      go_enter Tryz.func46, Tryz.ntmps46
      go_wp2_with (first
        | (go_at_call 72; refine (h1.out).mono ?_; rintro e w1 ⟨v1, rfl, hown, hnn, hbel⟩; obtain ⟨p1, c1, rfl, -⟩ := slc_of_own (xs := ([] : List ByteArray)) (enc := strC) (fun _ => rfl) hown (by decide) (by decide))
        | (go_at_call 41; refine (Tryz.slices_Sort_string_none _ _ _).mono ?_; rintro e w2 ⟨rfl, rfl⟩)
        | (go_at_call 73; refine (Tryz.slices_Compact_string_empty _ _ _).mono ?_; rintro e w3 ⟨rfl, rfl⟩))
      go_ret
      exact ⟨p1, 0, c1, rfl, Nat.le_refl _, by simp [dupB], hbel⟩
  · obtain ⟨b, off, rfl, hb, hE⟩ := hS.2.2 hn0
    have h1 := Tryz.slices_Clone_string b off n c T w (by omega) (by omega) (fun j hj => by
      have hx : T[j]? = some T[j] := List.getElem?_eq_getElem hj
      rw [hE.str hx, List.getD_eq_getElem?_getD, hx]
      rfl)
    rw [List.take_of_length_le (by omega), ← map_enc] at h1
    have hdup : (Lib.compact ((T.map fun x => x.data.toList).mergeSort fun x y => decide (x ≤ y))).length < n ↔ dupB T = true := by
      have h2 := compact_sorted (T.map fun x => x.data.toList)
      rw [List.length_map, hl, nodup_bytes] at h2
      have h3 := Lib.compact_length_le ((T.map fun x => x.data.toList).mergeSort fun x y => decide (x ≤ y))
      rw [List.length_mergeSort, List.length_map, hl] at h3
      rw [dupB_iff, ← h2]
      omega
    have hls : (T.map fun x => x.data.toList).length = n := by rw [List.length_map, hl]
    generalize (T.map fun x => x.data.toList) = ss at *
    replace h1 := Lib.hid h1
    replace hdup := Lib.hid hdup
    clear hS hE
    go_enter Tryz.func46, Tryz.ntmps46
    go_wp2_with (first
      | (go_at_call 72; refine (h1.out).mono ?_; rintro e w1 ⟨v1, rfl, hown, hnn, hbel⟩
         obtain ⟨g, cap, rfl, hbg, hgl, hncap, hcm, hlen, hH⟩ := Lib.holds_of_ownsRow hown hnn
         have hsort := Tryz.slices_Sort_string g 0 cap ss w1 hH hgl (by omega)
         rw [hlen] at hsort
         replace hsort := Lib.hid hsort
         replace hH := Lib.hid hH
         replace hown := Lib.hid hown)
      | (go_at_call 41; refine (hsort.out).mono ?_; rintro e w2 ⟨rfl, nn, os, rfl⟩
         have hl2 : (ss.mergeSort fun x y => decide (x ≤ y)).length = n := by rw [List.length_mergeSort]; exact hlen
         have hH2 : Holds encStr (grow (putRow encStr (Sort.ahead w1 nn) g 0 (ss.mergeSort fun x y => decide (x ≤ y)).toArray) os) g 0 (ss.mergeSort fun x y => decide (x ≤ y)).toArray :=
           holds_grow encStr _ os g 0 _ (by simpa [putRow, mapBlock, Sort.ahead] using hgl) (holds_putRow encStr _ g 0 _ _ (holds_ahead encStr w1 nn g 0 _ hH.out) (by simp))
         have hcomp := Tryz.slices_Compact_string g 0 cap (ss.mergeSort fun x y => decide (x ≤ y)) _ hH2 (by omega) (by omega)
         rw [hl2] at hcomp
         replace hcomp := Lib.hid hcomp
         have hbel2 : Below w.heap.size w (grow (putRow encStr (Sort.ahead w1 nn) g 0 (ss.mergeSort fun x y => decide (x ≤ y)).toArray) os) := hbel.grown (grownBy_sorted _) hbel.size (fun j hj => by cases hj; exact hbg)
         clear hH2
         generalize grow (putRow encStr (Sort.ahead w1 nn) g 0 (ss.mergeSort fun x y => decide (x ≤ y)).toArray) os = w2 at *)
      | (go_at_call 73; refine (hcomp.out).mono ?_; rintro e w3 ⟨rfl, q, rfl⟩))
    go_ret
    exact ⟨_, _, _, rfl, by have h3 := Lib.compact_length_le (ss.mergeSort fun x y => decide (x ≤ y)); omega, hdup.out, Lib.below_putRow hbel2 hbg⟩

set_option maxRecDepth 100000 in
theorem rtwice_any (p : Option Addr) (n c : Nat) (T : List ByteArray) (w : World) (hS : Sl 1 strC w p n T) (hn : n ≤ 1000) :
    Calls Tryz.prog 44 #[.slice p n c] w fun e w' => e = .returned (.bool (dupB T)) ∧ Ext w w' := by
  have h1 := once_any p n c T w hS hn
  replace h1 := Lib.hid h1
  clear hS
  cases hd : dupB T
  all_goals
    go_enter Tryz.func44, Tryz.ntmps44
    go_wp2_with (go_at_call 46; (with_reducible refine Calls.mono h1.out ?_); rintro e w1 ⟨p1, m, c1, rfl, hm, hmn, hb1⟩; rw [hd] at hmn; simp at hmn)
    go_ret
    exact ⟨ret_bool (by simp <;> omega), hb1⟩
end Go.Proofs.YtflcbphlhoibiaaGreatDoor

namespace Go.Proofs.YtflcbphlhoibiaaGreatDoor
open Go

def inG (G : List ByteArray) (x : StandV) : Bool := G.any fun y => y.toList == x.name.toList
theorem inG_iff {G : List ByteArray} {x : StandV} : inG G x = true ↔ x.name ∈ G := by
  unfold inG
  rw [List.any_eq_true]
  exact ⟨fun ⟨y, hy, h⟩ => baL.1 h ▸ hy, fun h => ⟨_, h, baL.2 rfl⟩⟩
/-- How many of the first k are gone, row by row. -/
def cntK (S : List StandV) (g : StandV → Bool) (k : Nat) (r : Int) : Nat := ((S.take k).filter fun z => g z && decide (z.row = r)).length
def gapL (S : List StandV) (g : StandV → Bool) (n k : Nat) : List Int := (List.range n).map fun r : Nat => (cntK S g k (r : Int) : Int)
theorem gap_len (S : List StandV) (g : StandV → Bool) (n k : Nat) : (gapL S g n k).length = n := by simp [gapL]
theorem gap_zero (S : List StandV) (g : StandV → Bool) (n : Nat) : gapL S g n 0 = List.replicate n 0 := by
  unfold gapL cntK
  apply List.ext_getElem?
  intro i
  rw [List.getElem?_map]
  by_cases h : i < n
  · rw [List.getElem?_range h, List.getElem?_replicate, if_pos h]; simp
  · rw [List.getElem?_eq_none (by simpa using h), List.getElem?_replicate, if_neg h]; rfl
theorem gap_get {S : List StandV} {g : StandV → Bool} {n k r : Nat} (h : r < n) : (gapL S g n k)[r]? = some (cntK S g k r : Int) := by
  unfold gapL
  rw [List.getElem?_map, List.getElem?_range h]
  rfl
theorem cntK_succ {S : List StandV} {g : StandV → Bool} {k : Nat} {x : StandV} (hx : S[k]? = some x) (r : Int) : cntK S g (k + 1) r = cntK S g k r + (if g x && decide (x.row = r) then 1 else 0) := by
  unfold cntK
  rw [take_snocL hx, List.filter_append, List.length_append]
  congr 1
  cases h : (g x && decide (x.row = r)) <;> simp [h]
theorem gap_out {S : List StandV} {g : StandV → Bool} {n k : Nat} {x : StandV} (hx : S[k]? = some x) (hg : g x = false) : gapL S g n (k + 1) = gapL S g n k := by
  unfold gapL
  refine List.map_congr_left fun r _ => ?_
  rw [cntK_succ hx, hg]
  simp
theorem gap_in {S : List StandV} {g : StandV → Bool} {n k r : Nat} {x : StandV} (hx : S[k]? = some x) (hg : g x = true) (hr : x.row = (r : Int)) (hn : r < n) : gapL S g n (k + 1) = (gapL S g n k).set r ((cntK S g k r : Int) + 1) := by
  apply List.ext_getElem?
  intro i
  rw [List.getElem?_set]
  by_cases h : i < n
  · rw [gap_get h, cntK_succ hx, hg]
    by_cases e : r = i
    · subst e
      have hlen : r < (gapL S g n k).length := by rw [gap_len]; exact h
      simp [hr, hlen]
    · have e2 : ¬ x.row = (i : Int) := by omega
      rw [if_neg e, gap_get h]
      simp [e2]
  · have e : ¬ r = i := by omega
    rw [if_neg e, List.getElem?_eq_none (by rw [gap_len]; omega), List.getElem?_eq_none (by rw [gap_len]; omega)]
theorem cnt_is {S : List StandV} (hs : S.Pairwise (fun a b => ltV a b = true)) (g : StandV → Bool) {k : Nat} {x : StandV} (hx : S[k]? = some x) : cntG S g x = cntK S g k x.row := by
  obtain ⟨hk, e⟩ := List.getElem?_eq_some_iff.1 hx
  unfold cntG cntK
  have h1 : S.filter (fun z => g z && (decide (z.row = x.row) && decide (z.place < x.place))) = ((S.take k).filter fun z => g z && (decide (z.row = x.row) && decide (z.place < x.place))) ++ ((S.drop k).filter fun z => g z && (decide (z.row = x.row) && decide (z.place < x.place))) := by
    rw [← List.filter_append, List.take_append_drop]
  have h2 : (S.drop k).filter (fun z => g z && (decide (z.row = x.row) && decide (z.place < x.place))) = [] := by
    rw [List.filter_eq_nil_iff]
    intro z hz hb
    simp at hb
    obtain ⟨i, hi, ez⟩ := List.getElem_of_mem hz
    rw [List.getElem_drop] at ez
    rw [List.length_drop] at hi
    rcases Nat.eq_zero_or_pos i with h0 | h0
    · subst h0
      have exz : x = z := e.symm.trans ez
      subst exz
      omega
    · have h3 := List.pairwise_iff_getElem.1 hs k (k + i) hk (by omega) (by omega)
      rw [e, ez] at h3
      unfold ltV at h3
      simp at h3
      omega
  rw [h1, h2, List.append_nil]
  congr 1
  refine List.filter_congr fun z hz => ?_
  obtain ⟨i, hi, ez⟩ := List.getElem_of_mem hz
  rw [List.length_take] at hi
  rw [List.getElem_take] at ez
  have h3 := List.pairwise_iff_getElem.1 hs i k (by omega) hk (by omega)
  rw [e, ez] at h3
  unfold ltV at h3
  simp at h3
  congr 1
  by_cases hr : z.row = x.row
  · have : z.place < x.place := by omega
    simp [hr, this]
  · simp [hr]
theorem gap_is {S : List StandV} (hs : S.Pairwise (fun a b => ltV a b = true)) (g : StandV → Bool) {n k r : Nat} {x : StandV} (hx : S[k]? = some x) (hr : x.row = (r : Int)) (hn : r < n) : (gapL S g n k)[r]? = some (cntG S g x : Int) := by
  rw [gap_get hn, cnt_is hs g hx, hr]
def closeT (S : List StandV) (g : StandV → Bool) (k : Nat) : List StandV := ((S.take k).filter fun x => !g x).map (closeS S g)
theorem closeT_all (S : List StandV) (g : StandV → Bool) : closeT S g S.length = closeL S g := by unfold closeT closeL; rw [List.take_length]
theorem closeT_out {S : List StandV} {g : StandV → Bool} {k : Nat} {x : StandV} (hx : S[k]? = some x) (hg : g x = false) : closeT S g (k + 1) = closeT S g k ++ [closeS S g x] := by
  unfold closeT
  rw [take_snocL hx, List.filter_append, List.map_append]
  simp [hg]
theorem closeT_in {S : List StandV} {g : StandV → Bool} {k : Nat} {x : StandV} (hx : S[k]? = some x) (hg : g x = true) : closeT S g (k + 1) = closeT S g k := by
  unfold closeT
  rw [take_snocL hx, List.filter_append, List.map_append]
  simp [hg]
theorem closeT_len (S : List StandV) (g : StandV → Bool) (k : Nat) : (closeT S g k).length ≤ k := by
  unfold closeT
  rw [List.length_map]
  exact Nat.le_trans (List.length_filter_le _ _) (by rw [List.length_take]; omega)
/-- With the gaps closed: still right. -/
theorem standsF_close {P : List PersonV} {wide high : List Int} {S : List StandV} (h : standsF P wide high S = 0) (g : StandV → Bool) : standsF P wide high (closeL S g) = 0 := by
  obtain ⟨h0, hl, ha, hs, hn⟩ := standsF_right h
  refine standsF_mk h0 ?_ (fun x hx => ?_) (closed_sorted hs g) ?_
  · unfold closeL
    rw [List.length_map]
    exact Nat.le_trans (List.length_filter_le _ _) hl
  · obtain ⟨y, hy, rfl⟩ := List.mem_map.1 hx
    have hyS := (List.mem_filter.1 hy).1
    obtain ⟨a, b, c, d⟩ := ha y hyS
    have hc := cnt_le hs (fun z hz => (ha z hz).2.2.1) g hyS
    refine ⟨a, b, ?_, ?_⟩
    · show 0 ≤ y.place - cntG S g y
      omega
    · show y.place - cntG S g y ≤ wide.getD y.row.toNat 0 - 1
      omega
  · have e : namesS (closeL S g) = (S.filter fun x => !g x).map (·.name) := by unfold namesS closeL; rw [List.map_map]; rfl
    rw [e]
    exact ((List.filter_sublist (l := S)).map _).nodup hn
theorem sub_filter : ∀ {G N : List ByteArray}, G.Sublist N → N.Nodup → (N.filter fun a => !(G.any fun y => y.toList == a.toList)).length + G.length = N.length
  | _, _, .slnil, _ => rfl
  | G, _, .cons (l₂ := l) a h, hn => by
    obtain ⟨h1, h2⟩ := List.nodup_cons.1 hn
    have ih := sub_filter h h2
    have hf : (G.any fun y => y.toList == a.toList) = false := by
      rw [List.any_eq_false]
      intro y hy e
      have := baL.1 e
      subst this
      exact h1 (h.subset hy)
    rw [List.filter_cons, hf]
    simp only [Bool.not_false, if_true, List.length_cons]
    omega
  | _, _, .cons_cons (l₁ := G) (l₂ := l) a h, hn => by
    obtain ⟨h1, h2⟩ := List.nodup_cons.1 hn
    have ih := sub_filter h h2
    have hf : ((a :: G).any fun y => y.toList == a.toList) = true := by
      rw [List.any_eq_true]
      exact ⟨a, List.mem_cons_self, baL.2 rfl⟩
    have hc : (l.filter fun b => !((a :: G).any fun y => y.toList == b.toList)) = l.filter fun b => !(G.any fun y => y.toList == b.toList) := by
      refine List.filter_congr fun b hb => ?_
      have : (a.toList == b.toList) = false := by
        cases hh : (a.toList == b.toList)
        · rfl
        · have := baL.1 hh; subst this; exact absurd hb h1
      rw [List.any_cons, this, Bool.false_or]
    rw [List.filter_cons, hf]
    simp only [Bool.not_true, Bool.false_eq_true, if_false, List.length_cons]
    rw [hc]
    omega
theorem close_len {S : List StandV} {G : List ByteArray} (hn : (namesS S).Nodup) (hG : G.Sublist (namesS S)) : (closeL S (inG G)).length + G.length = S.length := by
  have h := sub_filter hG hn
  have e : (closeL S (inG G)).length = ((namesS S).filter fun a => !(G.any fun y => y.toList == a.toList)).length := by
    unfold closeL namesS
    rw [List.length_map, List.filter_map, List.length_map]
    rfl
  have e2 : (namesS S).length = S.length := by simp [namesS]
  omega
end Go.Proofs.YtflcbphlhoibiaaGreatDoor
