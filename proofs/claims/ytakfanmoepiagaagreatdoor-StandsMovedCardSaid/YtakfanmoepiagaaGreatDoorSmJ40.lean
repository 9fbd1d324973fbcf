/- Names sorted: a row of the call's own. Conditions: sizes. Names once each, sorted, by the document's text. Conditions: the names are different ones. Who stands elsewhere, by the document's text: the walk. Conditions: two lists of stands lie in memory; names are different ones. Who stands elsewhere, when something is wrong with a list: the program's walk. Conditions: two lists of stands lie in memory. The map from names to stands, filled: plain mathematics. Conditions: as each theorem says. -/
import Derived.Test.YtakfanmoepiagaaGreatDoorSmJ39
import Derived.Test.YtakfanmoepiagaaGreatDoorSmJ21
import Derived.Laws.StructEq
set_option linter.unusedSimpArgs false
set_option linter.unusedVariables false
namespace Go.Proofs.YtakfanmoepiagaaGreatDoor
open Go Go.RowKit Go.Sort

theorem le_uniq : ∀ {a b : List (List UInt8)}, a.Pairwise (· ≤ ·) → b.Pairwise (· ≤ ·) → a.Perm b → a = b
  | [], b, _, _, h => h.nil_eq
  | x :: a, [], _, _, h => by have := h.length_eq; simp at this
  | x :: a, y :: b, h1, h2, h => by
    obtain ⟨p1, q1⟩ := List.pairwise_cons.1 h1
    obtain ⟨p2, q2⟩ := List.pairwise_cons.1 h2
    have hxy : x ≤ y := by
      rcases List.mem_cons.1 (h.symm.subset List.mem_cons_self) with e | e
      · rw [e]; exact List.le_refl _
      · exact p1 y e
    have hyx : y ≤ x := by
      rcases List.mem_cons.1 (h.subset List.mem_cons_self) with e | e
      · rw [e]; exact List.le_refl _
      · exact p2 x e
    have e := le_as hxy hyx
    subst e
    rw [le_uniq q1 q2 h.cons_inv]
def srtB (T : List ByteArray) : List (List UInt8) := (T.map fun x => x.data.toList).mergeSort fun x y => decide (x ≤ y)
def srtN (T : List ByteArray) : List ByteArray := (srtB T).map fun l => ⟨l.toArray⟩
theorem srtB_len (T : List ByteArray) : (srtB T).length = T.length := by unfold srtB; rw [List.length_mergeSort, List.length_map]
theorem srtN_len (T : List ByteArray) : (srtN T).length = T.length := by unfold srtN; rw [List.length_map, srtB_len]
theorem srtB_perm {T U : List ByteArray} (h : T.Perm U) : srtB T = srtB U :=
  le_uniq (srt _) (srt _) ((List.mergeSort_perm _ _).trans ((h.map _).trans (List.mergeSort_perm _ _).symm))
theorem srtN_perm {T U : List ByteArray} (h : T.Perm U) : srtN T = srtN U := by unfold srtN; rw [srtB_perm h]
theorem flat_enc (T : List ByteArray) : T.flatMap strC = (T.map fun x => x.data.toList).map encStr := by
  rw [map_enc]
  induction T with
  | nil => rfl
  | cons x l ih => rw [List.flatMap_cons, ih]; rfl
theorem srtN_cells (T : List ByteArray) : (srtN T).flatMap strC = (srtB T).map encStr := by
  rw [flat_enc]
  unfold srtN
  have e : ((srtB T).map fun l => (⟨l.toArray⟩ : ByteArray)).map (fun x : ByteArray => x.data.toList) = srtB T := by
    rw [List.map_map]
    have : ((fun x : ByteArray => x.data.toList) ∘ fun l : List UInt8 => (⟨l.toArray⟩ : ByteArray)) = id := funext fun l => by simp
    rw [this, List.map_id]
  rw [e]
theorem sortN_any {w : World} {base g n cap : Nat} {T : List ByteArray} (h : w.ownsRow base 9 1 (.slice (some ⟨g, 0, none⟩) n cap) n (T.flatMap strC)) (hn : T.length = n) (hn1 : n ≤ 1000) :
    Calls Tryz.prog 79 #[.slice (some ⟨g, 0, none⟩) n cap] w fun e w' => e = .returned (.tuple #[]) ∧ w'.ownsRow base 9 1 (.slice (some ⟨g, 0, none⟩) n cap) n ((srtN T).flatMap strC) ∧ ∀ a : World, Ext a w → a.heap.size ≤ g → Ext a w' := by
  rw [flat_enc] at h
  have h0 := h
  obtain ⟨g', cap', he, hbg, hgl, hncap, hcm, hlen, hH⟩ := Lib.holds_of_ownsRow h (by intro e; cases e)
  cases he
  have hl : (T.map fun x => x.data.toList).length = n := by rw [List.length_map, hn]
  have hs := Tryz.slices_Sort_string g 0 cap (T.map fun x => x.data.toList) w hH hgl (by omega)
  rw [hl] at hs
  refine hs.mono fun e w' ⟨he, nn, os, hw⟩ => ⟨he, ?_, fun a ha hg => ?_⟩
  · rw [hw, srtN_cells]
    rcases h0.2 with ⟨h1, -⟩ | ⟨g', cap', cur, h1, hb, hgc, hnc, hcm2, hcs, htk⟩
    · cases h1
    cases h1
    have h9 := ownsRow_sorted (w := w) (n := nn) (os := os) (base := base) (g := g) (cap := cap) (cur := cur) (ss := T.map fun x => x.data.toList) (ts := srtB T) (by rw [srtB_len, List.length_map]) hb hgc (by omega) hcm2 hcs
    rw [hl] at h9
    exact h9
  · rw [hw]
    exact ha.grown (grownBy_sorted _) (fun j e => by cases e; exact hg)
end Go.Proofs.YtakfanmoepiagaaGreatDoor

namespace Go.Proofs.YtakfanmoepiagaaGreatDoor
open Go Go.RowKit Go.Sort

theorem compact_self {zs : List (List UInt8)} (hs : zs.Pairwise (· ≤ ·)) (hn : zs.Nodup) : Lib.compact zs = zs := by
  have h1 := (compact_len_lt zs hs).2 hn
  unfold Lib.compact Lib.compactUpTo at h1 ⊢
  rw [List.length_map] at h1
  have h2 := List.length_filter_eq_length_iff (p := Lib.keeps zs.toArray) (l := List.range zs.length)
  rw [List.length_range] at h2
  rw [List.filter_eq_self.2 (h2.1 h1)]
  apply List.ext_getElem
  · simp
  · intro i h3 h4
    simp [h4]
theorem srtN_nil : srtN [] = [] := List.eq_nil_of_length_eq_zero (by rw [srtN_len]; rfl)
theorem strC_map (T : List ByteArray) : T.map Value.string = T.flatMap strC := by rw [flat_enc, map_enc]
set_option maxRecDepth 100000 in
set_option maxHeartbeats 3200000 in
theorem onceN_any (p : Option Addr) (n c : Nat) (T : List ByteArray) (w : World) (hS : Sl 1 strC w p n T) (hn : n ≤ 1000) (hd : T.Nodup) :
    Calls Tryz.prog 81 #[.slice p n c] w fun e w' => ∃ (p' : Option Addr) (c' : Nat), e = .returned (.slice p' n c') ∧ Slc 1 strC w' p' n c' (srtN T) ∧ Ext w w' := by
  have hl := hS.1
  by_cases hn0 : n = 0
  · subst hn0
    obtain rfl : T = [] := List.eq_nil_of_length_eq_zero hl
    clear hS
    cases p with
    | none =>
      have h1 := Tryz.slices_Clone_string_nil 0 c w
      replace h1 := Lib.hid h1
      go_enter Tryz.func81, Tryz.ntmps81
      go_wp2_with (first
        | (go_at_call 119; refine (h1.out).mono ?_; rintro e w1 ⟨rfl, rfl⟩)
        | (go_at_call 79; refine (Tryz.slices_Sort_string_none _ _ _).mono ?_; rintro e w2 ⟨rfl, rfl⟩)
        | (go_at_call 120; refine (Tryz.slices_Compact_string_empty _ _ _).mono ?_; rintro e w3 ⟨rfl, rfl⟩))
      go_ret
      exact ⟨none, 0, rfl, by rw [srtN_nil]; exact Slc.nil _ _ _, Ext.refl _⟩
    | some a =>
      have h1 := Tryz.slices_Clone_string_zero a c w
      replace h1 := Lib.hid h1
      go_enter Tryz.func81, Tryz.ntmps81
      go_wp2_with (first
        | (go_at_call 119; refine (h1.out).mono ?_; rintro e w1 ⟨v1, rfl, hown, hnn, hbel⟩; obtain ⟨p1, c1, rfl, hS1⟩ := slc_of_own (xs := ([] : List ByteArray)) (enc := strC) (fun _ => rfl) hown (by decide) (by decide))
        | (go_at_call 79; refine (Tryz.slices_Sort_string_none _ _ _).mono ?_; rintro e w2 ⟨rfl, rfl⟩)
        | (go_at_call 120; refine (Tryz.slices_Compact_string_empty _ _ _).mono ?_; rintro e w3 ⟨rfl, rfl⟩))
      go_ret
      exact ⟨p1, c1, rfl, by rw [srtN_nil]; exact hS1, hbel⟩
  · obtain ⟨b, off, rfl, hb, hE⟩ := hS.2.2 hn0
    have h1 := Tryz.slices_Clone_string b off n c T w (by omega) (by omega) (fun j hj => by
      have hx : T[j]? = some T[j] := List.getElem?_eq_getElem hj
      rw [hE.str hx, List.getD_eq_getElem?_getD, hx]
      rfl)
    rw [List.take_of_length_le (by omega), strC_map] at h1
    have hcs : Lib.compact (srtB T) = srtB T := compact_self (srt _) (((List.mergeSort_perm _ _).nodup_iff).2 ((nodup_bytes T).2 hd))
    have hbl := srtB_len T
    have hpos : 0 < n := by omega
    replace h1 := Lib.hid h1
    replace hcs := Lib.hid hcs
    clear hS hE
    go_enter Tryz.func81, Tryz.ntmps81
    go_wp2_with (first
      | (go_at_call 119; refine (h1.out).mono ?_; rintro e w1 ⟨v1, rfl, hown, hnn, hbel⟩
         obtain ⟨g, cap, rfl, hbg, -⟩ := hown.form hpos
         have hsort := sortN_any hown hl hn
         replace hsort := Lib.hid hsort)
      | (go_at_call 79; refine (hsort.out).mono ?_; rintro e w2 ⟨rfl, hown2, hext2⟩
         have hbel2 : Ext w w2 := hext2 w hbel hbg
         rw [srtN_cells] at hown2
         obtain ⟨g', cap', heq, -, hgl, hncap, hcm, hlen, hH2⟩ := Lib.holds_of_ownsRow hown2 hnn
         cases heq
         have hcomp := Tryz.slices_Compact_string g 0 cap (srtB T) w2 hH2 (by omega) (by omega)
         rw [hcs.out, hlen, Nat.sub_self, List.replicate_zero, List.append_nil] at hcomp
         replace hcomp := Lib.hid hcomp
         replace hown2 := Lib.hid hown2)
      | (go_at_call 120; refine (hcomp.out).mono ?_; rintro e w3 ⟨rfl, q, rfl⟩))
    go_ret
    have ho3 := Lib.ownsRow_putRow (q := q) (k := n) (ys := srtB T) hown2.out (by omega) (Nat.le_refl _)
    rw [List.take_of_length_le (by omega), ← srtN_cells] at ho3
    obtain ⟨p9, c9, he9, hS9⟩ := slc_of_own (enc := strC) (fun _ => rfl) ho3 (by decide) (by omega)
    cases he9
    exact ⟨_, _, rfl, hS9, Lib.below_putRow hbel2 hbg⟩
end Go.Proofs.YtakfanmoepiagaaGreatDoor

namespace Go.Proofs.YtakfanmoepiagaaGreatDoor
open Go Go.RowKit Go.Sort

def difS (y x : StandV) : Bool := !((y.row == x.row) && (y.place == x.place))
def movR (B A : List StandV) : List ByteArray := (B.filter fun x => A.any fun y => (y.name.toList == x.name.toList) && difS y x).map (·.name)
def movT (B A : List StandV) (k : Nat) : List ByteArray := ((B.take k).filter fun x => A.any fun y => (y.name.toList == x.name.toList) && difS y x).map (·.name)
theorem movT_succ {B A : List StandV} {k : Nat} {x : StandV} (h : B[k]? = some x) : movT B A (k + 1) = if (A.any fun y => (y.name.toList == x.name.toList) && difS y x) then movT B A k ++ [x.name] else movT B A k := by
  unfold movT
  rw [take_snocL h, List.filter_append, List.map_append]
  cases hh : (A.any fun y => (y.name.toList == x.name.toList) && difS y x) <;> simp [hh]
theorem movT_len (B A : List StandV) (k : Nat) : (movT B A k).length ≤ k := by
  unfold movT
  rw [List.length_map]
  exact Nat.le_trans (List.length_filter_le _ _) (by rw [List.length_take]; omega)
theorem mov_found {A : List StandV} (hn : (namesS A).Nodup) {k : Nat} {y x : StandV} (hy : A[k]? = some y) (hyx : y.name = x.name) : (A.any fun z => (z.name.toList == x.name.toList) && difS z x) = difS y x := by
  rw [Bool.eq_iff_iff, List.any_eq_true]
  constructor
  · rintro ⟨z, hz, hb⟩
    rw [Bool.and_eq_true] at hb
    obtain ⟨j, hj, e⟩ := List.getElem_of_mem hz
    have hzn := baL.1 hb.1
    have hk := (List.getElem?_eq_some_iff.1 hy).1
    have hjk : j = k := by
      rw [List.nodup_iff_pairwise_ne, List.pairwise_iff_getElem] at hn
      have l1 : j < (namesS A).length := by unfold namesS; rw [List.length_map]; exact hj
      have l2 : k < (namesS A).length := by unfold namesS; rw [List.length_map]; exact hk
      have g1 : (namesS A)[j]? = some x.name := by unfold namesS; rw [List.getElem?_map, List.getElem?_eq_getElem hj, e, Option.map_some, hzn]
      have e1 : (namesS A)[j] = x.name := (List.getElem?_eq_some_iff.1 g1).2
      have g2 : (namesS A)[k]? = some x.name := by unfold namesS; rw [List.getElem?_map, hy, Option.map_some, hyx]
      have e2 : (namesS A)[k] = x.name := (List.getElem?_eq_some_iff.1 g2).2
      rcases Nat.lt_trichotomy j k with h1 | h1 | h1
      · exact absurd (e1.trans e2.symm) (hn j k l1 l2 h1)
      · exact h1
      · exact absurd (e2.trans e1.symm) (hn k j l2 l1 h1)
    subst hjk
    rw [(List.getElem?_eq_some_iff.1 hy).2] at e
    rw [e]
    exact hb.2
  · intro hb
    exact ⟨y, List.mem_of_getElem? hy, by rw [Bool.and_eq_true]; exact ⟨baL.2 hyx, hb⟩⟩
theorem mov_none {A : List StandV} {x : StandV} (h : x.name ∉ namesS A) : (A.any fun z => (z.name.toList == x.name.toList) && difS z x) = false := by
  rw [List.any_eq_false]
  intro z hz hb
  rw [Bool.and_eq_true] at hb
  exact h (List.mem_map.2 ⟨z, hz, baL.1 hb.1⟩)
theorem movR_nodup {A B : List StandV} (h : (namesS B).Nodup) : (movR B A).Nodup := by
  unfold movR
  unfold namesS at h
  exact ((List.filter_sublist (l := B)).map _).nodup h
theorem movR_mem {A B : List StandV} {nm : ByteArray} : nm ∈ movR B A ↔ ∃ x ∈ B, ∃ y ∈ A, x.name = nm ∧ y.name = nm ∧ difS y x = true := by
  unfold movR
  rw [List.mem_map]
  constructor
  · rintro ⟨x, hx, rfl⟩
    obtain ⟨h1, h2⟩ := List.mem_filter.1 hx
    obtain ⟨y, hy, hb⟩ := List.any_eq_true.1 h2
    rw [Bool.and_eq_true] at hb
    exact ⟨x, h1, y, hy, rfl, baL.1 hb.1, hb.2⟩
  · rintro ⟨x, hx, y, hy, rfl, e, hd⟩
    exact ⟨x, List.mem_filter.2 ⟨hx, List.any_eq_true.2 ⟨y, hy, by rw [Bool.and_eq_true]; exact ⟨baL.2 e, hd⟩⟩⟩, rfl⟩
theorem difS_symm (x y : StandV) : difS x y = difS y x := by
  unfold difS
  rw [Bool.eq_iff_iff]
  simp
  omega
/-- Both texts name the same ones. -/
theorem mov_perm {A B : List StandV} (hA : (namesS A).Nodup) (hB : (namesS B).Nodup) : (movR A B).Perm (movR B A) := by
  rw [List.perm_ext_iff_of_nodup (movR_nodup hA) (movR_nodup hB)]
  intro nm
  rw [movR_mem, movR_mem]
  constructor
  · rintro ⟨x, hx, y, hy, e1, e2, hd⟩; exact ⟨y, hy, x, hx, e2, e1, by rw [difS_symm]; exact hd⟩
  · rintro ⟨x, hx, y, hy, e1, e2, hd⟩; exact ⟨y, hy, x, hx, e2, e1, by rw [difS_symm]; exact hd⟩
end Go.Proofs.YtakfanmoepiagaaGreatDoor

namespace Go.Proofs.YtakfanmoepiagaaGreatDoor
open Go Go.RowKit Go.Sort

section
variable {lp : Option Addr} {lc : Nat} {B : List StandV} {mp : Option Addr} {mc : Nat} {A : List StandV} {w : World}
set_option maxRecDepth 100000 in
set_option maxHeartbeats 1600000 in
theorem moved_bad1 (hB : Slc 3 staC w lp B.length lc B) (nB : B.length ≤ 200) (sB : ∀ x ∈ B, x.Small) {v : Int} (hv : looseF B = v) (h0 : v ≠ 0) (n : Nat) :
    Calls Tryz.prog 33 #[.slice lp B.length lc, .slice mp n mc] w fun e w' => e = .returned (.tuple #[.slice none 0 0, .int .i64 v]) ∧ Ext w w' := by
  have hE0 : Ext w (w.alloc (.cells #[.slice lp B.length lc, .slice mp n mc] 34)) := (Ext.refl _).alloc _
  have hlf := loose_any (hB.ext hE0) nB sB
  rw [hv] at hlf
  replace hlf := Lib.hid hlf
  clear hB hv
  go_enter Tryz.func33, Tryz.ntmps33
  go_wp2
  refine wp_loop_rounds 3 ?_
  rw [rounds_succ]
  go_wp2_with (go_at_call 78; (with_reducible refine Calls.mono hlf.out ?_); rintro e w1 ⟨rfl, hb1⟩)
  go_ret2
  exact ⟨rfl, hE0.trans hb1⟩
set_option maxRecDepth 100000 in
set_option maxHeartbeats 1600000 in
theorem moved_bad2 (hB : Slc 3 staC w lp B.length lc B) (nB : B.length ≤ 200) (sB : ∀ x ∈ B, x.Small) (hb : looseF B = 0) (hA : Slc 3 staC w mp A.length mc A) (nA : A.length ≤ 200) (sA : ∀ x ∈ A, x.Small) {v : Int} (hv : looseF A = v) (h0 : v ≠ 0) :
    Calls Tryz.prog 33 #[.slice lp B.length lc, .slice mp A.length mc] w fun e w' => e = .returned (.tuple #[.slice none 0 0, .int .i64 v]) ∧ Ext w w' := by
  have hE0 : Ext w (w.alloc (.cells #[.slice lp B.length lc, .slice mp A.length mc] 34)) := (Ext.refl _).alloc _
  have hX : Blk (w.alloc (.cells #[.slice lp B.length lc, .slice mp A.length mc] 34)) w.heap.size 34 #[.slice lp B.length lc, .slice mp A.length mc] := Blk.new' rfl
  have hlf := loose_any (hB.ext hE0) nB sB
  rw [hb] at hlf
  have hla := fun u (hu : Ext w u) => loose_any (hA.ext hu) nA sA
  rw [hv] at hla
  replace hlf := Lib.hid hlf
  replace hla := Lib.hid hla
  clear hB hv hA hb
  go_enter Tryz.func33, Tryz.ntmps33
  go_wp2
  refine wp_loop_rounds 3 ?_
  rw [rounds_succ]
  go_wp2_with (first
    | (go_at_call 78; (with_reducible refine Calls.mono hlf.out ?_); rintro e w1 ⟨rfl, hb1⟩; have E1 := hE0.trans hb1; obtain ⟨y1, -⟩ := (hX.ext hb1).walk; have yl := (hX.ext hb1).lt))
  rw [rounds_succ]
  go_wp2_with (go_at_call 78; (with_reducible refine Calls.mono (hla.out _ E1) ?_); rintro e w2 ⟨rfl, hb2⟩)
  go_ret2
  exact ⟨rfl, E1.trans hb2⟩
end
end Go.Proofs.YtakfanmoepiagaaGreatDoor

namespace Go.Proofs.YtakfanmoepiagaaGreatDoor
open Go Go.RowKit

def fnL (l : List StandV) : ByteArray → Option StandV := l.foldl (fun f x => fun q => if q = x.name then some x else f q) (fun _ => none)
theorem fnL_nil : fnL [] = fun _ => none := rfl
theorem fnL_snoc (l : List StandV) (x : StandV) : fnL (l ++ [x]) = fun q => if q = x.name then some x else fnL l q := by unfold fnL; rw [List.foldl_append]; rfl
theorem fnL_take {B : List StandV} {k : Nat} {x : StandV} (h : B[k]? = some x) : fnL (B.take (k + 1)) = fun q => if q = x.name then some x else fnL (B.take k) q := by rw [take_snocL h, fnL_snoc]
theorem fnL_is (B : List StandV) (nm : ByteArray) : ∀ k, k ≤ B.length → (∀ y, fnL (B.take k) nm = some y → y ∈ B.take k ∧ y.name = nm) ∧ (fnL (B.take k) nm = none → nm ∉ namesS (B.take k))
  | 0, _ => by simp [fnL_nil, namesS]
  | k + 1, h => by
    obtain ⟨x, hx⟩ := getD_some (rfl : B.length = B.length) (show k < B.length by omega)
    obtain ⟨h1, h2⟩ := fnL_is B nm k (by omega)
    rw [fnL_take hx, take_snocL hx]
    dsimp only
    by_cases e : nm = x.name
    · rw [if_pos e]
      exact ⟨fun y hy => by cases hy; exact ⟨by simp, e.symm⟩, fun h => by cases h⟩
    · rw [if_neg e]
      refine ⟨fun y hy => ⟨List.mem_append.2 (.inl (h1 y hy).1), (h1 y hy).2⟩, fun h => ?_⟩
      have := h2 h
      unfold namesS at this ⊢
      rw [List.map_append, List.mem_append]
      simp only [List.map_cons, List.map_nil, List.mem_singleton, not_or]
      exact ⟨this, e⟩
theorem fn_some {B : List StandV} {x y : StandV} (hn : (namesS B).Nodup) (h : fnL B x.name = some y) : (B.any fun z => (z.name.toList == x.name.toList) && difS z x) = difS y x ∧ y.name = x.name := by
  have h1 := (fnL_is B x.name B.length (Nat.le_refl _)).1
  rw [List.take_length] at h1
  obtain ⟨hm, e⟩ := h1 y h
  obtain ⟨k, hk, ek⟩ := List.getElem_of_mem hm
  exact ⟨mov_found hn (by rw [List.getElem?_eq_getElem hk, ek]) e, e⟩
theorem fn_none {B : List StandV} {x : StandV} (h : fnL B x.name = none) : (B.any fun z => (z.name.toList == x.name.toList) && difS z x) = false := by
  have h1 := (fnL_is B x.name B.length (Nat.le_refl _)).2
  rw [List.take_length] at h1
  exact mov_none (h1 h)
theorem looseF_ok {S : List StandV} (h : looseF S = 0) : (namesS S).Nodup := by
  unfold looseF at h
  by_cases h3 : scanF S.length (chkL S) = 0
  · rw [if_pos h3] at h
    refine Classical.not_not.1 fun hn => ?_
    rw [dupB_iff.2 hn] at h
    cases h
  · rw [if_neg h3] at h
    exact absurd h h3
end Go.Proofs.YtakfanmoepiagaaGreatDoor
