/- A cell of an own row changes; two merges of the same slips are the same. Conditions: as each theorem says. Rows of pairs are overwritten: what lies elsewhere stays. Conditions: sizes; where the rows lie. Pairs are copied: slices.Clone at pairs. Conditions: sizes. -/
import Derived.Test.YtehboinleolihaaGreatDoorCzSkA
import Derived.Test.YtehboinleolihaaGreatDoorCzJ21
import Derived.Test.YtehboinleolihaaGreatDoorCzJ37
set_option linter.unusedSimpArgs false
set_option linter.unusedVariables false
namespace Go.Proofs.YtehboinleolihaaGreatDoor
open Go Go.RowKit
theorem own_walk {w : World} {base k n g c : Nat} {e : TypeId} {xs : List Value} (h : w.ownsRow base e k (.slice (some ⟨g, 0, none⟩) n c) n xs) : (∀ i, i < n * k → w.cell? ⟨g, i, none⟩ = xs[i]?) ∧ (∀ i, w.frozen? ⟨g, i, none⟩ = false) ∧ g < w.heap.size := by
 obtain ⟨hl, h⟩ := h
 rcases h with ⟨e, -⟩ | ⟨g', cap, cur, e, hb, hg, h1, h2, h3, h4⟩
 ·cases e
 ·cases e
  have hB : Blk w g e cur := hg
  refine ⟨fun i hi => ?_, hB.frozen, hB.lt⟩
  rw [hB.cell, ← h4, List.getElem?_take_of_lt hi, Array.getElem?_toList]
theorem Slc.setD {α : Type} {k : Nat} {enc : α → List Value} {w : World} {p : Option Addr} {n c : Nat} {xs : List α} (h : Slc k enc w p n c xs) {q : Addr} (hp : ∀ a, p = some a → a.block ≠ q.block) (u : Value) : Slc k enc (w.setCell q u) p n c xs := by
 obtain ⟨⟨h1, h2, h3⟩, h4, h5, h6⟩ := h
 refine ⟨⟨h1, h2, fun hn => ?_⟩, h4, h5, fun a ha => ?_⟩
 ·obtain ⟨b, off, e, hb, hE⟩ := h3 hn
  refine ⟨b, off, e, by simpa using hb, fun i x hx j v hv => ?_⟩
  exact (World.cell?_of_block (w := w) (a := ⟨b, off + i * k + j, none⟩) (Below.heap_setCell w q u b (hp _ e))).trans (hE i x hx j v hv)
 ·obtain ⟨b, off, e, hb⟩ := h6 a ha
  exact ⟨b, off, e, by simpa using hb⟩
theorem MrgR.row {A B : List SlipV} {w w' : World} {e : Ending} (h : MrgR A B w e w') (hl : A.length + B.length ≤ 1000) : ∃ (p : Option Addr) (c : Nat) (M : List SlipV) (f : Int), e = .returned (.tuple #[.slice p M.length c, .int .i64 f]) ∧ Slc 7 slipC w' p M.length c M ∧ MrgV A B M f ∧ M.length ≤ 1000 ∧ Ext w w' := by
 obtain ⟨v, M, f, rfl, ho, hv, hx⟩ := h
 have hM : M.length ≤ 1000 := by
  unfold MrgV at hv
  split at hv
  ·rw [hv.1]; simp
  split at hv
  ·rw [hv.1]; simp
  cases hm : mrgF [] (A ++ B) with
  | none => rw [hm] at hv; rw [hv.1]; simp
  | some o =>
    rw [hm] at hv
    obtain ⟨S, h1, h2, h3⟩ := hv
    obtain ⟨-, -, h5⟩ := mrg_mem _ _ _ hm List.Pairwise.nil
    have := h1.length_eq
    simp only [List.length_append, List.length_nil] at h5
    rcases h3 with ⟨-, rfl, -⟩ | ⟨-, rfl, -⟩
    ·omega
    ·simp
 obtain ⟨p, c, rfl, hS⟩ := slc_of_own slipC_len ho (by decide) (by omega)
 exact ⟨p, c, M, f, rfl, hS, hv, hM, hx⟩
end Go.Proofs.YtehboinleolihaaGreatDoor
namespace Go.Proofs.YtehboinleolihaaGreatDoor
open Go Go.RowKit
def spoiltP : ByteArray := ⟨#[115,112,111,105,108,116]⟩
/-- A row of pairs into which can be written. -/
def PairRow (w : World) (lo hi : Nat) (q : Option Addr) (n : Nat) : Prop := n = 0 ∨ ∃ g, q = some ⟨g, 0, none⟩ ∧ lo ≤ g ∧ g < hi ∧ (∀ o, w.frozen? ⟨g, o, none⟩ = false) ∧ ∀ o, o < n * 2 → ∃ s, w.cell? ⟨g, o, none⟩ = some (.string s)
theorem PairRow.set {w : World} {lo hi n : Nat} {q : Option Addr} (h : PairRow w lo hi q n) (a : Addr) (s : ByteArray) : PairRow (w.setCell a (.string s)) lo hi q n := by
 rcases h with h | ⟨g, h1, h2, h3, h4, h5⟩
 ·exact .inl h
 ·refine .inr ⟨g, h1, h2, h3, fun o => by rw [World.frozen?_setCell]; exact h4 o, fun o ho => ?_⟩
  obtain ⟨x, hx⟩ := h5 o ho
  by_cases e : a = ⟨g, o, none⟩
  ·subst e
   exact ⟨s, World.cell?_setCell_same _ _ _ hx⟩
  ·exact ⟨x, by rw [World.cell?_setCell_other _ _ _ _ e]; exact hx⟩
theorem PairRow.far {w : World} {lo hi n : Nat} {q : Option Addr} (h : PairRow w lo hi q n) {a : Addr} (ha : a.block < lo ∨ hi ≤ a.block) (u : Value) : PairRow (w.setCell a u) lo hi q n := by
 rcases h with h | ⟨g, h1, h2, h3, h4, h5⟩
 ·exact .inl h
 ·refine .inr ⟨g, h1, h2, h3, fun o => by rw [World.frozen?_setCell]; exact h4 o, fun o ho => ?_⟩
  obtain ⟨x, hx⟩ := h5 o ho
  refine ⟨x, ?_⟩
  rw [World.cell?_setCell_other _ _ _ _ (fun e => by subst e; simp only at ha; omega)]
  exact hx
theorem PairRow.ext {w v : World} {lo hi n : Nat} {q : Option Addr} (h : PairRow w lo hi q n) (he : Ext w v) (hh : hi ≤ w.heap.size) : PairRow v lo hi q n := by
 rcases h with h | ⟨g, h1, h2, h3, h4, h5⟩
 ·exact .inl h
 ·obtain ⟨hc, hf, -⟩ := he.walk
  refine .inr ⟨g, h1, h2, h3, fun o => (hf g o (by omega)).trans (h4 o), fun o ho => ?_⟩
  obtain ⟨x, hx⟩ := h5 o ho
  exact ⟨x, (hc g o (by omega)).trans hx⟩
theorem PairRow.of {w : World} {base n c : Nat} {q : Option Addr} {T : List (ByteArray × ByteArray)} (h : w.ownsRow base 77 2 (.slice q n c) n (T.flatMap lpC)) : PairRow w base w.heap.size q n := by
 rcases Nat.eq_zero_or_pos n with h0 | h0
 ·exact .inl h0
 obtain ⟨g, cap, hv, hg, hgl⟩ := h.form h0
 cases hv
 obtain ⟨k1, k2, k3⟩ := own_walk h
 refine .inr ⟨g, rfl, hg, hgl, k2, fun o ho => ?_⟩
 have hl : (T.flatMap lpC).length = n * 2 := h.1
 have h2 : ∀ (l : List (ByteArray × ByteArray)) (x : Value), x ∈ l.flatMap lpC → ∃ s, x = .string s := fun l x hx => by
  obtain ⟨y, -, hy⟩ := List.mem_flatMap.1 hx
  unfold lpC at hy
  simp only [List.mem_cons, List.not_mem_nil, or_false] at hy
  rcases hy with e | e
  ·exact ⟨_, e⟩
  ·exact ⟨_, e⟩
 have h3 : (T.flatMap lpC)[o]? = some ((T.flatMap lpC)[o]'(by omega)) := List.getElem?_eq_getElem (by omega)
 obtain ⟨s, hs⟩ := h2 T _ (List.getElem_mem (show o < (T.flatMap lpC).length by omega))
 exact ⟨s, by rw [k1 o ho, h3, hs]⟩
set_option maxRecDepth 100000 in
set_option maxHeartbeats 3200000 in
theorem spoil3_any (f : Nat → Option Addr × Nat × Nat) (gb : Nat) (lo hi : Nat → Nat) (pa pb : Option Addr) (na ca nb cb : Nat) (A B : List (ByteArray × ByteArray)) (w0 w : World) (hB : Blk w gb 70 #[.slice (f 0).1 (f 0).2.1 (f 0).2.2, .slice (f 1).1 (f 1).2.1 (f 1).2.2, .slice (f 2).1 (f 2).2.1 (f 2).2.2])
 (hR : ∀ i, i < 3 → PairRow w (lo i) (hi i) (f i).1 (f i).2.1) (hgb : ∀ i, i < 3 → hi i ≤ gb) (hlo : ∀ i, i < 3 → w0.heap.size ≤ lo i) (hA : Slc 2 lpC w pa na ca A) (hBs : Slc 2 lpC w pb nb cb B) (hna : ∀ i, i < 3 → ∀ a, pa = some a → a.block < lo i ∨ hi i ≤ a.block) (hnb : ∀ i, i < 3 → ∀ a, pb = some a → a.block < lo i ∨ hi i ≤ a.block) (hE : Ext w0 w) (hn : ∀ i, i < 3 → (f i).2.1 ≤ 100000) :
 Calls Tryz.prog 63 #[.slice (some ⟨gb, 0, none⟩) 3 3] w fun e w' => e = .returned (.tuple #[]) ∧ Ext w0 w' ∧ Slc 2 lpC w' pa na ca A ∧ Slc 2 lpC w' pb nb cb B := by
 replace hgb := Lib.hid hgb; replace hlo := Lib.hid hlo; replace hna := Lib.hid hna; replace hnb := Lib.hid hnb; replace hn := Lib.hid hn; replace hR := Lib.hid hR; replace hA := Lib.hid hA; replace hBs := Lib.hid hBs; replace hB := Lib.hid hB
 go_enter Tryz.func63, Tryz.ntmps63
 go_wp2
 go_loopw [7] (fun v7 wr => ∃ i : Nat, v7 = .int .i64 i ∧ i ≤ 3 ∧ (∀ i, i < 3 → PairRow wr (lo i) (hi i) (f i).1 (f i).2.1) ∧ Blk wr gb 70 #[.slice (f 0).1 (f 0).2.1 (f 0).2.2, .slice (f 1).1 (f 1).2.1 (f 1).2.2, .slice (f 2).1 (f 2).2.1 (f 2).2.2] ∧ Slc 2 lpC wr pa na ca A ∧ Slc 2 lpC wr pb nb cb B ∧ Ext w0 wr) (fun v7 _ => 3 - (intOf v7).toNat)
 case atStart => exact ⟨0, rfl, by omega, hR.out, hB.out, hA.out, hBs.out, hE⟩
 case round =>
  clear hR hB hA hBs hE
  obtain ⟨i, rfl, hi3, hR, hB, hA, hBs, hE⟩ := hrel
  by_cases h3 : i < 3
  ·obtain ⟨q, n, d, hf⟩ : ∃ q n d, f i = (q, n, d) := ⟨_, _, _, rfl⟩
   have y1 : wr.cell? ⟨gb, i, none⟩ = some (.slice q n d) := by
    have h9 := hB.cell i
    rcases (by omega : i = 0 ∨ i = 1 ∨ i = 2) with rfl | rfl | rfl
    ·rw [hf] at h9; exact h9
    ·rw [hf] at h9; exact h9
    ·rw [hf] at h9; exact h9
   have y2 : wr.frozen? ⟨gb, i, none⟩ = false := hB.frozen i
   have y3 := hB.lt
   have hnn := hn.out i h3
   have hgi := hgb.out i h3
   have hli := hlo.out i h3
   have hai := hna.out i h3
   have hbi := hnb.out i h3
   rw [hf] at hnn
   simp only at hnn
   have hiI : (i : Int) < 3 := by omega
   replace hR := Lib.hid hR; replace hA := Lib.hid hA; replace hBs := Lib.hid hBs; replace hB := Lib.hid hB; replace hf := Lib.hid hf; replace hai := Lib.hid hai; replace hbi := Lib.hid hbi
   go_upto_region 4 with fail
   generalize wr = W9 at *
   go_loopw [13] (fun v13 wr => ∃ k : Nat, v13 = .int .i64 k ∧ k ≤ n ∧ (∀ i, i < 3 → PairRow wr (lo i) (hi i) (f i).1 (f i).2.1) ∧ Blk wr gb 70 #[.slice (f 0).1 (f 0).2.1 (f 0).2.2, .slice (f 1).1 (f 1).2.1 (f 1).2.2, .slice (f 2).1 (f 2).2.1 (f 2).2.2] ∧ Slc 2 lpC wr pa na ca A ∧ Slc 2 lpC wr pb nb cb B ∧ Ext w0 wr) (fun v13 _ => n - (intOf v13).toNat)
   case atStart => exact ⟨0, rfl, Nat.zero_le _, hR.out, hB.out, hA.out, hBs.out, hE⟩
   case round =>
    clear hR hB hE y1 y2 y3 hA hBs
    obtain ⟨k, rfl, hk, hR, hB, hA, hBs, hE⟩ := hrel
    by_cases hlt : k < n
    ·have hri := hR i h3
     rw [hf.out] at hri
     simp only at hri
     rcases hri with h0 | ⟨g, rfl, hg1, hg2, z0, hcs⟩
     ·omega
     obtain ⟨s0, c0⟩ := hcs (k * 2) (by omega)
     obtain ⟨s1, c1⟩ := hcs (k * 2 + 1) (by omega)
     have hgg : gb ≠ g := by omega
     have hE2 := (hE.setCell (p := ⟨g, k * 2, none⟩) (by simp only; omega) (.string spoiltP)).setCell (p := ⟨g, k * 2 + 1, none⟩) (by simp only; omega) (.string spoiltP)
     have hB2 := (hB.far (p := ⟨g, k * 2, none⟩) hgg (.string spoiltP)).far (p := ⟨g, k * 2 + 1, none⟩) hgg (.string spoiltP)
     have hR2 : ∀ i, i < 3 → PairRow ((wr.setCell ⟨g, k * 2, none⟩ (.string spoiltP)).setCell ⟨g, k * 2 + 1, none⟩ (.string spoiltP)) (lo i) (hi i) (f i).1 (f i).2.1 := fun j hj => ((hR j hj).set _ _).set _ _
     have hA2 := (hA.setD (q := ⟨g, k * 2, none⟩) (fun a ha => by have := hai.out a ha; simp only; omega) (.string spoiltP)).setD (q := ⟨g, k * 2 + 1, none⟩) (fun a ha => by have := hai.out a ha; simp only; omega) (.string spoiltP)
     have hBs2 := (hBs.setD (q := ⟨g, k * 2, none⟩) (fun a ha => by have := hbi.out a ha; simp only; omega) (.string spoiltP)).setD (q := ⟨g, k * 2 + 1, none⟩) (fun a ha => by have := hbi.out a ha; simp only; omega) (.string spoiltP)
     have hkI : (k : Int) < n := by omega
     replace hR2 := Lib.hid hR2; replace hB2 := Lib.hid hB2; replace hA2 := Lib.hid hA2; replace hBs2 := Lib.hid hBs2; clear hR hB hA hBs hcs
     go_wp2
     go_roundw
     case rel => exact ⟨k + 1, by go_num, by omega, hR2.out, hB2.out, hA2.out, hBs2.out, hE2⟩
     case measure => simp [intOf]; omega
    ·obtain rfl : k = n := by omega
     replace hR := Lib.hid hR; replace hB := Lib.hid hB; replace hA := Lib.hid hA; replace hBs := Lib.hid hBs
     go_wp2
     go_roundw
     case rel => exact ⟨i + 1, by go_num, by omega, hR.out, hB.out, hA.out, hBs.out, hE⟩
     case measure => simp [intOf]; omega
  ·obtain rfl : i = 3 := by omega
   rw [show ((3 : Nat) : Int) = 3 from rfl]
   go_wp2
   refine bodyPost_end (results_none rfl _ _ _) rfl ?_
   exact ⟨rfl, hE, hA, hBs⟩
end Go.Proofs.YtehboinleolihaaGreatDoor
namespace Go.Proofs.YtehboinleolihaaGreatDoor
open Go Go.RowKit
theorem pair_flat_len : ∀ (xs : List (ByteArray × ByteArray)), (xs.flatMap lpC).length = xs.length * 2
 | [] => rfl
 | x :: l => by rw [List.flatMap_cons, List.length_append, pair_flat_len l, lpC_len, List.length_cons]; omega
theorem clonePair_any (p : Option Addr) (n c : Nat) (xs : List (ByteArray × ByteArray)) (w : World) (h : Slc 2 lpC w p n c xs) (hn : n ≤ 100000) :
 Calls Tryz.prog 62 #[.slice p n c] w fun e w' => ∃ v, e = .returned v ∧ w'.ownsRow w.heap.size 77 2 v n (xs.flatMap lpC) ∧ Ext w w' := by
 obtain ⟨hS, hnc, hp0, hp⟩ := h
 cases p with
 | none =>
   obtain rfl := hp0 rfl
   have hx : xs = [] := List.eq_nil_of_length_eq_zero hS.1
   subst hx
   exact (AnyE.slices_Clone_nil Tryz.lecPair 0 c w).mono fun e w' ⟨he, hw⟩ => by
    subst hw
    exact ⟨_, he, World.ownsRow_nil _ _ _ _, Ext.refl _⟩
 | some a =>
   obtain ⟨b, off, rfl, hb⟩ := hp a rfl
   obtain ⟨i0, hi, hz0, hz1, hz2⟩ := info_parts (P := Tryz.prog) (e := 77) (z := .agg #[.string ⟨#[]⟩, .string ⟨#[]⟩]) (size := 2) (bytes := 32) (by kernel_rfl)
   refine (AnyE.slices_Clone Tryz.lecPair i0 _ 2 32 hi hz0 hz1 hz2 rfl (by decide) Tryz.sizeOf77 b off n c (xs.flatMap lpC) w (by rw [pair_flat_len, hS.1]) (by unfold maxLen; omega) (by omega) (fun j u hj => ?_) (fun u hu => ?_)).mono fun e w' ⟨v', he, ho, _, hb'⟩ => ⟨v', he, ho, hb'⟩
   ·have hj' : j < xs.length * 2 := by rw [← pair_flat_len]; exact (List.getElem?_eq_some_iff.1 hj).1
    have hn0 : n ≠ 0 := by have := hS.1; omega
    obtain ⟨b', off', hpe, hb', hE⟩ := hS.2.2 hn0
    cases hpe
    obtain ⟨x, hx⟩ : ∃ x, xs[j / 2]? = some x := ⟨_, List.getElem?_eq_getElem (by omega)⟩
    have hjm : j % 2 < 2 := Nat.mod_lt _ (by omega)
    obtain ⟨u', hu'⟩ : ∃ u', (lpC x)[j % 2]? = some u' := ⟨_, List.getElem?_eq_getElem (by rw [lpC_len]; exact hjm)⟩
    have h1 := flat_at lpC_len xs (j / 2) x hx (j % 2) u' hu'
    have e5 : j / 2 * 2 + j % 2 = j := by omega
    rw [e5, hj] at h1
    cases h1
    have h2 := hE (j / 2) x hx (j % 2) u hu'
    rw [Nat.add_assoc, e5] at h2
    exact h2
   ·obtain ⟨x, _, hu⟩ := List.mem_flatMap.1 hu
    exact lpC_one x u hu
end Go.Proofs.YtehboinleolihaaGreatDoor
