/- Right slips that the stream makes; texts of slips that it changes. Conditions: sizes. The stream of numbers, told exactly: what each function answers is told by the list and by how many numbers were handed out. Conditions: as each theorem says. -/
import Derived.Test.YtehboinleolihaaGreatDoorCzSlK
import Derived.Test.YtehboinleolihaaGreatDoorCzTxF
import Derived.Test.YtehboinleolihaaGreatDoorCzJ4
set_option linter.unusedSimpArgs false
set_option linter.unusedVariables false
namespace Go.Proofs.YtehboinleolihaaGreatDoor
open Go Go.RowKit
end Go.Proofs.YtehboinleolihaaGreatDoor
namespace Go.Proofs.YtehboinleolihaaGreatDoor
open Go Go.RowKit
/-- The numbers behind a stream. -/
def LstL (w : World) (s : Nat) (p : Option Addr) (L : List Int) : Prop :=
 L.length ≤ 9223372036854775807 ∧ (∀ x ∈ L, -9223372036854775808 ≤ x ∧ x ≤ 9223372036854775807) ∧ (L.length ≠ 0 → ∃ B off, p = some ⟨B, off, none⟩ ∧ B < s ∧ ∀ i, i < L.length → w.cell? ⟨B, off + i, none⟩ = some (.int .i64 (L.getD i 0)))
theorem LstL.low {s : Nat} {w w' : World} {p : Option Addr} {L : List Int} (h : LstL w s p L) (he : ∀ j, j < s → w'.heap[j]? = w.heap[j]?) : LstL w' s p L := by
 refine ⟨h.1, h.2.1, fun hn => ?_⟩
 obtain ⟨B, off, hp, hB, hc⟩ := h.2.2 hn
 exact ⟨B, off, hp, hB, fun i hi => (World.cell?_of_block (w := w) (a := ⟨B, off + i, none⟩) (he B hB)).trans (hc i hi)⟩
theorem lst_list {w : World} {s : Nat} {p : Option Addr} {n : Nat} (h : Lst w s p n) : ∃ L : List Int, L.length = n ∧ LstL w s p L := by
 obtain ⟨h1, h2⟩ := h
 by_cases hn : n = 0
 ·subst hn
  exact ⟨[], rfl, by simp, by simp, by simp⟩
 ·obtain ⟨B, off, hp, hB, hc⟩ := h2 hn
  have key : ∀ k, k ≤ n → ∃ L : List Int, L.length = k ∧ (∀ x ∈ L, -9223372036854775808 ≤ x ∧ x ≤ 9223372036854775807) ∧ ∀ i, i < k → w.cell? ⟨B, off + i, none⟩ = some (.int .i64 (L.getD i 0)) := by
   intro k
   induction k with
   | zero => exact fun _ => ⟨[], rfl, by simp, fun i hi => by omega⟩
   | succ k ih =>
     intro hk
     obtain ⟨L, e, hr, hL⟩ := ih (by omega)
     obtain ⟨x, hx, x1, x2⟩ := hc k (by omega)
     refine ⟨L ++ [x], by simp [e], fun y hy => ?_, fun i hi => ?_⟩
     ·rcases List.mem_append.1 hy with h | h
      ·exact hr y h
      ·obtain rfl : y = x := by simpa using h
       exact ⟨x1, x2⟩
     ·rcases Nat.lt_or_ge i k with h | h
      ·rw [hL i h]; simp [List.getD_eq_getElem?_getD, List.getElem?_append_left (show i < L.length by omega)]
      ·obtain rfl : i = k := by omega
       rw [hx]; simp [List.getD_eq_getElem?_getD, ← e]
  obtain ⟨L, e, hr, hL⟩ := key n (Nat.le_refl _)
  exact ⟨L, e, by omega, hr, fun _ => ⟨B, off, hp, hB, fun i hi => hL i (by omega)⟩⟩
/-- Where the numbers of a stream come from: the list, and a bound below which it lies. -/
structure Src where
 xs : List Int
 low : Nat
/-- A stream that has handed out a numbers of L. -/
def StrL (w : World) (s : Nat) (L : Src) (a : Nat) : Prop :=
 L.low ≤ s ∧ ∃ (p : Option Addr) (c : Nat), Blk w s 25 #[.slice p L.xs.length c, .int .i64 a] ∧ LstL w L.low p L.xs
theorem StrL.lt {w : World} {s a : Nat} {L : Src} (h : StrL w s L a) : s < w.heap.size := by
 obtain ⟨_, p, c, hb, hl⟩ := h
 exact hb.lt
theorem StrL.low {w w' : World} {s a : Nat} {L : Src} (h : StrL w s L a) (he : ∀ j, j ≤ s → w'.heap[j]? = w.heap[j]?) : StrL w' s L a := by
 obtain ⟨h0, p, c, hb, hl⟩ := h
 exact ⟨h0, p, c, (he s (Nat.le_refl _)).trans hb, hl.low fun j hj => he j (by omega)⟩
theorem StrL.ext {w w' : World} {s a : Nat} {L : Src} (h : StrL w s L a) (he : Ext w w') : StrL w' s L a := h.low fun j hj => he.block j (Nat.lt_of_le_of_lt hj h.lt)
theorem StrL.set {w : World} {s a : Nat} {L : Src} (h : StrL w s L a) {p : Addr} (hp : s < p.block) (u : Value) : StrL (w.setCell p u) s L a := h.low fun j hj => Below.heap_setCell w p u j (by omega)
theorem StrL.app {s a : Nat} {L : Src} {b c : World} {base : Nat} {e : TypeId} {k n : Nat} {v : Value} {xs : List Value} (h : StrL b s L a) (ho : b.ownsRow base e k v n xs) (hs : s < base) (hg : b.grownBy c v.ownBlock) : StrL c s L a :=
 h.low fun j hj => hg.block j (Nat.lt_of_le_of_lt hj h.lt) fun hv => by have := (ho.lt j hv.symm).1; omega
theorem StrL.grown {s a : Nat} {L : Src} {b c : World} {r : Option Nat} (h : StrL b s L a) (hg : b.grownBy c r) (hr : ∀ g, r = some g → s < g) : StrL c s L a :=
 h.low fun j hj => hg.block j (Nat.lt_of_le_of_lt hj h.lt) fun e => by have := hr j e.symm; omega
theorem StrL.at {w : World} {s a a' : Nat} {L : Src} (h : StrL w s L a) (e : a = a') : StrL w s L a' := e ▸ h
/-- A stream that changes leaves another one. -/
theorem StrL.other {w w' : World} {s s2 a : Nat} {L : Src} (h : StrL w s L a) (he : ExtS s2 w w') (hs : s2 ≠ s) (hl : L.low ≤ s2) : StrL w' s L a := by
 obtain ⟨h0, p, c, hb, h1, h2, h3⟩ := h
 refine ⟨h0, p, c, hb.extS (fun e => hs e.symm) he, h1, h2, fun hn => ?_⟩
 obtain ⟨B, off, hp, hlt, hc⟩ := h3 hn
 exact ⟨B, off, hp, hlt, fun i hi => (he.cell (by have := hb.lt; omega) (by omega) _).trans (hc i hi)⟩
def nxF (L : Src) (a m : Nat) : Nat :=
 (belF (if L.xs.length = 0 then ((a : Int) + 1) * 7919 else belF (L.xs.getD (a % L.xs.length) 0) 1073741824 + ((a / L.xs.length : Nat) : Int) * (7919 + ((a % L.xs.length : Nat) : Int))) m).toNat
theorem nxF_lt (L : Src) (a m : Nat) (h : 1 ≤ m) : nxF L a m < m := by
 unfold nxF
 have := belF_range (if L.xs.length = 0 then ((a : Int) + 1) * 7919 else belF (L.xs.getD (a % L.xs.length) 0) 1073741824 + ((a / L.xs.length : Nat) : Int) * (7919 + ((a % L.xs.length : Nat) : Int))) m (by omega)
 omega
set_option maxRecDepth 100000 in
theorem next_det (s a m : Nat) (L : Src) (w : World) (hk : a ≤ 1000000) (hm : 1 ≤ m) (hm' : m ≤ 1000000000) (h : StrL w s L a) :
 Calls Tryz.prog 81 #[.pointer (some ⟨s, 0, none⟩), .int .i64 m] w fun e w' => e = .returned (.int .i64 (nxF L a m : Nat)) ∧ StrL w' s L (a + 1) ∧ ExtS s w w' := by
 obtain ⟨hlow, p, c, hb, hl⟩ := h
 have hlen : L.xs.length ≤ 9223372036854775807 := hl.1
 have hF : nxF L a m = (belF (if L.xs.length = 0 then ((a : Int) + 1) * 7919 else belF (L.xs.getD (a % L.xs.length) 0) 1073741824 + ((a / L.xs.length : Nat) : Int) * (7919 + ((a % L.xs.length : Nat) : Int))) m).toNat := rfl
 have he0 : ExtS s w (w.setCell ⟨s, 1, none⟩ (.int .i64 ((a : Int) + 1))) := (ExtS.refl s w).setCell (.inl rfl) _
 have hS0 : StrL (w.setCell ⟨s, 1, none⟩ (.int .i64 ((a : Int) + 1))) s L (a + 1) := ⟨hlow, p, c, hb.set_ 1 _, hl.low fun j hj => Below.heap_setCell w _ _ j (Nat.ne_of_lt (Nat.lt_of_lt_of_le hj hlow))⟩
 generalize hn0 : L.xs.length = n at *
 obtain ⟨p1, p2⟩ := hb.walk
 by_cases hn : n = 0
 ·subst hn
  rw [if_pos rfl] at hF
  have hr := belF_range (((a : Int) + 1) * 7919) m (by omega)
  have he := he0
  have hS' := Lib.hid hS0
  clear hS0 hl hb he0 hlow; replace he := Lib.hid he
  generalize hB : belF (((a : Int) + 1) * 7919) m = v at hr hF
  replace hB := Lib.hid hB; replace hF := Lib.hid hF; replace hn0 := Lib.hid hn0
  go_enter Tryz.func81, Tryz.ntmps81
  go_wp2_with (go_at_call 166; refine (below_any (((a : Int) + 1) * 7919) m _ (by omega) (by omega) (by omega) (by omega)).mono ?_; rintro e w' ⟨rfl, rfl⟩)
  go_ret
  exact ⟨ret_int (by rw [hB.out, hF.out]; omega), hS'.out, he.out⟩
 ·rw [if_neg hn] at hF
  obtain ⟨B, off, rfl, hBs, hc⟩ := hl.2.2 (by omega)
  replace hBs : B < s := Nat.lt_of_lt_of_le hBs hlow
  clear hlow
  have hlt := Nat.lt_trans hBs hb.lt
  have hB := Nat.ne_of_lt hBs
  clear hBs
  have hnn := hl.1
  have hix : a % n < n := Nat.mod_lt _ (by omega)
  have hdv : a / n ≤ a := Nat.div_le_self _ _
  have hx := hc (a % n) (by omega)
  obtain ⟨hx1, hx2⟩ := hl.2.1 (L.xs.getD (a % n) 0) (by rw [List.getD_eq_getElem?_getD, List.getElem?_eq_getElem (show a % n < L.xs.length by omega)]; exact List.getElem_mem _)
  generalize L.xs.getD (a % n) 0 = x at *
  have hb1 : Blk (w.setCell ⟨s, 1, none⟩ (.int .i64 ((a : Int) + 1))) s 25 #[.slice (some ⟨B, off, none⟩) n c, .int .i64 ((a : Int) + 1)] := hb.set_ 1 _
  have hX : (w.setCell ⟨s, 1, none⟩ (.int .i64 ((a : Int) + 1))).cell? ⟨B, off + a % n, none⟩ = some (.int .i64 x) := (he0.cell hlt hB _).trans hx
  have hL : B < (w.setCell ⟨s, 1, none⟩ (.int .i64 ((a : Int) + 1))).heap.size := by simpa using hlt
  have hS' := Lib.hid hS0
  clear hS0 hl hb hc hx
  have he' := Lib.hid he0
  clear he0; replace hL := Lib.hid hL; replace hX := Lib.hid hX; replace hb1 := Lib.hid hb1; replace hF := Lib.hid hF; replace hn0 := Lib.hid hn0
  go_enter Tryz.func81, Tryz.ntmps81
  go_wp2
  generalize hW : w.setCell ⟨s, 1, none⟩ (.int .i64 ((a : Int) + 1)) = W at *
  clear p1 p2
  have hb2 := hb1.out
  refine wp_region_planS [(0, true), (1, true), (2, true), (3, true), (4, true), (5, true), (6, true), (7, true), (8, true), (9, true), (10, true), (11, true)] 12 (fun w' => Blk w' s 25 #[.slice (some ⟨B, off, none⟩) n c, .int .i64 ((a : Int) + 1)] ∧ Ext W w') Ext (by kernel_rfl) (by kernel_rfl) Ext.refl (fun _ _ _ => Ext.trans) (fun _ _ h he => ⟨h.1.ext he, h.2.trans he⟩) ⟨(by (repeat (with_reducible first | assumption | exact Blk.new' (by simp) | refine Blk.drew ?_ | refine Blk.alloc ?_ _ | exact Ext.refl _ | refine Ext.drew ?_ | refine Ext.alloc ?_ _))), (by (repeat (with_reducible first | assumption | exact Blk.new' (by simp) | refine Blk.drew ?_ | refine Blk.alloc ?_ _ | exact Ext.refl _ | refine Ext.drew ?_ | refine Ext.alloc ?_ _)))⟩ ?_
  repeat
   first
    | (refine plan_quiet rfl rfl (fun _ _ _ _ h => h) ?_
       apply Exists.intro
       refine ⟨fun w' hw' => ?_, ?_⟩
       ·obtain ⟨hH0, hH1⟩ := hw'
        unfold Blk at hH0
        simp [go_sem, quietTo, World.cell?, hH0, Ext.refl, ↓IntWalk.iteOmega, hn]
        first
         | rfl
       simp only [Act.put, sIA, sCS, sCZ])
    | (refine plan_skip rfl rfl (fun _ _ _ _ h => h) ?_
       simp only [Act.put, sIA, sCS, sCZ])
  refine plan_nil fun wr her hwr => ?_
  clear her
  obtain ⟨hH0, hH1⟩ := hwr
  obtain ⟨hC0, hF0⟩ := hH0.walk
  simp only [List.drop_succ_cons, List.drop_zero, List.drop_nil]
  go_wp2
  refine wp_region_planS [(0, true), (1, true), (2, true), (3, true), (4, true), (5, true), (6, true), (7, true), (8, true), (9, true), (10, true), (11, true)] 12 (fun w' => Blk w' s 25 #[.slice (some ⟨B, off, none⟩) n c, .int .i64 ((a : Int) + 1)] ∧ Ext W w') Ext (by kernel_rfl) (by kernel_rfl) Ext.refl (fun _ _ _ => Ext.trans) (fun _ _ h he => ⟨h.1.ext he, h.2.trans he⟩) ⟨(by (repeat (with_reducible first | assumption | exact Blk.new' (by simp) | refine Blk.drew ?_ | refine Blk.alloc ?_ _ | exact Ext.refl _ | refine Ext.drew ?_ | refine Ext.alloc ?_ _))), (by (repeat (with_reducible first | assumption | exact Blk.new' (by simp) | refine Blk.drew ?_ | refine Blk.alloc ?_ _ | exact Ext.refl _ | refine Ext.drew ?_ | refine Ext.alloc ?_ _)))⟩ ?_
  repeat
   first
    | (refine plan_quiet rfl rfl (fun _ _ _ _ h => h) ?_
       apply Exists.intro
       refine ⟨fun w' hw' => ?_, ?_⟩
       ·obtain ⟨hH20, hH21⟩ := hw'
        unfold Blk at hH20
        simp [go_sem, quietTo, World.cell?, hH20, Ext.refl, ↓IntWalk.iteOmega, hn]
        first
         | rfl
       simp only [Act.put, sIA, sCS, sCZ])
    | (refine plan_skip rfl rfl (fun _ _ _ _ h => h) ?_
       simp only [Act.put, sIA, sCS, sCZ])
  refine plan_nil fun wr2 her2 hwr2 => ?_
  clear her2
  obtain ⟨hH20, hH21⟩ := hwr2
  obtain ⟨hC20, hF20⟩ := hH20.walk
  simp only [List.drop_succ_cons, List.drop_zero, List.drop_nil]
  clear hC0 hF0
  obtain ⟨sB, fB⟩ := hH20.walk
  have hwa : IntKind.i64.wrap (a : Int) = a := IntWalk.i64_in _ (by omega)
  have hmo : (a : Int).tmod n = ((a % n : Nat) : Int) := (Int.ofNat_tmod a n).symm
  have hdi : (a : Int).tdiv n = ((a / n : Nat) : Int) := (Int.ofNat_tdiv a n).symm
  have hwd : IntKind.i64.wrap ((a / n : Nat) : Int) = ((a / n : Nat) : Int) := IntWalk.i64_in _ (by generalize a / n = r at hdv ⊢; omega)
  rw [hwa, hmo, hdi, hwd]
  clear hwa hmo hdi hwd
  have hxw : wr2.cell? ⟨B, off + a % n, none⟩ = some (.int .i64 x) := (hH21.extS.cell (s := s) hL.out hB _).trans hX.out
  have hia : a % n ≤ a := Nat.mod_le _ _
  clear hL hX
  have hSS : StrL wr2 s L (a + 1) := hS'.out.ext hH21
  have hEE : ExtS s w wr2 := he'.out.ext hH21
  clear hS' he' hH21 hH20 hb1 hb2; replace hSS := Lib.hid hSS; replace hEE := Lib.hid hEE
  generalize a % n = i at *
  generalize a / n = r at *
  have hmu : r * (7919 + i) ≤ 1000000 * 1007919 := Nat.mul_le_mul (by omega) (by omega)
  have hm0 : 0 ≤ (r : Int) * (7919 + (i : Int)) := Int.mul_nonneg (by omega) (by omega)
  have hm1 : (r : Int) * (7919 + (i : Int)) ≤ 1000000 * 1007919 := by
   have : ((r * (7919 + i) : Nat) : Int) = (r : Int) * (7919 + (i : Int)) := by simp
   omega
  have hu := belF_range x 1073741824 (by omega)
  have hv := belF_range (belF x 1073741824 + (r : Int) * (7919 + (i : Int))) m (by omega)
  clear hmu
  have hw1 : wrap64 ((r : Int) * (7919 + (i : Int))) = (r : Int) * (7919 + (i : Int)) := IntWalk.wrap64_in _ ⟨Int.le_trans (by decide) hm0, Int.le_trans hm1 (by decide)⟩
  obtain ⟨rr, hrr⟩ : ∃ q, (r : Int) * (7919 + (i : Int)) = q := ⟨_, rfl⟩
  have hF' := hF.out
  clear hF
  rw [hrr] at hm0 hm1 hv hF'
  replace hF := Lib.hid hF'; clear hF'
  replace hw1 := Lib.hid (hw1.trans hrr)
  clear hrr
  have hw2 : wrap64 (belF x 1073741824 + rr) = belF x 1073741824 + rr := IntWalk.wrap64_in _ (by omega)
  replace hw2 := Lib.hid hw2
  go_wp2_with (first | (go_at_call 166; rw [hw1.out, hw2.out]; refine (below_any _ _ _ (by omega) (by omega) (by omega) (by omega)).mono ?_; rintro e w' ⟨rfl, rfl⟩) | (go_at_call 166; with_reducible refine Calls.mono (below_any x 1073741824 _ (by omega) (by omega) (by omega) (by omega)) ?_; rintro e w' ⟨rfl, rfl⟩))
  go_ret
  exact ⟨ret_int (by rw [hF.out]; omega), hSS.out, hEE.out⟩
def flF (L : Src) (a m : Nat) : Bool := decide (nxF L a m = 0)
def rgF (L : Src) (a : Nat) (lo hi : Int) : Int := lo + (nxF L a (hi - lo + 1).toNat : Int)
theorem rgF_in {L : Src} {a : Nat} {lo hi : Int} (h : lo ≤ hi) : lo ≤ rgF L a lo hi ∧ rgF L a lo hi ≤ hi := by
 have := nxF_lt L a (hi - lo + 1).toNat (by omega)
 unfold rgF
 omega
def pkF (L : Src) (a : Nat) (xs : List Int) : Int := xs.getD (nxF L a xs.length) 0
def smF (L : Src) (a : Nat) (xs : List ByteArray) : ByteArray := xs.getD (nxF L a xs.length) ⟨#[]⟩
theorem pkF_mem {L : Src} {a : Nat} {xs : List Int} (h : 1 ≤ xs.length) : pkF L a xs ∈ xs := by
 unfold pkF
 rw [List.getD_eq_getElem?_getD, List.getElem?_eq_getElem (nxF_lt L a _ h)]
 exact List.getElem_mem _
theorem smF_mem {L : Src} {a : Nat} {xs : List ByteArray} (h : 1 ≤ xs.length) : smF L a xs ∈ xs := by
 unfold smF
 rw [List.getD_eq_getElem?_getD, List.getElem?_eq_getElem (nxF_lt L a _ h)]
 exact List.getElem_mem _
theorem pkF_in {L : Src} {a : Nat} {xs : List Int} {lo hi : Int} (h : 1 ≤ xs.length) (hx : ∀ y ∈ xs, lo ≤ y ∧ y ≤ hi) : lo ≤ pkF L a xs ∧ pkF L a xs ≤ hi := hx _ (pkF_mem h)
set_option maxRecDepth 100000 in
theorem flip_det (s a m : Nat) (L : Src) (w : World) (hk : a ≤ 1000000) (hm : 1 ≤ m) (hm' : m ≤ 1000000) (h : StrL w s L a) :
 Calls Tryz.prog 46 #[.pointer (some ⟨s, 0, none⟩), .int .i64 m] w fun e w' => e = .returned (.bool (flF L a m)) ∧ StrL w' s L (a + 1) ∧ ExtS s w w' := by
 have hF : flF L a m = decide ((nxF L a m : Int) = 0) := by unfold flF; simp
 go_enter Tryz.func46, Tryz.ntmps46
 generalize hv : nxF L a m = v at hF
 replace hF := Lib.hid hF
 go_wp2_with (go_at_call 81; refine (next_det s a m L _ hk hm (by omega) h).mono ?_; rintro e w1 ⟨rfl, hS, hE⟩; rw [hv])
 go_ret
 exact ⟨ret_bool (by rw [hF.out]; exact (show ((v : Int) == 0) = decide ((v : Int) = 0) from rfl)), hS, hE⟩
set_option maxRecDepth 100000 in
theorem range_det (s a : Nat) (lo hi : Int) (L : Src) (w : World) (hk : a ≤ 1000000) (hl : lo ≤ hi) (h0 : -1000000 ≤ lo) (h1 : hi ≤ 1000000000) (hd : hi - lo < 1000000000) (h : StrL w s L a) :
 Calls Tryz.prog 45 #[.pointer (some ⟨s, 0, none⟩), .int .i64 lo, .int .i64 hi] w fun e w' => e = .returned (.int .i64 (rgF L a lo hi)) ∧ StrL w' s L (a + 1) ∧ ExtS s w w' := by
 obtain ⟨m, hm⟩ : ∃ m : Nat, hi - lo + 1 = m := ⟨(hi - lo + 1).toNat, by omega⟩
 have hN := next_det s a m L w hk (by omega) (by omega) h
 have hv := nxF_lt L a m (by omega)
 have hF : rgF L a lo hi = lo + (nxF L a m : Int) := by unfold rgF; rw [hm, Int.toNat_natCast]
 generalize nxF L a m = v at *
 replace hN := Lib.hid hN; replace hF := Lib.hid hF
 go_enter Tryz.func45, Tryz.ntmps45
 go_wp2_with (go_at_call 81; with_reducible refine Calls.mono hN.out ?_; rintro e w1 ⟨rfl, hS, hE⟩)
 go_ret
 exact ⟨ret_int (by rw [hF.out]), hS, hE⟩
set_option maxRecDepth 100000 in
theorem pick_det (s a b t cap : Nat) (xs : List Int) (L : Src) (w : World) (hk : a ≤ 1000000) (hn : 1 ≤ xs.length) (hn' : xs.length ≤ 1000000) (h : StrL w s L a) (hs : b ≠ s) (hb : Blk w b t (xs.map (Value.int .i64)).toArray) :
 Calls Tryz.prog 13 #[.pointer (some ⟨s, 0, none⟩), .slice (some ⟨b, 0, none⟩) xs.length cap] w fun e w' =>
  e = .returned (.int .i64 (pkF L a xs)) ∧ StrL w' s L (a + 1) ∧ ExtS s w w' := by
 have hN := next_det s a xs.length L w hk hn (by omega) h
 have hv := nxF_lt L a xs.length hn
 have hc : ∀ i, i < xs.length → w.cell? ⟨b, i, none⟩ = some (.int .i64 (xs.getD i 0)) := fun i hi => by rw [hb.cell]; simp [hi]
 have hbl := hb.lt
 have hF : pkF L a xs = xs.getD (nxF L a xs.length) 0 := rfl
 generalize nxF L a xs.length = v at *
 clear hb; replace hN := Lib.hid hN; replace hc := Lib.hid hc; replace hF := Lib.hid hF
 go_enter Tryz.func13, Tryz.ntmps13
 go_wp2_with (go_at_call 81; refine hN.out.mono ?_; rintro e w1 ⟨rfl, hS, hE⟩; have hx := (hE.cell hbl hs v).trans (hc.out v hv))
 go_ret
 exact ⟨ret_int (by rw [hF.out]; simp [hv]), hS, hE⟩
set_option maxRecDepth 100000 in
theorem somes_det (s a b t cap : Nat) (xs : List ByteArray) (L : Src) (w : World) (hk : a ≤ 1000000) (hn : 1 ≤ xs.length) (hn' : xs.length ≤ 1000000) (h : StrL w s L a) (hs : b ≠ s) (hb : Blk w b t (xs.map Value.string).toArray) :
 Calls Tryz.prog 12 #[.pointer (some ⟨s, 0, none⟩), .slice (some ⟨b, 0, none⟩) xs.length cap] w fun e w' =>
  e = .returned (.string (smF L a xs)) ∧ StrL w' s L (a + 1) ∧ ExtS s w w' := by
 have hN := next_det s a xs.length L w hk hn (by omega) h
 have hv := nxF_lt L a xs.length hn
 have hc : ∀ i, i < xs.length → w.cell? ⟨b, i, none⟩ = some (.string (xs.getD i ⟨#[]⟩)) := fun i hi => by rw [hb.cell]; simp [hi]
 have hbl := hb.lt
 have hF : smF L a xs = xs.getD (nxF L a xs.length) ⟨#[]⟩ := rfl
 generalize nxF L a xs.length = v at *
 clear hb; replace hN := Lib.hid hN; replace hc := Lib.hid hc; replace hF := Lib.hid hF
 go_enter Tryz.func12, Tryz.ntmps12
 go_wp2_with (go_at_call 81; refine hN.out.mono ?_; rintro e w1 ⟨rfl, hS, hE⟩; have hx := (hE.cell hbl hs v).trans (hc.out v hv))
 go_ret
 exact ⟨by rw [hF.out]; simp [hv], hS, hE⟩
def odF (L : Src) (a : Nat) (lo hi : Int) : Int := if flF L a 12 then pkF L (a + 1) [lo - 1, hi + 1, lo, hi, -1099511627776,1099511627776] else rgF L (a + 1) lo hi
theorem odF_in {L : Src} {a : Nat} {lo hi : Int} (hl : lo ≤ hi) (h0 : -1000000 ≤ lo) (h1 : hi ≤ 1000000000) : -1099511627776 ≤ odF L a lo hi ∧ odF L a lo hi ≤ 1099511627776 := by
 unfold odF
 split
 ·exact odd_pick lo hi h0 h1 hl _ (nxF_lt _ _ _ (by simp))
 ·have := rgF_in (L := L) (a := a + 1) hl
  omega
set_option maxRecDepth 100000 in
theorem odd_det (s a : Nat) (lo hi : Int) (L : Src) (w : World) (hk : a ≤ 999999) (hl : lo ≤ hi) (h0 : -1000000 ≤ lo) (h1 : hi ≤ 1000000000) (hd : hi - lo < 1000000000) (h : StrL w s L a) :
 Calls Tryz.prog 80 #[.pointer (some ⟨s, 0, none⟩), .int .i64 lo, .int .i64 hi] w fun e w' => e = .returned (.int .i64 (odF L a lo hi)) ∧ StrL w' s L (a + 2) ∧ ExtS s w w' := by
 have hf := flip_det s a 12 L w (by omega) (by omega) (by omega) h
 have hF : odF L a lo hi = if flF L a 12 then pkF L (a + 1) [lo - 1, hi + 1, lo, hi, -1099511627776,1099511627776] else rgF L (a + 1) lo hi := rfl
 clear h
 cases hb : flF L a 12
 all_goals
  rw [hb] at hF hf
  simp only [if_true, Bool.false_eq_true, if_false] at hF
  replace hF := Lib.hid hF; replace hf := Lib.hid hf
  go_enter Tryz.func80, Tryz.ntmps80
  go_wp2_with (first
   | (go_at_call 46; refine hf.out.mono ?_; rintro e w1 ⟨rfl, hS, hE⟩)
   | (go_at_call 45; refine (range_det s (a + 1) lo hi L _ (by omega) hl h0 h1 hd hS).mono ?_; rintro e w2 ⟨rfl, hS2, hE2⟩)
   | (go_at_call 13; have l1 := hS.lt; refine (pick_det s (a + 1) _ _ 6 [lo - 1, hi + 1, lo, hi, -1099511627776,1099511627776] L _ (by omega) (by simp) (by simp) (hS.ext (Ext.alloc (Ext.refl _) _)) (Nat.ne_of_gt l1) (Blk.new' rfl)).mono ?_; rintro e w2 ⟨rfl, hS2, hE2⟩))
  go_ret
  first
   | exact ⟨ret_int (by rw [hF.out]), hS2, hE.trans hE2⟩
   | exact ⟨ret_int (by rw [hF.out]), hS2, hE.trans (((ExtS.refl _ _).alloc _).trans hE2)⟩
end Go.Proofs.YtehboinleolihaaGreatDoor
