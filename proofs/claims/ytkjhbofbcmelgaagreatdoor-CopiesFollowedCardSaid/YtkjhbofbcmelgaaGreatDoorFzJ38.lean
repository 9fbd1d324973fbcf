/- The last loan of a copy, by the document's library: the walk of last. Conditions: sizes; the copy was lent. The last loan of a copy, for any world. Conditions: the copy was lent; sizes. -/
import Derived.Test.YtkjhbofbcmelgaaGreatDoorFzJ34
import Derived.Laws.StructEq
set_option linter.unusedSimpArgs false
set_option linter.unusedVariables false
namespace Go.Proofs.YtkjhbofbcmelgaaGreatDoor
open Go Go.RowKit Go.Shelf
attribute [local go_sem] Oper.semAt_some
theorem back_stops (F : Fence) (n : Nat) (hf : F.fn 271) (hro : F.round = none) (hn : 1 ≤ n) (Bs n₀ b off len cap : Nat) (X : List LoanV) (hX : X.length = len) (hpos : 0 < len) (hreach : len ≤ 1000000) (hb : b < n₀) (hBn : Bs < n₀) (w : World) (hn₀ : n₀ ≤ w.heap.size)
 (hBs : w.cell? ⟨Bs, 0, none⟩ = some (.slice (some ⟨b, off, none⟩) len cap)) (hE : Elems 6 loanC w b off X) :
 SeqStopsK F n Tryz.prog 271 #[.pointer (some ⟨Bs, 0, none⟩)] (backArgs X len) (Below n₀) (fun ys => ys = downTo len hpos len) (fun pre => ∃ k, k ≤ len ∧ pre = downTo len hpos k) len w := fun l J Jx W hW _ _ hY h0 => by
 have hc' := (hW.cell (p := ⟨Bs, 0, none⟩) (show Bs < w.heap.size by omega)).trans hBs
 have hE' : Elems 6 loanC W b off X := fun i x hx j v hv => (hW.cell (p := ⟨b, off + i * 6 + j, none⟩) (show b < w.heap.size by omega)).trans (hE i x hx j v hv)
 exact back1_in F n hf hro hn l Bs n₀ b off len cap X hX hpos hreach hb hBn J Jx hY W hc' hE' h0
theorem backward_in (F : Fence) (n : Nat) (hf : F.fn 233) (hro : F.round = none) (a : Option Addr) (len cap : Nat) (w : World) :
 CallsIn F n Tryz.prog 233 #[.slice a len cap] w fun e w' => e = .returned (.func (.func 271) #[] #[.pointer (some ⟨w.heap.size, 0, none⟩)]) ∧ w' = w.alloc (.cells #[.slice a len cap] 141) := by
 refine callsIn_of_wp Tryz.func233 rfl hf ?_ hro
 simp only [Tryz.ntmps233, List.size_toArray, List.length_cons, List.length_nil, Nat.reduceAdd, Nat.reduceSub, Array.replicate_succ, Array.replicate_zero, List.push_toArray, List.append_toArray, List.nil_append, List.cons_append]
 gi_wp2
 go_ret
 exact ⟨rfl, rfl⟩
set_option maxRecDepth 100000 in
set_option maxHeartbeats 6400000 in
theorem last_in (F : Fence) (n : Nat) (h1f : F.fn 176) (h2f : F.fn 233) (h3f : F.fn 271) (hro : F.round = none) (hn : 3 ≤ n) (bb b off len cap : Nat) (X : List LoanV) (k : IdV) (i : Nat) (l : LoanV) (w : World) (hX : X.length = len) (hreach : len ≤ 1000000) (hb : b < w.heap.size) (hbb : bb < w.heap.size)
 (hc : w.cell? ⟨bb, 6, none⟩ = some (.slice (some ⟨b, off, none⟩) len cap)) (hE : Elems 6 loanC w b off X) (hi : X[i]? = some l) (hl : idL l = k) (hlt : ∀ j m, i < j → X[j]? = some m → idL m ≠ k) :
 CallsIn F n Tryz.prog 176 #[.pointer (some ⟨bb, 0, none⟩), .agg #[.string k.1, .int .i64 k.2]] w fun e W' => e = .returned (.pointer (some ⟨b, off + i * 6, none⟩)) ∧ Below w.heap.size w W' := by
 have h1 : 1 ≤ n := by omega
 have hil := (List.getElem?_eq_some_iff.1 hi).1
 have hpos : 0 < len := by omega
 replace hi := Lib.hid hi; replace hlt := Lib.hid hlt; replace hl := Lib.hid hl; replace hE := Lib.hid hE
 obtain ⟨W0, hW0⟩ : ∃ W0, W0 = (((w.alloc (.cells #[.pointer (some ⟨bb, 0, none⟩)] 138)).alloc (.cells #[.string k.1, .int .i64 k.2] 146)).alloc (.cells #[.pointer none] 223)) := ⟨_, rfl⟩
 have hc3 : (((w.alloc (.cells #[.pointer (some ⟨bb, 0, none⟩)] 138)).alloc (.cells #[.string k.1, .int .i64 k.2] 146)).alloc (.cells #[.pointer none] 223)).cell? ⟨bb, 6, none⟩ = some (.slice (some ⟨b, off, none⟩) len cap) := (((((Ext.refl w).alloc _).alloc _).alloc _).walk.1 bb 6 hbb).trans hc
 have hB0 : Ext w W0 := by rw [hW0]; exact (((Ext.refl w).alloc _).alloc _).alloc _
 have hs0 : W0.heap.size = w.heap.size + 3 := by rw [hW0]; simp
 have b0 : Blk W0 w.heap.size 138 #[.pointer (some ⟨bb, 0, none⟩)] := by rw [hW0]; exact ((Blk.new' rfl).alloc _).alloc _
 have b1 : Blk W0 (w.heap.size + 1) 146 #[.string k.1, .int .i64 k.2] := by rw [hW0]; exact (Blk.new' (by simp)).alloc _
 have b2 : Blk W0 (w.heap.size + 2) 223 #[.pointer none] := by rw [hW0]; exact Blk.new' (by simp)
 refine callsIn_of_wp_marks Tryz.func176 rfl h1f ?_ hro
 simp only [Tryz.ntmps176, List.size_toArray, List.length_cons, List.length_nil, Nat.reduceAdd, Nat.reduceSub, Array.replicate_succ, Array.replicate_zero, List.push_toArray, List.append_toArray, List.nil_append, List.cons_append]
 gi_wp2_with (gi_at_call 233; refine (backward_in F (n - 1) h2f hro _ _ _ _).mono ?_; rintro e w' ⟨rfl, rfl⟩)
 rw [← hW0] at hc3 ⊢
 clear hc3
 have hB1 : Ext w (W0.alloc (.cells #[.slice (some ⟨b, off, none⟩) len cap] 141)) := hB0.alloc _
 have hs1 : (W0.alloc (.cells #[.slice (some ⟨b, off, none⟩) len cap] 141)).heap.size = w.heap.size + 4 := by simp [hs0]
 have b0 := b0.alloc (.cells #[.slice (some ⟨b, off, none⟩) len cap] 141)
 have b1 := b1.alloc (.cells #[.slice (some ⟨b, off, none⟩) len cap] 141)
 have b2 := b2.alloc (.cells #[.slice (some ⟨b, off, none⟩) len cap] 141)
 have b3 : Blk (W0.alloc (.cells #[.slice (some ⟨b, off, none⟩) len cap] 141)) (w.heap.size + 3) 141 #[.slice (some ⟨b, off, none⟩) len cap] := Blk.new' hs0.symm
 generalize (W0.alloc (.cells #[.slice (some ⟨b, off, none⟩) len cap] 141)) = W1 at *
 clear hB0 hW0 hs0
 have hE1 : Elems 6 loanC W1 b off X := fun i x hx j v hv => (hB1.walk.1 b _ hb).trans (hE.out i x hx j v hv)
 have hBl : Below w.heap.size w W1 := hB1
 refine wpIn_rangeFunc_ownF hro h1 (gf := 271) (lb := #[.pointer (some ⟨w.heap.size + 1 + 1 + 1,0, none⟩)]) rfl h3f (enters_of Tryz.func271 (by kernel_rfl) rfl)
  (back_stops F (n - 1) h3f hro (by omega) (w.heap.size + 1 + 1 + 1) (w.heap.size + 4) b off len cap X hX hpos hreach (by omega) (by omega) W1 (by omega) (b3.cell 0) hE1) belowK_t (belowK_b (by omega)) (Below.refl _ _) (fun _ => rfl)
  (fun pre W => ((∀ y ∈ pre, idL (X.getD y.1 default) ≠ k) ∧ W.cell? ⟨w.heap.size, 0, none⟩ = some (.pointer (some ⟨bb, 0, none⟩)) ∧ W.cell? ⟨w.heap.size + 1,0, none⟩ = some (.string k.1) ∧ W.cell? ⟨w.heap.size + 1,1, none⟩ = some (.int .i64 k.2) ∧ W.cell? ⟨w.heap.size + 2,0, none⟩ = some (.pointer none) ∧ W.frozen? ⟨w.heap.size + 2,0, none⟩ = false) ∧ Below w.heap.size w W)
  (fun c pre W => (c = .ret ∧ ∃ ini last, pre = ini ++ [last] ∧ (∀ y ∈ ini, idL (X.getD y.1 default) ≠ k) ∧ idL (X.getD last.1 default) = k ∧ W.cell? ⟨w.heap.size + 2,0, none⟩ = some (.pointer (some ⟨b, off + last.1 * 6, none⟩))) ∧ Below w.heap.size w W)
  (OwnFrom.and (Own.from (fun s A B row hs hg hr => ⟨hs.1, cell_kept hs.2.1 hg hr, cell_kept hs.2.2.1 hg hr, cell_kept hs.2.2.2.1 hg hr, cell_kept hs.2.2.2.2.1 hg hr, (frozen_kept hs.2.2.2.2.1 hg hr).trans hs.2.2.2.2.2⟩) _) (ownFrom_below (Nat.le_refl _) (by omega)))
  (fun c => OwnFrom.and (Own.from (fun s A B row hs hg hr => by obtain ⟨hc, ini, last, e1, e2, e3, e4⟩ := hs; exact ⟨hc, ini, last, e1, e2, e3, cell_kept e4 hg hr⟩) _) (ownFrom_below (Nat.le_refl _) (by omega)))
  ⟨⟨by simp, b0.cell 0, b1.cell 0, b1.cell 1, b2.cell 0, b2.frozen 0⟩, hBl⟩
  (fun x => { tmps := #[.pointer (some ⟨bb, 0, none⟩), .agg #[.string k.1, .int .i64 k.2], .pointer (some ⟨w.heap.size, 0, none⟩), .pointer (some ⟨w.heap.size + 1,0, none⟩), .pointer (some ⟨w.heap.size + 1 + 1,0, none⟩), .int .i64 (x.1 : Int), .pointer (some ⟨bb, 0, none⟩), .pointer (some ⟨bb, 0, none⟩), .pointer (some ⟨bb, 6, none⟩), .slice (some ⟨b, off, none⟩) len cap, .func (.func 271) #[] #[.pointer (some ⟨w.heap.size + 1 + 1 + 1,0, none⟩)], .int .i64 (x.1 : Int), loanVal2 (X.getD x.1 default), undef, undef, undef, undef, undef, undef, undef, undef, undef, undef, undef, undef, undef, undef, undef, undef, undef, undef], defers := [] }) ?assign ?body ?done ?stop
 case assign =>
  intro l x W K hK
  unfold backArgs
  gi_wp2
  exact hK
 case body =>
  rintro l pre x W ⟨⟨hne, c0, c1, c2, c3, f3⟩, hB⟩ _
  obtain ⟨y, hy⟩ : ∃ y, X[x.1]? = some y := ⟨_, List.getElem?_eq_getElem (by have := x.2; omega)⟩
  have hyd : X.getD x.1 default = y := by rw [List.getD_eq_getElem?_getD, hy]; rfl
  have c6 : W.cell? ⟨bb, 6, none⟩ = some (.slice (some ⟨b, off, none⟩) len cap) := (hB.cell (p := ⟨bb, 6, none⟩) hbb).trans hc
  have d0 : W.cell? ⟨b, off + x.1 * 6, none⟩ = some (.string y.piece) := (hB.cell (p := ⟨b, off + x.1 * 6, none⟩) hb).trans (hE.out _ y hy 0 _ rfl)
  have d1 : W.cell? ⟨b, off + x.1 * 6 + 1, none⟩ = some (.int .i64 y.no) := (hB.cell (p := ⟨b, off + x.1 * 6 + 1, none⟩) hb).trans (hE.out _ y hy 1 _ rfl)
  have hxI : (x.1 : Int) < (len : Int) := by have := x.2; omega
  have hw2 : w.heap.size + 1 + 1 = w.heap.size + 2 := rfl
  replace hy := Lib.hid hy; replace hne := Lib.hid hne
  have hmx : Tryz.prog.follows .mixedOrders = true := by kernel_rfl
  obtain ⟨lv, hlv⟩ : ∃ lv, lv = loanVal2 (X.getD x.1 default) := ⟨_, rfl⟩
  rw [← hlv]
  clear hlv
  cases hp : (y.piece.toList == k.1.toList)
  ·have hid : idL (X.getD x.1 default) ≠ k := by
    rw [hyd]
    intro e
    have e1 : y.piece = k.1 := congrArg Prod.fst e
    rw [bytesB.2 e1] at hp
    cases hp
   replace hid := Lib.hid hid; replace hyd := Lib.hid hyd
   gi_wp2
   rename_i K0 hK0
   have hk : K0 { tmps := #[.pointer (some ⟨bb, 0, none⟩), .agg #[.string k.1, .int .i64 k.2], .pointer (some ⟨w.heap.size, 0, none⟩), .pointer (some ⟨w.heap.size + 1,0, none⟩), .pointer (some ⟨w.heap.size + 1 + 1,0, none⟩), .int .i64 (x.1 : Int), .pointer (some ⟨bb, 0, none⟩), .pointer (some ⟨bb, 0, none⟩), .pointer (some ⟨bb, 6, none⟩), .slice (some ⟨b, off, none⟩) len cap, .func (.func 271) #[] #[.pointer (some ⟨w.heap.size + 1 + 1 + 1,0, none⟩)], .int .i64 (x.1 : Int), lv, .pointer (some ⟨bb, 0, none⟩), .pointer (some ⟨bb, 0, none⟩), .pointer (some ⟨bb, 6, none⟩), .slice (some ⟨b, off, none⟩) len cap, .int .i64 (x.1 : Int), .pointer (some ⟨b, off + x.1 * 6, none⟩), .pointer (some ⟨b, off + x.1 * 6, none⟩), .agg #[.string y.piece, .int .i64 y.no], .agg #[.string k.1, .int .i64 k.2], .bool false, undef, undef, undef, undef, undef, undef, undef, undef], defers := [] } W.drew := by
    refine hK0 _ _ ?_
    clear hK0
    gi_wp2
    exact ⟨KeepsOthers.drew _, (Below.refl _ _).drew, ⟨fun p hp' => (List.mem_append.1 hp').elim (hne.out p) (fun e => by simp at e; subst e; exact hid.out), c0, c1, c2, c3, f3⟩, hB.drew⟩
   clear hK0
   gi_region_with_o fail
   all_goals exact hk
  ·by_cases hn : y.no = k.2
   ·have hid : idL (X.getD x.1 default) = k := by
     rw [hyd]
     exact Prod.ext (bytesB.1 hp) hn
    have hq : (y.no == k.2) = true := by simp [hn]
    replace hid := Lib.hid hid; replace hyd := Lib.hid hyd; replace hn := Lib.hid hn
    gi_wp2
    rename_i K0 hK0
    have hk : K0 { tmps := #[.pointer (some ⟨bb, 0, none⟩), .agg #[.string k.1, .int .i64 k.2], .pointer (some ⟨w.heap.size, 0, none⟩), .pointer (some ⟨w.heap.size + 1,0, none⟩), .pointer (some ⟨w.heap.size + 1 + 1,0, none⟩), .int .i64 (x.1 : Int), .pointer (some ⟨bb, 0, none⟩), .pointer (some ⟨bb, 0, none⟩), .pointer (some ⟨bb, 6, none⟩), .slice (some ⟨b, off, none⟩) len cap, .func (.func 271) #[] #[.pointer (some ⟨w.heap.size + 1 + 1 + 1,0, none⟩)], .int .i64 (x.1 : Int), lv, .pointer (some ⟨bb, 0, none⟩), .pointer (some ⟨bb, 0, none⟩), .pointer (some ⟨bb, 6, none⟩), .slice (some ⟨b, off, none⟩) len cap, .int .i64 (x.1 : Int), .pointer (some ⟨b, off + x.1 * 6, none⟩), .pointer (some ⟨b, off + x.1 * 6, none⟩), .agg #[.string y.piece, .int .i64 y.no], .agg #[.string k.1, .int .i64 k.2], .bool true, undef, undef, undef, undef, undef, undef, undef, undef], defers := [] } W.drew := by
     refine hK0 _ _ ?_
     clear hK0
     gi_wp2
     exact ⟨(KeepsOthers.drew W).trans (KeepsOthers.setCell _ _ _), ⟨rfl, pre, x, rfl, hne.out, hid.out, World.cell?_setCell_same' _ _ _ (by rw [show W.cell? ⟨w.heap.size + 1 + 1,0, none⟩ = some (.pointer none) from c3]; rfl)⟩, hB.drew.setCell (p := ⟨w.heap.size + 2,0, none⟩) (by simp only; omega) _⟩
    clear hK0
    gi_region_with_o fail
    all_goals exact hk
   ·have hid : idL (X.getD x.1 default) ≠ k := by
     rw [hyd]
     exact fun e => hn (congrArg Prod.snd e)
    have hq : (y.no == k.2) = false := by simp [hn]
    replace hid := Lib.hid hid; replace hyd := Lib.hid hyd; replace hn := Lib.hid hn
    gi_wp2
    rename_i K0 hK0
    have hk : K0 { tmps := #[.pointer (some ⟨bb, 0, none⟩), .agg #[.string k.1, .int .i64 k.2], .pointer (some ⟨w.heap.size, 0, none⟩), .pointer (some ⟨w.heap.size + 1,0, none⟩), .pointer (some ⟨w.heap.size + 1 + 1,0, none⟩), .int .i64 (x.1 : Int), .pointer (some ⟨bb, 0, none⟩), .pointer (some ⟨bb, 0, none⟩), .pointer (some ⟨bb, 6, none⟩), .slice (some ⟨b, off, none⟩) len cap, .func (.func 271) #[] #[.pointer (some ⟨w.heap.size + 1 + 1 + 1,0, none⟩)], .int .i64 (x.1 : Int), lv, .pointer (some ⟨bb, 0, none⟩), .pointer (some ⟨bb, 0, none⟩), .pointer (some ⟨bb, 6, none⟩), .slice (some ⟨b, off, none⟩) len cap, .int .i64 (x.1 : Int), .pointer (some ⟨b, off + x.1 * 6, none⟩), .pointer (some ⟨b, off + x.1 * 6, none⟩), .agg #[.string y.piece, .int .i64 y.no], .agg #[.string k.1, .int .i64 k.2], .bool false, undef, undef, undef, undef, undef, undef, undef, undef], defers := [] } W.drew := by
     refine hK0 _ _ ?_
     clear hK0
     gi_wp2
     exact ⟨KeepsOthers.drew _, (Below.refl _ _).drew, ⟨fun p hp' => (List.mem_append.1 hp').elim (hne.out p) (fun e => by simp at e; subst e; exact hid.out), c0, c1, c2, c3, f3⟩, hB.drew⟩
    clear hK0
    gi_region_with_o fail
    all_goals exact hk
 case done =>
  rintro D ys W hD rfl ⟨⟨hne, -⟩, hB⟩ hK
  refine absurd ?_ (hne ⟨i, by omega⟩ (by simp only [downTo, List.mem_map, List.mem_range]; exact ⟨len - 1 - i, by omega, by simp only [Subtype.mk.injEq]; omega⟩))
  rw [List.getD_eq_getElem?_getD, hi.out]
  exact hl.out
 case stop =>
  rintro D c pre W hD ⟨k', hk', rfl⟩ ⟨⟨rfl, ini, last, e1, hne, hid, hcr⟩, hB⟩ hK
  gi_wp2
  refine ⟨by simp, .inl ⟨_, _, rfl, run_takeDeferred hK, ?_⟩⟩
  have hc5 := cell_kept hcr (grownBy_putObj' _ D (.deferred none)) (fun r e => by cases e; exact ⟨_, hK, rfl⟩)
  have hlast : last.1 = i := by
   obtain ⟨m, rfl⟩ : ∃ m, k' = m + 1 := by
    cases k' with
    | zero => simp [downTo] at e1
    | succ m => exact ⟨m, rfl⟩
   rw [downTo_succ] at e1
   obtain ⟨e2, e3⟩ := List.append_inj' e1 rfl
   have e4 : (⟨len - 1 - m, by omega⟩ : {j : Nat // j < len}) = last := by simpa using e3
   subst e2
   have e5 : last.1 = len - 1 - m := by rw [← e4]
   have hll := last.2
   rcases Nat.lt_trichotomy last.1 i with hh | hh | hh
   ·exfalso
    refine hne ⟨i, by omega⟩ (by simp only [downTo, List.mem_map, List.mem_range]; exact ⟨len - 1 - i, by omega, by simp only [Subtype.mk.injEq]; omega⟩) ?_
    rw [List.getD_eq_getElem?_getD, hi.out]
    exact hl.out
   ·exact hh
   ·exfalso
    have h9 : X[last.1]? = some (X.getD last.1 default) := by rw [List.getD_eq_getElem?_getD, List.getElem?_eq_getElem (by omega)]; rfl
    exact hlt.out _ _ hh h9 hid
  rw [hlast] at hc5
  refine ⟨.pointer (some ⟨b, off + i * 6, none⟩), ?_, rfl, hB.trans (belowK_b (w := w) (Nat.le_refl _) W D _ _ (by omega) hK rfl rfl)⟩
  simp [results, Tryz.f176, go_sem, hc5]
end Go.Proofs.YtkjhbofbcmelgaaGreatDoor
namespace Go.Proofs.YtkjhbofbcmelgaaGreatDoor
open Go Go.RowKit Go.Shelf
theorem last_any {base : Nat} {w : World} {bb ms mr q nr : Nat} {tp : Option Addr} {tn tc : Nat} {r : LendR} {L : LibS} {F : Int → Option Int} {g cap : Nat} (hB : Blk w bb 143 (shC tp tn tc r ms mr (.slice (some ⟨g, 0, none⟩) L.loans.length cap))) (ho : w.ownsRow base 148 6 (.slice (some ⟨g, 0, none⟩) L.loans.length cap) L.loans.length (L.loans.flatMap loanC))
 (hn : L.loans.length ≤ 1000) (k : IdV) (i : Nat) (l : LoanV) (hi : L.loans[i]? = some l) (hl : idL l = k) (hlt : ∀ j m, i < j → L.loans[j]? = some m → idL m ≠ k) :
 Calls Tryz.prog 176 #[.pointer (some ⟨bb, 0, none⟩), .agg #[.string k.1, .int .i64 k.2]] w fun e W' => e = .returned (.pointer (some ⟨g, i * 6, none⟩)) ∧ Ext w W' := by
 have hil := (List.getElem?_eq_some_iff.1 hi).1
 obtain ⟨p', c', e, hS⟩ := slc_of_own loanC_len ho (by decide) (by omega)
 cases e
 obtain ⟨b, off, e, hb, hE⟩ := hS.1.2.2 (by omega)
 cases e
 have hc : w.cell? ⟨bb, 6, none⟩ = some (.slice (some ⟨g, 0, none⟩) L.loans.length cap) := hB.cell 6
 refine ((callsIn_wide (n := 3)).1 (last_in _ 3 trivial trivial trivial rfl (by omega) bb g 0 _ cap L.loans k i l w rfl (by omega) hb hB.lt hc hE hi hl hlt)).mono fun e W' hh => ?_
 rw [Nat.zero_add] at hh
 exact hh
end Go.Proofs.YtkjhbofbcmelgaaGreatDoor
