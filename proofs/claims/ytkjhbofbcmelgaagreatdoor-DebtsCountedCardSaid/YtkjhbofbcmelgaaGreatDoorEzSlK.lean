/- Slips that the stream makes. Conditions: sizes. -/
import Derived.Test.YtkjhbofbcmelgaaGreatDoorEzJ14
import Derived.Test.YtkjhbofbcmelgaaGreatDoorEzJ3
set_option linter.unusedSimpArgs false
set_option linter.unusedVariables false
namespace Go.Proofs.YtkjhbofbcmelgaaGreatDoor
open Go Go.RowKit
theorem sli_mod3 {w : World} {base g n cap : Nat} {xs : List SlipV} (h : w.ownsRow base 101 7 (.slice (some ⟨g, 0, none⟩) n cap) n (xs.flatMap slipC)) {i : Nat} {x : SlipV} (hx : xs[i]? = some x) (a : ByteArray) (b c : Int) :
 (((w.setCell ⟨g, i * 7, none⟩ (.string a)).setCell ⟨g, i * 7 + 1, none⟩ (.int .i64 b)).setCell ⟨g, i * 7 + 2, none⟩ (.int .i64 c)).ownsRow base 101 7 (.slice (some ⟨g, 0, none⟩) n cap) n ((xs.set i ⟨a, b, c, x.kind, x.piece, x.copy, x.singer⟩).flatMap slipC) := by
 have hil := (List.getElem?_eq_some_iff.1 hx).1
 have hs : ∀ y : SlipV, (xs.set i y)[i]? = some y := fun y => List.getElem?_set_self hil
 have h1 := own_set1 slipC_len h ⟨a, x.no, x.at_, x.kind, x.piece, x.copy, x.singer⟩ hx 0 (by decide) (.string a) rfl
 have h2 := own_set1 slipC_len h1 ⟨a, b, x.at_, x.kind, x.piece, x.copy, x.singer⟩ (hs _) 1 (by decide) (.int .i64 b) rfl
 rw [List.set_set] at h2
 have h3 := own_set1 slipC_len h2 ⟨a, b, c, x.kind, x.piece, x.copy, x.singer⟩ (hs _) 2 (by decide) (.int .i64 c) rfl
 rw [List.set_set] at h3
 exact h3
theorem sli_mod36 {w : World} {base g n cap : Nat} {xs : List SlipV} (h : w.ownsRow base 101 7 (.slice (some ⟨g, 0, none⟩) n cap) n (xs.flatMap slipC)) {i : Nat} {x : SlipV} (hx : xs[i]? = some x) (a : Int) (b : ByteArray) :
 ((w.setCell ⟨g, i * 7 + 3, none⟩ (.int .i64 a)).setCell ⟨g, i * 7 + 6, none⟩ (.string b)).ownsRow base 101 7 (.slice (some ⟨g, 0, none⟩) n cap) n ((xs.set i ⟨x.by_, x.no, x.at_, a, x.piece, x.copy, b⟩).flatMap slipC) := by
 have hil := (List.getElem?_eq_some_iff.1 hx).1
 have hs : ∀ y : SlipV, (xs.set i y)[i]? = some y := fun y => List.getElem?_set_self hil
 have h1 := own_set1 slipC_len h ⟨x.by_, x.no, x.at_, a, x.piece, x.copy, x.singer⟩ hx 3 (by decide) (.int .i64 a) rfl
 have h2 := own_set1 slipC_len h1 ⟨x.by_, x.no, x.at_, a, x.piece, x.copy, b⟩ (hs _) 6 (by decide) (.string b) rfl
 rw [List.set_set] at h2
 exact h2
theorem sli_mod45 {w : World} {base g n cap : Nat} {xs : List SlipV} (h : w.ownsRow base 101 7 (.slice (some ⟨g, 0, none⟩) n cap) n (xs.flatMap slipC)) {i : Nat} {x : SlipV} (hx : xs[i]? = some x) (a : ByteArray) (b : Int) :
 ((w.setCell ⟨g, i * 7 + 4, none⟩ (.string a)).setCell ⟨g, i * 7 + 5, none⟩ (.int .i64 b)).ownsRow base 101 7 (.slice (some ⟨g, 0, none⟩) n cap) n ((xs.set i ⟨x.by_, x.no, x.at_, x.kind, a, b, x.singer⟩).flatMap slipC) := by
 have hil := (List.getElem?_eq_some_iff.1 hx).1
 have hs : ∀ y : SlipV, (xs.set i y)[i]? = some y := fun y => List.getElem?_set_self hil
 have h1 := own_set1 slipC_len h ⟨x.by_, x.no, x.at_, x.kind, a, x.copy, x.singer⟩ hx 4 (by decide) (.string a) rfl
 have h2 := own_set1 slipC_len h1 ⟨x.by_, x.no, x.at_, x.kind, a, b, x.singer⟩ (hs _) 5 (by decide) (.int .i64 b) rfl
 rw [List.set_set] at h2
 exact h2
def byBlk : Array Value := #[.string ⟨#[108,105,122]⟩, .string ⟨#[109,97,120]⟩]
def pieceL : List ByteArray := [⟨#[97,118,101]⟩, ⟨#[97,118,101]⟩, ⟨#[103,108,111,114,105,97]⟩, ⟨#[107,121,114,105,101]⟩]
def annL : List ByteArray := [⟨#[97,110,110]⟩, ⟨#[98,111,98]⟩, ⟨#[99,105,100]⟩]
/-- What the maker of slips answers. -/
def SlipsR (s k : Nat) (w : World) (e : Ending) (w' : World) : Prop := ∃ (p : Option Addr) (n c : Nat) (V : List SlipV), e = .returned (.slice p n c) ∧ n ≤ 14 ∧ w'.ownsRow (w.heap.size + 1) 101 7 (.slice p n c) n (V.flatMap slipC) ∧ V.length = n ∧ (∀ x ∈ V, x.Small) ∧ Str w' s (k + 120) ∧ ExtS s w w'
set_option maxRecDepth 100000 in
set_option maxHeartbeats 6400000 in
theorem slips_any (s k : Nat) (w : World) (hk : k ≤ 900000) (h : Str w s k) :
 Calls Tryz.prog 7 #[.pointer (some ⟨s, 0, none⟩)] w (SlipsR s k w) := by
 have l0 := h.lt
 have hN0 : Blk (w.alloc (.cells byBlk 9)) w.heap.size 9 byBlk := Blk.new' rfl
 have hS0 : Str (w.alloc (.cells byBlk 9)) s k := h.ext ((Ext.refl _).alloc _)
 have hE0 : ExtS s w (w.alloc (.cells byBlk 9)) := (ExtS.refl s w).alloc _
 go_enter Tryz.func7, Tryz.ntmps7
 go_wp2
 go_loopw [3,13] (fun v3 v13 wr => ∃ (j : Nat) (V : List SlipV) (v : Value), j ≤ 2 ∧ v13 = .int .i64 j ∧ v3 = v ∧ wr.ownsRow (w.heap.size + 1) 101 7 v V.length (V.flatMap slipC) ∧ (∀ x ∈ V, x.Small) ∧ V.length ≤ 7 * j ∧ Blk wr w.heap.size 9 byBlk ∧ Str wr s (k + 50 * j) ∧ ExtS s w wr) (fun _ v13 _ => 2 - (intOf v13).toNat)
 case atStart => exact ⟨0,[], _, by omega, rfl, rfl, World.ownsRow_nil _ _ _ _, (fun x hx => by cases hx), by simp, hN0, hS0, hE0⟩
 case round =>
  clear hN0 hS0 hE0
  obtain ⟨j, V, v, hj, rfl, rfl, hown, hf, hVl, hN, hS, hE⟩ := hrel
  replace hf := Lib.hid hf
  by_cases hlt : j < 2
  ·have hc : ∃ nm : ByteArray, nm.size ≤ 1000000 ∧ wr.cell? ⟨w.heap.size, j, none⟩ = some (.string nm) := by
    have h3 : j = 0 ∨ j = 1 := by omega
    rcases h3 with rfl | rfl
    ·exact ⟨⟨#[108,105,122]⟩, by decide, hN.cell 0⟩
    ·exact ⟨⟨#[109,97,120]⟩, by decide, hN.cell 1⟩
   obtain ⟨nm, hns, hcell⟩ := hc
   have hjI : (j : Int) < 2 := by omega
   have hNl := hN.lt
   have hsz0 := hE.2.2.2.1
   go_wp2_with (first
    | (go_at_call 10; have l1 := hS.lt; refine (pick_in s (k + 50 * j) _ _ 2 [0,5] 0 5 _ (by omega) (by simp) (by simp) (by exact hS.ext (Ext.alloc (Ext.refl _) _)) (by exact Nat.ne_of_gt l1) (by exact Blk.new' rfl) (by decide)).mono ?_; rintro e w2 ⟨a0, ha0, ha5, rfl, hS2, hE2⟩; have hE2' := (hE.alloc _).trans hE2; have ho2 := own_extS hE2 (by omega) (hown.alloc _); have hN2 := (hN.alloc _).extS (by omega) hE2; clear hS hE hE2 hown hN)
    | (go_at_call 39; refine (range_any s (k + 50 * j + 1) 0 7 _ (by omega) (by omega) (by omega) (by omega) (by omega) hS2).mono ?_; rintro e w3 ⟨r0, rfl, hr0, hr7, hS3, hE3⟩; have hE3' := hE2'.trans hE3; have ho3 := own_extS hE3 (by omega) ho2; have hN3 := hN2.extS (by omega) hE3; clear hS2 hE2' hE3 ho2 hN2))
   obtain ⟨r, rfl⟩ : ∃ r : Nat, r0 = r := ⟨r0.toNat, by omega⟩
   clear hcell hNl hsz0
   go_loopw [3,7,8,22] (fun v3 v7 v8 v22 wq => ∃ (t : Nat) (v : Value) (X : List SlipV) (a7 a8 : Int), t ≤ r ∧ v22 = .int .i64 t ∧ v3 = v ∧ v7 = .int .i64 a7 ∧ v8 = .int .i64 a8 ∧ X.length = V.length + t ∧ wq.ownsRow (w.heap.size + 1) 101 7 v X.length (X.flatMap slipC) ∧ (∀ x ∈ X, x.Small) ∧ 0 ≤ a7 ∧ a7 ≤ 2 * t ∧ 0 ≤ a8 ∧ a8 ≤ 5 + 777600000 * t ∧ Blk wq w.heap.size 9 byBlk ∧ Str wq s (k + 50 * j + 2 + 6 * t) ∧ ExtS s w wq) (fun _ _ _ v22 _ => r - (intOf v22).toNat)
   case atStart => exact ⟨0, _, V, 0, a0, Nat.zero_le _, rfl, rfl, rfl, rfl, by simp, ho3, hf.out, by omega, by omega, by omega, by omega, hN3, hS3, hE3'⟩
   case round =>
    clear ho3 hN3 hS3 hE3'
    obtain ⟨t, v, X, a7, a8, ht, rfl, rfl, rfl, rfl, hXl, hown, hfX, h70, h71, h80, h81, hN, hS, hE⟩ := hrel
    replace hfX := Lib.hid hfX
    by_cases hlt2 : t < r
    ·have hNl := hN.lt
     have hsz0 := hE.2.2.2.1
     go_upto_if 44 with (first
      | (go_at_call 10; have l1 := hS.lt; refine (pick_in s (k + 50 * j + 2 + 6 * t) _ _ 3 [1,1,2] 1 2 _ (by omega) (by simp) (by simp) (by exact hS.ext (Ext.alloc (Ext.refl _) _)) (by exact Nat.ne_of_gt l1) (by exact Blk.new' rfl) (by decide)).mono ?_; rintro e w4 ⟨z1, hz1, hz2, rfl, hS4, hE4⟩; have hw1 : IntKind.i64.wrap (a7 + z1) = a7 + z1 := IntWalk.i64_in _ (by omega); have hE4' := (hE.alloc _).trans hE4; have ho4 := own_extS hE4 (by omega) (hown.alloc _); have hN4 := (hN.alloc _).extS (by omega) hE4; clear hS hE hE4 hown hN)
      | (go_at_call 10; have l4 := hS4.lt; refine (pick_in s (k + 50 * j + 2 + 6 * t + 1) _ _ 8 [1,1,1,2,2,3,4,5] 1 5 _ (by omega) (by simp) (by simp) (by exact hS4.ext (Ext.alloc (Ext.refl _) _)) (by exact Nat.ne_of_gt l4) (by exact Blk.new' rfl) (by decide)).mono ?_; rintro e w5 ⟨kd, hkd1, hkd5, rfl, hS5, hE5⟩; have hE5' := (hE4'.alloc _).trans hE5; have ho5 := own_extS hE5 (by omega) (ho4.alloc _); have hN5 := (hN4.alloc _).extS (by omega) hE5; clear hS4 hE4' hE5 ho4 hN4)
      | (go_at_call 9; have l5 := hS5.lt; refine (somes_any s (k + 50 * j + 2 + 6 * t + 1 + 1) _ _ 4 pieceL _ (by omega) (by decide) (by decide) (by exact hS5.ext (Ext.alloc (Ext.refl _) _)) (by exact Nat.ne_of_gt l5) (by exact Blk.new' rfl)).mono ?_; rintro e w6 ⟨pc, hpc, rfl, hS6, hE6⟩; have hE6' := (hE5'.alloc _).trans hE6; have ho6 := own_extS hE6 (by omega) (ho5.alloc _); have hN6 := (hN5.alloc _).extS (by omega) hE6; clear hS5 hE5' hE6 ho5 hN5)
      | (go_at_call 10; have l6 := hS6.lt; refine (pick_in s (k + 50 * j + 2 + 6 * t + 1 + 1 + 1) _ _ 4 [1,1,2,3] 1 3 _ (by omega) (by simp) (by simp) (by exact hS6.ext (Ext.alloc (Ext.refl _) _)) (by exact Nat.ne_of_gt l6) (by exact Blk.new' rfl) (by decide)).mono ?_; rintro e w7 ⟨cp, hcp1, hcp3, rfl, hS7, hE7⟩; have hE7' := (hE6'.alloc _).trans hE7; have ho7 := own_extS hE7 (by omega) (ho6.alloc _); have hN7 := (hN6.alloc _).extS (by omega) hE7; clear hS6 hE6' hE7 ho6 hN6))
     have hpcs : pc.size ≤ 1000000 := by
      rcases (by simpa [pieceL] using hpc : pc = ⟨#[97,118,101]⟩ ∨ pc = ⟨#[103,108,111,114,105,97]⟩ ∨ pc = ⟨#[107,121,114,105,101]⟩) with rfl | rfl | rfl <;> decide
     replace hpc := Lib.hid hpc
     have hN7l := hN7.lt
     have hE7s := hE7'.2.2.2.1
     have hs7 := hS7.lt
     have hXs : ∀ (y : SlipV), y.Small → ∀ x ∈ X ++ [y], x.Small := fun y hy x hx => by
      rcases List.mem_append.1 hx with h1 | h1
      ·exact hfX.out x h1
      ·obtain rfl := List.mem_singleton.1 h1; exact hy
     replace hXs := Lib.hid hXs
     by_cases hk1 : kd = 1
     ·subst hk1
      go_wp2_with (first
       | (go_at_call 9; go_loud (refine (somes_any s (k + 50 * j + 2 + 6 * t + 1 + 1 + 1 + 1) _ _ 3 annL _ (by omega) (by decide) (by decide) (by exact (hS7.ext (Ext.alloc (Ext.refl _) _)).ext (Ext.alloc (Ext.refl _) _)) (by simp; omega) (by exact Blk.new' (by simp))).mono ?_; rintro e w8 ⟨sg, hsg, rfl, hS8, hE8⟩; have hT8 : Blk w8 w7.heap.size 101 #[.string nm, .int .i64 (a7 + z1), .int .i64 a8, .int .i64 1, .string pc, .int .i64 cp, .string ⟨#[]⟩] := (((Blk.new' rfl : Blk (w7.alloc (.cells (slipC ⟨nm, a7 + z1, a8,1, pc, cp, ⟨#[]⟩⟩).toArray 101)) w7.heap.size 101 (slipC ⟨nm, a7 + z1, a8,1, pc, cp, ⟨#[]⟩⟩).toArray).alloc (.cells (annL.map Value.string).toArray 9))).extS (by omega) hE8; have hE8' := ((hE7'.alloc (.cells (slipC ⟨nm, a7 + z1, a8,1, pc, cp, ⟨#[]⟩⟩).toArray 101)).alloc (.cells (annL.map Value.string).toArray 9)).trans hE8; have ho8 := own_setFar (own_extS hE8 (by omega) ((ho7.alloc (.cells (slipC ⟨nm, a7 + z1, a8,1, pc, cp, ⟨#[]⟩⟩).toArray 101)).alloc (.cells (annL.map Value.string).toArray 9))) (p := ⟨w7.heap.size, 6, none⟩) (own_lts ho7 (Nat.le_refl _)) (.string sg); have hN8 := ((hN7.alloc (.cells (slipC ⟨nm, a7 + z1, a8,1, pc, cp, ⟨#[]⟩⟩).toArray 101)).alloc (.cells (annL.map Value.string).toArray 9)).extS (by omega) hE8; obtain ⟨p8, q8⟩ := hT8.walk; have l8 := hT8.lt; clear hS7 hE7' hE8 ho7 hN7))
       | (at_builtin; go_loud (refine wp_app1 _ (.tmp 49) (.tmp 51) 31 101 7 80 _ rfl rfl Tryz.underlying31 sliInfo rfl (by decide) (by decide) (w.heap.size + 1) _ X.length _ rfl (ho8.alloc _) _ (slipC ⟨nm, a7 + z1, a8,1, pc, cp, sg⟩) rfl rfl (Blk.new' (by simp)) (slipC_one _) (by omega) (by simp; omega) ?_; intro v' w9 hown9 hgrow9 _; have hN9 := ((hN8.far (p := ⟨w7.heap.size, 6, none⟩) (by simp; omega) (.string sg)).alloc (.cells (slipC ⟨nm, a7 + z1, a8,1, pc, cp, sg⟩).toArray 101)).app (ho8.alloc _) (by omega) hgrow9; have hS9 := ((hS8.set (p := ⟨w7.heap.size, 6, none⟩) (by simpa using hs7) (.string sg)).ext (Ext.alloc (Ext.refl _) (.cells (slipC ⟨nm, a7 + z1, a8,1, pc, cp, sg⟩).toArray 101))).app (ho8.alloc _) (by omega) hgrow9; have hE9 := ((hE8'.setCell (p := ⟨w7.heap.size, 6, none⟩) (.inr (by simp; omega)) (.string sg)).alloc (.cells (slipC ⟨nm, a7 + z1, a8,1, pc, cp, sg⟩).toArray 101)).app (ho8.alloc _) (by omega) hgrow9; clear ho8 hN8 hS8 hE8' hgrow9))
       | (go_at_call 10; have l9 := hS9.lt; refine (pick_in s (k + 50 * j + 2 + 6 * t + 1 + 1 + 1 + 1 + 1) _ _ 5 [0,1,86400000,172800005,777600000] 0 777600000 _ (by omega) (by simp) (by simp) (by exact hS9.ext (Ext.alloc (Ext.refl _) _)) (by exact Nat.ne_of_gt l9) (by exact Blk.new' rfl) (by decide)).mono ?_; rintro e wa ⟨za, hza1, hza2, rfl, hSa, hEa⟩; have hw2 : IntKind.i64.wrap (a8 + za) = a8 + za := IntWalk.i64_in _ (by omega); have hEa' := (hE9.alloc _).trans hEa; have hoa := own_extS hEa (by omega) (hown9.alloc _); have hNa := (hN9.alloc _).extS (by omega) hEa; clear hS9 hE9 hEa hown9 hN9))
      have hsgs : sg.size ≤ 1000000 := by
       rcases (by simpa [annL] using hsg : sg = ⟨#[97,110,110]⟩ ∨ sg = ⟨#[98,111,98]⟩ ∨ sg = ⟨#[99,105,100]⟩) with rfl | rfl | rfl <;> decide
      have hTl2 : (X ++ [(⟨nm, a7 + z1, a8,1, pc, cp, sg⟩ : SlipV)]).length = X.length + 1 := by simp
      go_roundw
      case rel =>
       exact ⟨t + 1, _, X ++ [⟨nm, a7 + z1, a8,1, pc, cp, sg⟩], a7 + z1, a8 + za, by omega, by go_num, rfl, rfl, rfl, by omega, by rw [hTl2, flat_snoc]; exact hoa, hXs.out _ ⟨hns, hpcs, hsgs⟩, by omega, by omega, by omega, by omega, hNa, hSa.more (by omega), hEa'⟩
      case measure => simp [intOf]; omega
     ·go_wp2_with (first
       | (at_builtin; go_loud (refine wp_app1 _ (.tmp 49) (.tmp 51) 31 101 7 80 _ rfl rfl Tryz.underlying31 sliInfo rfl (by decide) (by decide) (w.heap.size + 1) _ X.length _ rfl ((ho7.alloc (.cells (slipC ⟨nm, a7 + z1, a8, kd, pc, cp, ⟨#[]⟩⟩).toArray 101)).alloc (.cells (slipC ⟨nm, a7 + z1, a8, kd, pc, cp, ⟨#[]⟩⟩).toArray 101)) _ (slipC ⟨nm, a7 + z1, a8, kd, pc, cp, ⟨#[]⟩⟩) rfl rfl (Blk.new' (by simp)) (slipC_one _) (by omega) (by simp; omega) ?_; intro v' w9 hown9 hgrow9 _; have hN9 := ((hN7.alloc (.cells (slipC ⟨nm, a7 + z1, a8, kd, pc, cp, ⟨#[]⟩⟩).toArray 101)).alloc (.cells (slipC ⟨nm, a7 + z1, a8, kd, pc, cp, ⟨#[]⟩⟩).toArray 101)).app ((ho7.alloc _).alloc _) (by omega) hgrow9; have hS9 := ((hS7.ext (Ext.alloc (Ext.refl _) _)).ext (Ext.alloc (Ext.refl _) _)).app ((ho7.alloc _).alloc _) (by omega) hgrow9; have hE9 := ((hE7'.alloc (.cells (slipC ⟨nm, a7 + z1, a8, kd, pc, cp, ⟨#[]⟩⟩).toArray 101)).alloc (.cells (slipC ⟨nm, a7 + z1, a8, kd, pc, cp, ⟨#[]⟩⟩).toArray 101)).app ((ho7.alloc _).alloc _) (by omega) hgrow9; clear ho7 hN7 hS7 hE7' hgrow9))
       | (go_at_call 10; have l9 := hS9.lt; refine (pick_in s (k + 50 * j + 2 + 6 * t + 1 + 1 + 1 + 1) _ _ 5 [0,1,86400000,172800005,777600000] 0 777600000 _ (by omega) (by simp) (by simp) (by exact hS9.ext (Ext.alloc (Ext.refl _) _)) (by exact Nat.ne_of_gt l9) (by exact Blk.new' rfl) (by decide)).mono ?_; rintro e wa ⟨za, hza1, hza2, rfl, hSa, hEa⟩; have hw2 : IntKind.i64.wrap (a8 + za) = a8 + za := IntWalk.i64_in _ (by omega); have hEa' := (hE9.alloc _).trans hEa; have hoa := own_extS hEa (by omega) (hown9.alloc _); have hNa := (hN9.alloc _).extS (by omega) hEa; clear hS9 hE9 hEa hown9 hN9))
      have hTl2 : (X ++ [(⟨nm, a7 + z1, a8, kd, pc, cp, ⟨#[]⟩⟩ : SlipV)]).length = X.length + 1 := by simp
      go_roundw
      case rel =>
       exact ⟨t + 1, _, X ++ [⟨nm, a7 + z1, a8, kd, pc, cp, ⟨#[]⟩⟩], a7 + z1, a8 + za, by omega, by go_num, rfl, rfl, rfl, by omega, by rw [hTl2, flat_snoc]; exact hoa, hXs.out _ ⟨hns, hpcs, Nat.zero_le _⟩, by omega, by omega, by omega, by omega, hNa, hSa.more (by omega), hEa'⟩
      case measure => simp [intOf]; omega
    ·obtain rfl : t = r := by omega
     replace hown := Lib.hid hown
     go_wp2
     go_roundw
     case rel => exact ⟨j + 1, X, _, by omega, by go_num, rfl, hown.out, hfX.out, by omega, hN, hS.more (by omega), hE⟩
     case measure => simp [intOf]; omega
  ·obtain rfl : j = 2 := by omega
   clear hN hlt hj
   have hl7 : V.length ≤ 14 := by omega
   rcases Nat.eq_zero_or_pos V.length with h0 | h0
   ·obtain ⟨q, c, rfl, -⟩ := slc_of_own slipC_len hown (by decide) (by omega)
    have hres : SlipsR s k w (.returned (.slice q V.length c)) wr := ⟨q, V.length, c, V, rfl, hl7, hown, rfl, hf.out, hS.more (by omega), hE⟩
    have h0I : ¬ (0 : Int) < (V.length : Int) := by omega
    replace hown := Lib.hid hown; replace hres := Lib.hid hres; replace h0 := Lib.hid h0
    go_wp2
    go_ret
    exact hres.out
   ·obtain ⟨g, cap, rfl, hg, hgl⟩ := hown.form h0
    have h0I : (0 : Int) < (V.length : Int) := by omega
    replace hown := Lib.hid hown
    go_upto_if 72 with (go_at_call 40; (with_reducible refine Calls.mono (flip_any s (k + 50 * 2) 12 _ (by omega) (by omega) (by omega) hS) ?_); rintro e w2 ⟨bb, rfl, hS2, hE2⟩)
    have hE2' := hE.trans hE2
    have ho2 := own_extS hE2 (by omega) hown.out
    clear hS hE hE2 hown
    cases bb
    ·have hres : SlipsR s k w (.returned (.slice (some ⟨g, 0, none⟩) V.length cap)) w2 := ⟨_, V.length, _, V, rfl, hl7, ho2, rfl, hf.out, hS2.more (by omega), hE2'⟩
     replace ho2 := Lib.hid ho2; replace hres := Lib.hid hres
     go_wp2
     go_ret
     exact hres.out
    ·have hnx := next_any s (k + 50 * 2 + 1) V.length w2 (by omega) (by omega) (by omega) hS2
     replace hnx := Lib.hid hnx; replace ho2 := Lib.hid ho2
     go_upto_if 96 with (first
      | (go_at_call 56; (with_reducible refine Calls.mono hnx.out ?_); rintro e w3 ⟨i, rfl, hi, hS3, hE3⟩)
      | (go_at_call 56; (with_reducible refine Calls.mono (next_any s (k + 50 * 2 + 1 + 1) 3 _ (by omega) (by omega) (by omega) hS3) ?_); rintro e w4 ⟨u, rfl, hu, hS4, hE4⟩))
     have hE4' := (hE2'.trans hE3).trans hE4
     have ho4 := own_extS (hE3.trans hE4) (by omega) ho2.out
     clear hS2 hS3 hE2' hE3 hE4 ho2 hgl hnx
     obtain ⟨x, hx⟩ := getD_some (rfl : V.length = V.length) hi
     obtain ⟨s1, s2, s3⟩ := hf.out x (List.mem_of_getElem? hx)
     have hgl : g < w4.heap.size := (ho4.lt g rfl).2
     have hgs : g ≠ s := by omega
     have hsl : s < w4.heap.size := hS4.lt
     have c0 : w4.cell? ⟨g, i * 7, none⟩ = some (.string x.by_) := own_cell slipC_len ho4 hx 0 rfl hi
     have c1 : w4.cell? ⟨g, i * 7 + 1, none⟩ = some (.int .i64 x.no) := own_cell slipC_len ho4 hx 1 rfl hi
     have c2 : w4.cell? ⟨g, i * 7 + 2, none⟩ = some (.int .i64 x.at_) := own_cell slipC_len ho4 hx 2 rfl hi
     have c3 : w4.cell? ⟨g, i * 7 + 3, none⟩ = some (.int .i64 x.kind) := own_cell slipC_len ho4 hx 3 rfl hi
     have c4 : w4.cell? ⟨g, i * 7 + 4, none⟩ = some (.string x.piece) := own_cell slipC_len ho4 hx 4 rfl hi
     have c5 : w4.cell? ⟨g, i * 7 + 5, none⟩ = some (.int .i64 x.copy) := own_cell slipC_len ho4 hx 5 rfl hi
     have c6 : w4.cell? ⟨g, i * 7 + 6, none⟩ = some (.string x.singer) := own_cell slipC_len ho4 hx 6 rfl hi
     have hset : ∀ (y : SlipV), y.Small → (k' : Nat) → k' ≤ k + 120 → ∀ w9, w9.ownsRow (w.heap.size + 1) 101 7 (.slice (some ⟨g, 0, none⟩) V.length cap) V.length ((V.set i y).flatMap slipC) → Str w9 s k' → ExtS s w w9 → SlipsR s k w (.returned (.slice (some ⟨g, 0, none⟩) V.length cap)) w9 := fun y hy k' hk' w9 ho9 hS9 hE9 =>
      ⟨_, V.length, _, V.set i y, rfl, hl7, ho9, by rw [List.length_set], (fun z hz => by
       rcases List.mem_or_eq_of_mem_set hz with h1 | h1
       ·exact hf.out z h1
       ·subst h1; exact hy), hS9.more hk', hE9⟩
     have hS4d : Str w4.drew s (k + 103) := (hS4.more (by omega)).ext (Ext.drew (Ext.refl _))
     have hsld : s < w4.drew.heap.size := hsl
     have hsg : s < g := by omega
     have hwg : w.heap.size ≤ g := by omega
     replace hset := Lib.hid hset
     replace hset := hset.out
     replace ho4 := Lib.hid ho4; replace hx := Lib.hid hx
     have hu3 : u = 0 ∨ u = 1 ∨ u = 2 := by omega
     rcases hu3 with rfl | rfl | rfl
     ·skip
      go_upto_region 22 with fail
      refine wp_region_facts [1,2] [([],false,false),([],false,false),([],false,false),([],false,false),([],false,false),([4],false,false),([4,5],false,false),([4,5,6],false,false),([4,5,6,7], false, true),([3,4,5,6,7,8], true, false),([],false,false),([],false,false),([11],false,false),([11,12],false,false),([11,12,13],false,false),([11,12,13,14], false, true),([10,11,12,13,14,15], true, false),([],false,false),([],false,false),([18],false,false),([18,19],false,false),([18,19,20],false,false),([18,19,20,21], false, true),([17,18,19,20,21,22], true, false),([0],false,false),([0,24],false,false)] (ExtS s) Ext (fun w => Str w s (k + 103)) (by kernel_rfl) (by kernel_rfl) Ext.refl (fun _ _ _ => ExtS.trans) (fun _ _ h => h.extS) (fun _ _ h => h.2.2.2.1) (fun _ _ h he => h.ext he) hS4d ?_
      dsimp only [List.length_cons, List.length_nil, List.drop_succ_cons, List.drop_zero, List.drop_nil]
      refine fq 0 rfl rfl rfl (fun _ _ h he => h.ext he) rfl rfl ?_; apply Exists.intro; constructor
      ·intro sv w' hw' hfa
       refine ⟨rfl, ?_⟩; simp only [putsL]; change qT _; simp only [qT, Act.put, sIA, sCS, sCZ]; simp [go_sem, quietTo, Ext.refl]; all_goals rfl
      refine fac_late 1 rfl rfl Ext.refl (fun _ _ h he => h.ext he) rfl rfl (fun _ _ _ _ h => h) ?_; apply Exists.intro; constructor
      ·intro sv w' hw' hfa
       refine ⟨rfl, fun w2 => ?_⟩
       simp only [putsL]
       change pureTo _ _ (Sem.run _ (execOp (Act.eval _) _) _)
       try simp only [Act.put, sIA, sCS, sCZ]
       simp [go_sem, pureTo]
       (all_goals try simp (disch := omega) only [IntWalk.i64_in]); all_goals rfl
      refine fac_late 2 rfl rfl Ext.refl (fun _ _ h he => h.ext he) rfl rfl (fun _ _ _ _ h => h) ?_; apply Exists.intro; constructor
      ·intro sv w' hw' hfa
       refine ⟨rfl, fun w2 => ?_⟩
       simp only [putsL]
       change pureTo _ _ (Sem.run _ (execOp (Act.eval _) _) _)
       try simp only [Act.put, sIA, sCS, sCZ]
       simp [go_sem, pureTo]
       (all_goals try simp (disch := omega) only [IntWalk.i64_in]); all_goals rfl
      refine fq 3 rfl rfl rfl (fun _ _ h he => h.ext he) rfl rfl ?_; apply Exists.intro; constructor
      ·intro sv w' hw' hfa
       refine ⟨rfl, ?_⟩; simp only [putsL]; change qT _; simp only [qT, Act.put, sIA, sCS, sCZ]; simp [go_sem, quietTo, Ext.refl]; all_goals rfl
      refine fq 4 rfl rfl rfl (fun _ _ h he => h.ext he) rfl rfl ?_; apply Exists.intro; constructor
      ·intro sv w' hw' hfa
       refine ⟨rfl, ?_⟩; simp only [putsL]; change qT _; simp only [qT, Act.put, sIA, sCS, sCZ]; simp [go_sem, quietTo, Ext.refl]; all_goals rfl
      refine fq 5 rfl rfl rfl (fun _ _ h he => h.ext he) rfl rfl ?_; apply Exists.intro; constructor
      ·rintro sv w' hw' ⟨(f4 : sv 4 = _), -⟩; (try dsimp only at f4)
       refine ⟨rfl, ?_⟩; simp only [putsL]; change qT (pT _ 102 (sv 4)); simp only [qT, pT, Act.put, sIA, sCS, sCZ]; simp [go_sem, quietTo, Ext.refl, f4]; all_goals rfl
      refine fq 6 rfl rfl rfl (fun _ _ h he => h.ext he) rfl rfl ?_; apply Exists.intro; constructor
      ·rintro sv w' hw' ⟨_, (f5 : sv 5 = _), -⟩; (try dsimp only at f5)
       refine ⟨rfl, ?_⟩; simp only [putsL]; change qT (pT (pT _ 103 (sv 5)) 102 (sv 4)); simp only [qT, pT, Act.put, sIA, sCS, sCZ]; simp [go_sem, quietTo, Ext.refl, f5]; all_goals rfl
      refine fq 7 rfl rfl rfl (fun _ _ h he => h.ext he) rfl rfl ?_; apply Exists.intro; constructor
      ·rintro sv w' hw' ⟨_, _, (f6 : sv 6 = _), -⟩; (try dsimp only at f6)
       have d0 : w'.cell? ⟨g, i * 7, none⟩ = some (.string x.by_) := (hw'.cell hgl hgs _).trans c0
       have d1 : w'.cell? ⟨g, i * 7 + 1, none⟩ = some (.int .i64 x.no) := (hw'.cell hgl hgs _).trans c1
       have d2 : w'.cell? ⟨g, i * 7 + 2, none⟩ = some (.int .i64 x.at_) := (hw'.cell hgl hgs _).trans c2
       have d4 : w'.cell? ⟨g, i * 7 + 4, none⟩ = some (.string x.piece) := (hw'.cell hgl hgs _).trans c4
       have d6 : w'.cell? ⟨g, i * 7 + 6, none⟩ = some (.string x.singer) := (hw'.cell hgl hgs _).trans c6
       refine ⟨rfl, ?_⟩; simp only [putsL]; change qT (pT (pT (pT _ 104 (sv 6)) 103 (sv 5)) 102 (sv 4)); simp only [qT, pT, Act.put, sIA, sCS, sCZ]; simp [go_sem, quietTo, Ext.refl, ↓IntWalk.iteOmega, f6, d0, d1, d2]; (all_goals try simp (disch := omega) only [IntWalk.i64_in]); all_goals rfl
      refine fac_row 8 rfl rfl rfl (fun _ _ h he => h.ext he) (fun _ _ h => h.2.2.2.1) (fun _ _ _ _ _ he hg hb => hb.extS (Nat.ne_of_gt (Nat.lt_of_lt_of_le hsl hg)) he) ?_
      apply Exists.intro
      apply Exists.intro
      apply Exists.intro
      apply Exists.intro
      refine ⟨fun sv w' hw' hfa => ?_, ?_⟩
      ·obtain ⟨_, _, _, (f7 : sv 7 = _), -⟩ := hfa; (try dsimp only at f7)
       refine ⟨rfl, ?_⟩; simp only [putsL]; change rowTo _ _ _ _ _ (Sem.run _ (execOp (Act.eval (pT (pT (pT (pT _ 105 (sv 7)) 104 (sv 6)) 103 (sv 5)) 102 (sv 4))) _) _); (try simp only [pT, Act.put, sIA, sCS, sCZ]); simp [go_sem, rowTo, Ext.refl, f7]; (all_goals try simp (disch := omega) only [IntWalk.i64_in]); all_goals first | rfl | exact ⟨rfl, rfl⟩ | exact ⟨⟨rfl, rfl⟩, rfl⟩
      refine fac_loud 9 rfl rfl rfl ?_
      refine ⟨(fun y _ => ∃ nm : ByteArray, nm.size ≤ 1000000 ∧ y 9 = .string nm), (fun w => Str w s (k + 103 + 0 + 1)), fun sv w' hw' hfa hcc => ?_, ?_, ?_, ?_⟩
      ·obtain ⟨(f3 : sv 3 = _), (f4 : sv 4 = _), (f5 : sv 5 = _), (f6 : sv 6 = _), (f7 : sv 7 = _), f8, -⟩ := hfa; (try dsimp only at f3 f4 f5 f6 f7)
       obtain ⟨g8, f8, l8, b8⟩ := f8; replace f8 : sv 8 = _ := f8; obtain ⟨p8, q8⟩ := b8.walk
       have d0 : w'.cell? ⟨g, i * 7, none⟩ = some (.string x.by_) := (hw'.cell hgl hgs _).trans c0
       have d1 : w'.cell? ⟨g, i * 7 + 1, none⟩ = some (.int .i64 x.no) := (hw'.cell hgl hgs _).trans c1
       have d2 : w'.cell? ⟨g, i * 7 + 2, none⟩ = some (.int .i64 x.at_) := (hw'.cell hgl hgs _).trans c2
       have d4 : w'.cell? ⟨g, i * 7 + 4, none⟩ = some (.string x.piece) := (hw'.cell hgl hgs _).trans c4
       have d6 : w'.cell? ⟨g, i * 7 + 6, none⟩ = some (.string x.singer) := (hw'.cell hgl hgs _).trans c6
       refine ⟨rfl, ?_⟩
       simp only [putsL]
       change outc _ _ (Sem.run _ (execOp (Act.eval (pT (pT (pT (pT (pT (pT _ 106 (sv 8)) 105 (sv 7)) 104 (sv 6)) 103 (sv 5)) 102 (sv 4)) 101 (sv 3))) _) _)
       try simp only [pT, Act.put, sIA, sCS, sCZ]
       simp [go_sem, outc, f3, f8, p8, q8, d0, d1, d2]
       refine (somes_any s (k + 103 + 0) _ _ 2 [x.by_, ⟨#[]⟩] _ (by omega) (by simp) (by simp) hcc (by omega) b8).mono ?_
       rintro e w4 ⟨y, hy, rfl, hS4, hE4⟩
       refine ⟨_, rfl, ⟨hE4, hS4⟩, y, ?_, rfl⟩
       rcases (by simpa using hy : y = x.by_ ∨ y = ⟨#[]⟩) with rfl | rfl
       ·exact s1
       ·exact Nat.zero_le _
      ·intro x w w' h he; exact h
      ·exact fun _ _ h he => h.ext he
      refine fq 10 rfl rfl rfl (fun _ _ h he => h.ext he) rfl rfl ?_; apply Exists.intro; constructor
      ·intro sv w' hw' hfa
       refine ⟨rfl, ?_⟩; simp only [putsL]; change qT _; simp only [qT, Act.put, sIA, sCS, sCZ]; simp [go_sem, quietTo, Ext.refl]; all_goals rfl
      refine fq 11 rfl rfl rfl (fun _ _ h he => h.ext he) rfl rfl ?_; apply Exists.intro; constructor
      ·intro sv w' hw' hfa
       refine ⟨rfl, ?_⟩; simp only [putsL]; change qT _; simp only [qT, Act.put, sIA, sCS, sCZ]; simp [go_sem, quietTo, Ext.refl]; all_goals rfl
      refine fq 12 rfl rfl rfl (fun _ _ h he => h.ext he) rfl rfl ?_; apply Exists.intro; constructor
      ·rintro sv w' hw' ⟨(f11 : sv 11 = _), -⟩; (try dsimp only at f11)
       refine ⟨rfl, ?_⟩; simp only [putsL]; change qT (pT _ 109 (sv 11)); simp only [qT, pT, Act.put, sIA, sCS, sCZ]; simp [go_sem, quietTo, Ext.refl, f11]; all_goals rfl
      refine fq 13 rfl rfl rfl (fun _ _ h he => h.ext he) rfl rfl ?_; apply Exists.intro; constructor
      ·rintro sv w' hw' ⟨_, (f12 : sv 12 = _), -⟩; (try dsimp only at f12)
       refine ⟨rfl, ?_⟩; simp only [putsL]; change qT (pT (pT _ 110 (sv 12)) 109 (sv 11)); simp only [qT, pT, Act.put, sIA, sCS, sCZ]; simp [go_sem, quietTo, Ext.refl, f12]; all_goals rfl
      refine fq 14 rfl rfl rfl (fun _ _ h he => h.ext he) rfl rfl ?_; apply Exists.intro; constructor
      ·rintro sv w' hw' ⟨_, _, (f13 : sv 13 = _), -⟩; (try dsimp only at f13)
       have d0 : w'.cell? ⟨g, i * 7, none⟩ = some (.string x.by_) := (hw'.cell hgl hgs _).trans c0
       have d1 : w'.cell? ⟨g, i * 7 + 1, none⟩ = some (.int .i64 x.no) := (hw'.cell hgl hgs _).trans c1
       have d2 : w'.cell? ⟨g, i * 7 + 2, none⟩ = some (.int .i64 x.at_) := (hw'.cell hgl hgs _).trans c2
       have d4 : w'.cell? ⟨g, i * 7 + 4, none⟩ = some (.string x.piece) := (hw'.cell hgl hgs _).trans c4
       have d6 : w'.cell? ⟨g, i * 7 + 6, none⟩ = some (.string x.singer) := (hw'.cell hgl hgs _).trans c6
       refine ⟨rfl, ?_⟩; simp only [putsL]; change qT (pT (pT (pT _ 111 (sv 13)) 110 (sv 12)) 109 (sv 11)); simp only [qT, pT, Act.put, sIA, sCS, sCZ]; simp [go_sem, quietTo, Ext.refl, ↓IntWalk.iteOmega, f13, d0, d1, d2]; (all_goals try simp (disch := omega) only [IntWalk.i64_in]); all_goals rfl
      refine fac_row 15 rfl rfl rfl (fun _ _ h he => h.ext he) (fun _ _ h => h.2.2.2.1) (fun _ _ _ _ _ he hg hb => hb.extS (Nat.ne_of_gt (Nat.lt_of_lt_of_le hsl hg)) he) ?_
      apply Exists.intro
      apply Exists.intro
      apply Exists.intro
      apply Exists.intro
      refine ⟨fun sv w' hw' hfa => ?_, ?_⟩
      ·obtain ⟨_, _, _, (f14 : sv 14 = _), -⟩ := hfa; (try dsimp only at f14)
       refine ⟨rfl, ?_⟩; simp only [putsL]; change rowTo _ _ _ _ _ (Sem.run _ (execOp (Act.eval (pT (pT (pT (pT _ 112 (sv 14)) 111 (sv 13)) 110 (sv 12)) 109 (sv 11))) _) _); (try simp only [pT, Act.put, sIA, sCS, sCZ]); simp [go_sem, rowTo, Ext.refl, f14]; (all_goals try simp (disch := omega) only [IntWalk.i64_in]); all_goals first | rfl | exact ⟨rfl, rfl⟩ | exact ⟨⟨rfl, rfl⟩, rfl⟩
      refine fac_loud 16 rfl rfl rfl ?_
      refine ⟨(fun y _ => ∃ z : Int, y 16 = .int .i64 z), (fun w => Str w s (k + 103 + 1 + 1)), fun sv w' hw' hfa hcc => ?_, ?_, ?_, ?_⟩
      ·obtain ⟨(f10 : sv 10 = _), (f11 : sv 11 = _), (f12 : sv 12 = _), (f13 : sv 13 = _), (f14 : sv 14 = _), f15, -⟩ := hfa; (try dsimp only at f10 f11 f12 f13 f14)
       obtain ⟨g15, f15, l15, b15⟩ := f15; replace f15 : sv 15 = _ := f15; obtain ⟨p15, q15⟩ := b15.walk
       have d0 : w'.cell? ⟨g, i * 7, none⟩ = some (.string x.by_) := (hw'.cell hgl hgs _).trans c0
       have d1 : w'.cell? ⟨g, i * 7 + 1, none⟩ = some (.int .i64 x.no) := (hw'.cell hgl hgs _).trans c1
       have d2 : w'.cell? ⟨g, i * 7 + 2, none⟩ = some (.int .i64 x.at_) := (hw'.cell hgl hgs _).trans c2
       have d4 : w'.cell? ⟨g, i * 7 + 4, none⟩ = some (.string x.piece) := (hw'.cell hgl hgs _).trans c4
       have d6 : w'.cell? ⟨g, i * 7 + 6, none⟩ = some (.string x.singer) := (hw'.cell hgl hgs _).trans c6
       refine ⟨rfl, ?_⟩
       simp only [putsL]
       change outc _ _ (Sem.run _ (execOp (Act.eval (pT (pT (pT (pT (pT (pT _ 113 (sv 15)) 112 (sv 14)) 111 (sv 13)) 110 (sv 12)) 109 (sv 11)) 108 (sv 10))) _) _)
       try simp only [pT, Act.put, sIA, sCS, sCZ]
       simp [go_sem, outc, f10, f15, p15, q15, d0, d1, d2]
       refine (pick_blk s (k + 103 + 1) _ _ 3 [x.no, 0,1] _ (by omega) (by simp) (by simp) hcc (by omega) b15).mono ?_
       rintro e w4 ⟨v, hv, rfl, hS4, hE4⟩
       exact ⟨_, rfl, ⟨hE4, hS4⟩, _, rfl⟩
      ·intro x w w' h he; exact h
      ·exact fun _ _ h he => h.ext he
      refine fq 17 rfl rfl rfl (fun _ _ h he => h.ext he) rfl rfl ?_; apply Exists.intro; constructor
      ·intro sv w' hw' hfa
       refine ⟨rfl, ?_⟩; simp only [putsL]; change qT _; simp only [qT, Act.put, sIA, sCS, sCZ]; simp [go_sem, quietTo, Ext.refl]; all_goals rfl
      refine fq 18 rfl rfl rfl (fun _ _ h he => h.ext he) rfl rfl ?_; apply Exists.intro; constructor
      ·intro sv w' hw' hfa
       refine ⟨rfl, ?_⟩; simp only [putsL]; change qT _; simp only [qT, Act.put, sIA, sCS, sCZ]; simp [go_sem, quietTo, Ext.refl]; all_goals rfl
      refine fq 19 rfl rfl rfl (fun _ _ h he => h.ext he) rfl rfl ?_; apply Exists.intro; constructor
      ·rintro sv w' hw' ⟨(f18 : sv 18 = _), -⟩; (try dsimp only at f18)
       refine ⟨rfl, ?_⟩; simp only [putsL]; change qT (pT _ 116 (sv 18)); simp only [qT, pT, Act.put, sIA, sCS, sCZ]; simp [go_sem, quietTo, Ext.refl, f18]; all_goals rfl
      refine fq 20 rfl rfl rfl (fun _ _ h he => h.ext he) rfl rfl ?_; apply Exists.intro; constructor
      ·rintro sv w' hw' ⟨_, (f19 : sv 19 = _), -⟩; (try dsimp only at f19)
       refine ⟨rfl, ?_⟩; simp only [putsL]; change qT (pT (pT _ 117 (sv 19)) 116 (sv 18)); simp only [qT, pT, Act.put, sIA, sCS, sCZ]; simp [go_sem, quietTo, Ext.refl, f19]; all_goals rfl
      refine fq 21 rfl rfl rfl (fun _ _ h he => h.ext he) rfl rfl ?_; apply Exists.intro; constructor
      ·rintro sv w' hw' ⟨_, _, (f20 : sv 20 = _), -⟩; (try dsimp only at f20)
       have d0 : w'.cell? ⟨g, i * 7, none⟩ = some (.string x.by_) := (hw'.cell hgl hgs _).trans c0
       have d1 : w'.cell? ⟨g, i * 7 + 1, none⟩ = some (.int .i64 x.no) := (hw'.cell hgl hgs _).trans c1
       have d2 : w'.cell? ⟨g, i * 7 + 2, none⟩ = some (.int .i64 x.at_) := (hw'.cell hgl hgs _).trans c2
       have d4 : w'.cell? ⟨g, i * 7 + 4, none⟩ = some (.string x.piece) := (hw'.cell hgl hgs _).trans c4
       have d6 : w'.cell? ⟨g, i * 7 + 6, none⟩ = some (.string x.singer) := (hw'.cell hgl hgs _).trans c6
       refine ⟨rfl, ?_⟩; simp only [putsL]; change qT (pT (pT (pT _ 118 (sv 20)) 117 (sv 19)) 116 (sv 18)); simp only [qT, pT, Act.put, sIA, sCS, sCZ]; simp [go_sem, quietTo, Ext.refl, ↓IntWalk.iteOmega, f20, d0, d1, d2]; (all_goals try simp (disch := omega) only [IntWalk.i64_in]); all_goals rfl
      refine fac_row 22 rfl rfl rfl (fun _ _ h he => h.ext he) (fun _ _ h => h.2.2.2.1) (fun _ _ _ _ _ he hg hb => hb.extS (Nat.ne_of_gt (Nat.lt_of_lt_of_le hsl hg)) he) ?_
      apply Exists.intro
      apply Exists.intro
      apply Exists.intro
      apply Exists.intro
      refine ⟨fun sv w' hw' hfa => ?_, ?_⟩
      ·obtain ⟨_, _, _, (f21 : sv 21 = _), -⟩ := hfa; (try dsimp only at f21)
       refine ⟨rfl, ?_⟩; simp only [putsL]; change rowTo _ _ _ _ _ (Sem.run _ (execOp (Act.eval (pT (pT (pT (pT _ 119 (sv 21)) 118 (sv 20)) 117 (sv 19)) 116 (sv 18))) _) _); (try simp only [pT, Act.put, sIA, sCS, sCZ]); simp [go_sem, rowTo, Ext.refl, f21]; (all_goals try simp (disch := omega) only [IntWalk.i64_in]); all_goals first | rfl | exact ⟨rfl, rfl⟩ | exact ⟨⟨rfl, rfl⟩, rfl⟩
      refine fac_loud 23 rfl rfl rfl ?_
      refine ⟨(fun y _ => ∃ z : Int, y 23 = .int .i64 z), (fun w => Str w s (k + 103 + 2 + 1)), fun sv w' hw' hfa hcc => ?_, ?_, ?_, ?_⟩
      ·obtain ⟨(f17 : sv 17 = _), (f18 : sv 18 = _), (f19 : sv 19 = _), (f20 : sv 20 = _), (f21 : sv 21 = _), f22, -⟩ := hfa; (try dsimp only at f17 f18 f19 f20 f21)
       obtain ⟨g22, f22, l22, b22⟩ := f22; replace f22 : sv 22 = _ := f22; obtain ⟨p22, q22⟩ := b22.walk
       have d0 : w'.cell? ⟨g, i * 7, none⟩ = some (.string x.by_) := (hw'.cell hgl hgs _).trans c0
       have d1 : w'.cell? ⟨g, i * 7 + 1, none⟩ = some (.int .i64 x.no) := (hw'.cell hgl hgs _).trans c1
       have d2 : w'.cell? ⟨g, i * 7 + 2, none⟩ = some (.int .i64 x.at_) := (hw'.cell hgl hgs _).trans c2
       have d4 : w'.cell? ⟨g, i * 7 + 4, none⟩ = some (.string x.piece) := (hw'.cell hgl hgs _).trans c4
       have d6 : w'.cell? ⟨g, i * 7 + 6, none⟩ = some (.string x.singer) := (hw'.cell hgl hgs _).trans c6
       refine ⟨rfl, ?_⟩
       simp only [putsL]
       change outc _ _ (Sem.run _ (execOp (Act.eval (pT (pT (pT (pT (pT (pT _ 120 (sv 22)) 119 (sv 21)) 118 (sv 20)) 117 (sv 19)) 116 (sv 18)) 115 (sv 17))) _) _)
       try simp only [pT, Act.put, sIA, sCS, sCZ]
       simp [go_sem, outc, f17, f22, p22, q22, d0, d1, d2]
       refine (pick_blk s (k + 103 + 2) _ _ 3 [x.at_, -1,3] _ (by omega) (by simp) (by simp) hcc (by omega) b22).mono ?_
       rintro e w4 ⟨v, hv, rfl, hS4, hE4⟩
       exact ⟨_, rfl, ⟨hE4, hS4⟩, _, rfl⟩
      ·intro x w w' h he; exact h
      ·exact fun _ _ h he => h.ext he
      refine fq 24 rfl rfl rfl (fun _ _ h he => h.ext he) rfl rfl ?_; apply Exists.intro; constructor
      ·rintro sv w' hw' ⟨(f0 : sv 0 = _), -⟩; (try dsimp only at f0)
       refine ⟨rfl, ?_⟩; simp only [putsL]; change qT (pT _ 98 (sv 0)); simp only [qT, pT, Act.put, sIA, sCS, sCZ]; simp [go_sem, quietTo, Ext.refl, f0]; all_goals rfl
      refine fq 25 rfl rfl rfl (fun _ _ h he => h.ext he) rfl rfl ?_; apply Exists.intro; constructor
      ·rintro sv w' hw' ⟨_, (f24 : sv 24 = _), -⟩; (try dsimp only at f24)
       refine ⟨rfl, ?_⟩; simp only [putsL]; change qT (pT (pT _ 122 (sv 24)) 98 (sv 0)); simp only [qT, pT, Act.put, sIA, sCS, sCZ]; simp [go_sem, quietTo, Ext.refl, f24]; all_goals rfl
      refine fac_nil fun xq wrq herq hfrq hcrq holdq hapq => ?_
      obtain ⟨(f0 : xq 0 = _), (f1 : xq 1 = _), (f2 : xq 2 = _), (f3 : xq 3 = _), (f4 : xq 4 = _), (f5 : xq 5 = _), (f6 : xq 6 = _), (f7 : xq 7 = _), f8, f9, f10, f11, f12, f13, f14, f15, f16, f17, f18, f19, f20, f21, f22, f23, f24, f25, -⟩ := hfrq; (try dsimp only at f0 f1 f2 f3 f4 f5 f6 f7)
      obtain ⟨g8, f8, l8, b8⟩ := f8; replace f8 : xq 8 = _ := f8; obtain ⟨p8, q8⟩ := b8.walk
      obtain ⟨nm, hnm, f9⟩ := f9
      replace f9 : xq 9 = _ := f9; replace f10 : xq 10 = _ := f10
      try dsimp only at f10
      replace f11 : xq 11 = _ := f11
      try dsimp only at f11
      replace f12 : xq 12 = _ := f12
      try dsimp only at f12
      replace f13 : xq 13 = _ := f13
      try dsimp only at f13
      replace f14 : xq 14 = _ := f14
      try dsimp only at f14
      obtain ⟨g15, f15, l15, b15⟩ := f15; replace f15 : xq 15 = _ := f15; obtain ⟨p15, q15⟩ := b15.walk
      obtain ⟨z16, f16⟩ := f16
      replace f16 : xq 16 = _ := f16; replace f17 : xq 17 = _ := f17
      try dsimp only at f17
      replace f18 : xq 18 = _ := f18
      try dsimp only at f18
      replace f19 : xq 19 = _ := f19
      try dsimp only at f19
      replace f20 : xq 20 = _ := f20
      try dsimp only at f20
      replace f21 : xq 21 = _ := f21
      try dsimp only at f21
      obtain ⟨g22, f22, l22, b22⟩ := f22; replace f22 : xq 22 = _ := f22; obtain ⟨p22, q22⟩ := b22.walk
      obtain ⟨z23, f23⟩ := f23
      replace f23 : xq 23 = _ := f23; replace f24 : xq 24 = _ := f24
      try dsimp only at f24
      replace f25 : xq 25 = _ := f25
      try dsimp only at f25
      change wpList _ _ _ _ (pT (pT (pT (pT (pT (pT (pT (pT (pT (pT (pT (pT (pT (pT (pT (pT (pT (pT (pT (pT (pT (pT (pT (pT (pT (pT _ 98 (xq 0)) 99 (xq 1)) 100 (xq 2)) 101 (xq 3)) 102 (xq 4)) 103 (xq 5)) 104 (xq 6)) 105 (xq 7)) 106 (xq 8)) 107 (xq 9)) 108 (xq 10)) 109 (xq 11)) 110 (xq 12)) 111 (xq 13)) 112 (xq 14)) 113 (xq 15)) 114 (xq 16)) 115 (xq 17)) 116 (xq 18)) 117 (xq 19)) 118 (xq 20)) 119 (xq 21)) 120 (xq 22)) 121 (xq 23)) 122 (xq 24)) 123 (xq 25)) _
      simp only [putsL, Nat.reduceAdd, List.drop_succ_cons, List.drop_zero, List.drop_nil, pT, Act.put, sIA, sCS, sCZ]
      try simp only [f0, f1, f2, f3, f4, f5, f6, f7, f8, f9, f10, f11, f12, f13, f14, f15, f16, f17, f18, f19, f20, f21, f22, f23, f24, f25]
      clear f0 f1 f2 f3 f4 f5 f6 f7 f10 f11 f12 f13 f14 f17 f18 f19 f20 f21 f24 f25; clear holdq hapq
      have hoq := own_extS herq (by omega) (World.ownsRow.drew ho4.out)
      have hEq : ExtS s w wrq := ((hE4'.drew).trans herq)
      clear ho4 hE4' herq c0 c1 c2 c3 c4 c5 c6 hS4 hS4d hsl hsld hgl
      have c0 : wrq.cell? ⟨g, i * 7, none⟩ = some (.string x.by_) := own_cell slipC_len hoq hx.out 0 rfl hi
      have c1 : wrq.cell? ⟨g, i * 7 + 1, none⟩ = some (.int .i64 x.no) := own_cell slipC_len hoq hx.out 1 rfl hi
      have c2 : wrq.cell? ⟨g, i * 7 + 2, none⟩ = some (.int .i64 x.at_) := own_cell slipC_len hoq hx.out 2 rfl hi
      have c3 : wrq.cell? ⟨g, i * 7 + 3, none⟩ = some (.int .i64 x.kind) := own_cell slipC_len hoq hx.out 3 rfl hi
      have c6 : wrq.cell? ⟨g, i * 7 + 6, none⟩ = some (.string x.singer) := own_cell slipC_len hoq hx.out 6 rfl hi
      have z0 : ∀ o, wrq.frozen? ⟨g, o, none⟩ = false := fun o => hoq.frozenAt o
      have hres := hset ⟨nm, z16, z23, x.kind, x.piece, x.copy, x.singer⟩ (by exact ⟨hnm, s2, s3⟩) (k + 103 + 2 + 1) (by omega) _ (sli_mod3 hoq hx.out nm z16 z23) (((hcrq.set (p := ⟨g, i * 7, none⟩) hsg (.string nm)).set (p := ⟨g, i * 7 + 1, none⟩) hsg (.int .i64 z16)).set (p := ⟨g, i * 7 + 2, none⟩) hsg (.int .i64 z23)) (((hEq.setCell (p := ⟨g, i * 7, none⟩) (.inr hwg) (.string nm)).setCell (p := ⟨g, i * 7 + 1, none⟩) (.inr hwg) (.int .i64 z16)).setCell (p := ⟨g, i * 7 + 2, none⟩) (.inr hwg) (.int .i64 z23))
      replace hoq := Lib.hid hoq; replace hres := Lib.hid hres; clear hg
      go_wp2
      go_ret
      exact hres.out
     ·skip
      go_upto_region 24 with fail
      refine wp_region_facts [1] [([],false,false),([],false,false),([],false,false),([2], true, false),([],false,false),([],false,false),([5],false,false),([5,6],false,false),([5,6,7],false,false),([5,6,7,8], false, true),([4,5,6,7,8,9], true, false),([0],false,false),([0,11],false,false)] (ExtS s) Ext (fun w => Str w s (k + 103)) (by kernel_rfl) (by kernel_rfl) Ext.refl (fun _ _ _ => ExtS.trans) (fun _ _ h => h.extS) (fun _ _ h => h.2.2.2.1) (fun _ _ h he => h.ext he) hS4d ?_
      dsimp only [List.length_cons, List.length_nil, List.drop_succ_cons, List.drop_zero, List.drop_nil]
      refine fq 0 rfl rfl rfl (fun _ _ h he => h.ext he) rfl rfl ?_; apply Exists.intro; constructor
      ·intro sv w' hw' hfa
       refine ⟨rfl, ?_⟩; simp only [putsL]; change qT _; simp only [qT, Act.put, sIA, sCS, sCZ]; simp [go_sem, quietTo, Ext.refl]; all_goals rfl
      refine fac_late 1 rfl rfl Ext.refl (fun _ _ h he => h.ext he) rfl rfl (fun _ _ _ _ h => h) ?_; apply Exists.intro; constructor
      ·intro sv w' hw' hfa
       refine ⟨rfl, fun w2 => ?_⟩
       simp only [putsL]
       change pureTo _ _ (Sem.run _ (execOp (Act.eval _) _) _)
       try simp only [Act.put, sIA, sCS, sCZ]
       simp [go_sem, pureTo]
       (all_goals try simp (disch := omega) only [IntWalk.i64_in]); all_goals rfl
      refine fq 2 rfl rfl rfl (fun _ _ h he => h.ext he) rfl rfl ?_; apply Exists.intro; constructor
      ·intro sv w' hw' hfa
       refine ⟨rfl, ?_⟩; simp only [putsL]; change qT _; simp only [qT, Act.put, sIA, sCS, sCZ]; simp [go_sem, quietTo, Ext.refl]; all_goals rfl
      refine fac_loud 3 rfl rfl rfl ?_
      refine ⟨(fun y _ => ∃ z : Int, y 3 = .int .i64 z), (fun w => Str w s (k + 103 + 0 + 2)), fun sv w' hw' hfa hcc => ?_, ?_, ?_, ?_⟩
      ·obtain ⟨(f2 : sv 2 = _), -⟩ := hfa; (try dsimp only at f2)
       have d0 : w'.cell? ⟨g, i * 7, none⟩ = some (.string x.by_) := (hw'.cell hgl hgs _).trans c0
       have d1 : w'.cell? ⟨g, i * 7 + 1, none⟩ = some (.int .i64 x.no) := (hw'.cell hgl hgs _).trans c1
       have d2 : w'.cell? ⟨g, i * 7 + 2, none⟩ = some (.int .i64 x.at_) := (hw'.cell hgl hgs _).trans c2
       have d4 : w'.cell? ⟨g, i * 7 + 4, none⟩ = some (.string x.piece) := (hw'.cell hgl hgs _).trans c4
       have d6 : w'.cell? ⟨g, i * 7 + 6, none⟩ = some (.string x.singer) := (hw'.cell hgl hgs _).trans c6
       refine ⟨rfl, ?_⟩
       simp only [putsL]
       change outc _ _ (Sem.run _ (execOp (Act.eval (pT _ 132 (sv 2))) _) _)
       try simp only [pT, Act.put, sIA, sCS, sCZ]
       simp [go_sem, outc, f2, d6]
       refine (odd_any s (k + 103 + 0) 1 5 _ (by omega) (by omega) (by omega) (by omega) (by omega) hcc).mono ?_
       rintro e w4 ⟨y, rfl, ya, yb, hS4, hE4⟩
       exact ⟨_, rfl, ⟨hE4, hS4⟩, y, rfl⟩
      ·intro x w w' h he; exact h
      ·exact fun _ _ h he => h.ext he
      refine fq 4 rfl rfl rfl (fun _ _ h he => h.ext he) rfl rfl ?_; apply Exists.intro; constructor
      ·intro sv w' hw' hfa
       refine ⟨rfl, ?_⟩; simp only [putsL]; change qT _; simp only [qT, Act.put, sIA, sCS, sCZ]; simp [go_sem, quietTo, Ext.refl]; all_goals rfl
      refine fq 5 rfl rfl rfl (fun _ _ h he => h.ext he) rfl rfl ?_; apply Exists.intro; constructor
      ·intro sv w' hw' hfa
       refine ⟨rfl, ?_⟩; simp only [putsL]; change qT _; simp only [qT, Act.put, sIA, sCS, sCZ]; simp [go_sem, quietTo, Ext.refl]; all_goals rfl
      refine fq 6 rfl rfl rfl (fun _ _ h he => h.ext he) rfl rfl ?_; apply Exists.intro; constructor
      ·rintro sv w' hw' ⟨(f5 : sv 5 = _), -⟩; (try dsimp only at f5)
       refine ⟨rfl, ?_⟩; simp only [putsL]; change qT (pT _ 135 (sv 5)); simp only [qT, pT, Act.put, sIA, sCS, sCZ]; simp [go_sem, quietTo, Ext.refl, f5]; all_goals rfl
      refine fq 7 rfl rfl rfl (fun _ _ h he => h.ext he) rfl rfl ?_; apply Exists.intro; constructor
      ·rintro sv w' hw' ⟨_, (f6 : sv 6 = _), -⟩; (try dsimp only at f6)
       refine ⟨rfl, ?_⟩; simp only [putsL]; change qT (pT (pT _ 136 (sv 6)) 135 (sv 5)); simp only [qT, pT, Act.put, sIA, sCS, sCZ]; simp [go_sem, quietTo, Ext.refl, f6]; all_goals rfl
      refine fq 8 rfl rfl rfl (fun _ _ h he => h.ext he) rfl rfl ?_; apply Exists.intro; constructor
      ·rintro sv w' hw' ⟨_, _, (f7 : sv 7 = _), -⟩; (try dsimp only at f7)
       have d0 : w'.cell? ⟨g, i * 7, none⟩ = some (.string x.by_) := (hw'.cell hgl hgs _).trans c0
       have d1 : w'.cell? ⟨g, i * 7 + 1, none⟩ = some (.int .i64 x.no) := (hw'.cell hgl hgs _).trans c1
       have d2 : w'.cell? ⟨g, i * 7 + 2, none⟩ = some (.int .i64 x.at_) := (hw'.cell hgl hgs _).trans c2
       have d4 : w'.cell? ⟨g, i * 7 + 4, none⟩ = some (.string x.piece) := (hw'.cell hgl hgs _).trans c4
       have d6 : w'.cell? ⟨g, i * 7 + 6, none⟩ = some (.string x.singer) := (hw'.cell hgl hgs _).trans c6
       refine ⟨rfl, ?_⟩; simp only [putsL]; change qT (pT (pT (pT _ 137 (sv 7)) 136 (sv 6)) 135 (sv 5)); simp only [qT, pT, Act.put, sIA, sCS, sCZ]; simp [go_sem, quietTo, Ext.refl, ↓IntWalk.iteOmega, f7, d6]; (all_goals try simp (disch := omega) only [IntWalk.i64_in]); all_goals rfl
      refine fac_row 9 rfl rfl rfl (fun _ _ h he => h.ext he) (fun _ _ h => h.2.2.2.1) (fun _ _ _ _ _ he hg hb => hb.extS (Nat.ne_of_gt (Nat.lt_of_lt_of_le hsl hg)) he) ?_
      apply Exists.intro
      apply Exists.intro
      apply Exists.intro
      apply Exists.intro
      refine ⟨fun sv w' hw' hfa => ?_, ?_⟩
      ·obtain ⟨_, _, _, (f8 : sv 8 = _), -⟩ := hfa; (try dsimp only at f8)
       refine ⟨rfl, ?_⟩; simp only [putsL]; change rowTo _ _ _ _ _ (Sem.run _ (execOp (Act.eval (pT (pT (pT (pT _ 138 (sv 8)) 137 (sv 7)) 136 (sv 6)) 135 (sv 5))) _) _); (try simp only [pT, Act.put, sIA, sCS, sCZ]); simp [go_sem, rowTo, Ext.refl, f8]; (all_goals try simp (disch := omega) only [IntWalk.i64_in]); all_goals first | rfl | exact ⟨rfl, rfl⟩ | exact ⟨⟨rfl, rfl⟩, rfl⟩
      refine fac_loud 10 rfl rfl rfl ?_
      refine ⟨(fun y _ => ∃ nm : ByteArray, nm.size ≤ 1000000 ∧ y 10 = .string nm), (fun w => Str w s (k + 103 + 2 + 1)), fun sv w' hw' hfa hcc => ?_, ?_, ?_, ?_⟩
      ·obtain ⟨(f4 : sv 4 = _), (f5 : sv 5 = _), (f6 : sv 6 = _), (f7 : sv 7 = _), (f8 : sv 8 = _), f9, -⟩ := hfa; (try dsimp only at f4 f5 f6 f7 f8)
       obtain ⟨g9, f9, l9, b9⟩ := f9; replace f9 : sv 9 = _ := f9; obtain ⟨p9, q9⟩ := b9.walk
       have d0 : w'.cell? ⟨g, i * 7, none⟩ = some (.string x.by_) := (hw'.cell hgl hgs _).trans c0
       have d1 : w'.cell? ⟨g, i * 7 + 1, none⟩ = some (.int .i64 x.no) := (hw'.cell hgl hgs _).trans c1
       have d2 : w'.cell? ⟨g, i * 7 + 2, none⟩ = some (.int .i64 x.at_) := (hw'.cell hgl hgs _).trans c2
       have d4 : w'.cell? ⟨g, i * 7 + 4, none⟩ = some (.string x.piece) := (hw'.cell hgl hgs _).trans c4
       have d6 : w'.cell? ⟨g, i * 7 + 6, none⟩ = some (.string x.singer) := (hw'.cell hgl hgs _).trans c6
       refine ⟨rfl, ?_⟩
       simp only [putsL]
       change outc _ _ (Sem.run _ (execOp (Act.eval (pT (pT (pT (pT (pT (pT _ 139 (sv 9)) 138 (sv 8)) 137 (sv 7)) 136 (sv 6)) 135 (sv 5)) 134 (sv 4))) _) _)
       try simp only [pT, Act.put, sIA, sCS, sCZ]
       simp [go_sem, outc, f4, f9, p9, q9, d6]
       refine (somes_any s (k + 103 + 2) _ _ 3 [x.singer, ⟨#[]⟩, ⟨#[97,110,110]⟩] _ (by omega) (by simp) (by simp) hcc (by omega) b9).mono ?_
       rintro e w4 ⟨y, hy, rfl, hS4, hE4⟩
       refine ⟨_, rfl, ⟨hE4, hS4⟩, y, ?_, rfl⟩
       rcases (by simpa using hy : y = x.singer ∨ y = ⟨#[]⟩ ∨ y = ⟨#[97,110,110]⟩) with rfl | rfl | rfl
       ·exact s3
       ·exact Nat.zero_le _
       ·decide
      ·intro x w w' h he; exact h
      ·exact fun _ _ h he => h.ext he
      refine fq 11 rfl rfl rfl (fun _ _ h he => h.ext he) rfl rfl ?_; apply Exists.intro; constructor
      ·rintro sv w' hw' ⟨(f0 : sv 0 = _), -⟩; (try dsimp only at f0)
       refine ⟨rfl, ?_⟩; simp only [putsL]; change qT (pT _ 130 (sv 0)); simp only [qT, pT, Act.put, sIA, sCS, sCZ]; simp [go_sem, quietTo, Ext.refl, f0]; all_goals rfl
      refine fq 12 rfl rfl rfl (fun _ _ h he => h.ext he) rfl rfl ?_; apply Exists.intro; constructor
      ·rintro sv w' hw' ⟨_, (f11 : sv 11 = _), -⟩; (try dsimp only at f11)
       refine ⟨rfl, ?_⟩; simp only [putsL]; change qT (pT (pT _ 141 (sv 11)) 130 (sv 0)); simp only [qT, pT, Act.put, sIA, sCS, sCZ]; simp [go_sem, quietTo, Ext.refl, f11]; all_goals rfl
      refine fac_nil fun xq wrq herq hfrq hcrq holdq hapq => ?_
      obtain ⟨(f0 : xq 0 = _), (f1 : xq 1 = _), (f2 : xq 2 = _), f3, f4, f5, f6, f7, f8, f9, f10, f11, f12, -⟩ := hfrq; (try dsimp only at f0 f1 f2)
      obtain ⟨z3, f3⟩ := f3
      replace f3 : xq 3 = _ := f3; replace f4 : xq 4 = _ := f4
      try dsimp only at f4
      replace f5 : xq 5 = _ := f5
      try dsimp only at f5
      replace f6 : xq 6 = _ := f6
      try dsimp only at f6
      replace f7 : xq 7 = _ := f7
      try dsimp only at f7
      replace f8 : xq 8 = _ := f8
      try dsimp only at f8
      obtain ⟨g9, f9, l9, b9⟩ := f9; replace f9 : xq 9 = _ := f9; obtain ⟨p9, q9⟩ := b9.walk
      obtain ⟨nm, hnm, f10⟩ := f10
      replace f10 : xq 10 = _ := f10; replace f11 : xq 11 = _ := f11
      try dsimp only at f11
      replace f12 : xq 12 = _ := f12
      try dsimp only at f12
      change wpList _ _ _ _ (pT (pT (pT (pT (pT (pT (pT (pT (pT (pT (pT (pT (pT _ 130 (xq 0)) 131 (xq 1)) 132 (xq 2)) 133 (xq 3)) 134 (xq 4)) 135 (xq 5)) 136 (xq 6)) 137 (xq 7)) 138 (xq 8)) 139 (xq 9)) 140 (xq 10)) 141 (xq 11)) 142 (xq 12)) _
      simp only [putsL, Nat.reduceAdd, List.drop_succ_cons, List.drop_zero, List.drop_nil, pT, Act.put, sIA, sCS, sCZ]
      try simp only [f0, f1, f2, f3, f4, f5, f6, f7, f8, f9, f10, f11, f12]
      clear f0 f1 f2 f4 f5 f6 f7 f8 f11 f12; clear holdq hapq
      have hoq := own_extS herq (by omega) (World.ownsRow.drew ho4.out)
      have hEq : ExtS s w wrq := ((hE4'.drew).trans herq)
      clear ho4 hE4' herq c0 c1 c2 c3 c4 c5 c6 hS4 hS4d hsl hsld hgl
      have c0 : wrq.cell? ⟨g, i * 7, none⟩ = some (.string x.by_) := own_cell slipC_len hoq hx.out 0 rfl hi
      have c1 : wrq.cell? ⟨g, i * 7 + 1, none⟩ = some (.int .i64 x.no) := own_cell slipC_len hoq hx.out 1 rfl hi
      have c2 : wrq.cell? ⟨g, i * 7 + 2, none⟩ = some (.int .i64 x.at_) := own_cell slipC_len hoq hx.out 2 rfl hi
      have c3 : wrq.cell? ⟨g, i * 7 + 3, none⟩ = some (.int .i64 x.kind) := own_cell slipC_len hoq hx.out 3 rfl hi
      have c6 : wrq.cell? ⟨g, i * 7 + 6, none⟩ = some (.string x.singer) := own_cell slipC_len hoq hx.out 6 rfl hi
      have z0 : ∀ o, wrq.frozen? ⟨g, o, none⟩ = false := fun o => hoq.frozenAt o
      have hres := hset ⟨x.by_, x.no, x.at_, z3, x.piece, x.copy, nm⟩ (by exact ⟨s1, s2, hnm⟩) (k + 103 + 2 + 1) (by omega) _ (sli_mod36 hoq hx.out z3 nm) ((hcrq.set (p := ⟨g, i * 7 + 3, none⟩) hsg (.int .i64 z3)).set (p := ⟨g, i * 7 + 6, none⟩) hsg (.string nm)) ((hEq.setCell (p := ⟨g, i * 7 + 3, none⟩) (.inr hwg) (.int .i64 z3)).setCell (p := ⟨g, i * 7 + 6, none⟩) (.inr hwg) (.string nm))
      replace hoq := Lib.hid hoq; replace hres := Lib.hid hres; clear hg
      go_wp2
      go_ret
      exact hres.out
     ·have l4 := hS4.lt
      go_wp2_with (first
       | (go_at_call 9; go_loud (refine (somes_any s (k + 103) _ _ 2 [x.piece, ⟨#[]⟩] _ (by omega) (by simp) (by simp) (by exact (hS4.more (by omega)).ext (Ext.alloc (Ext.refl _) _)) (by exact Nat.ne_of_gt l4) (by exact Blk.new' rfl)).mono ?_; rintro e w5 ⟨nm, hnm, rfl, hS5, hE5⟩; have hE5' := (hE4'.alloc _).trans hE5; have ho5 := own_extS hE5 (by omega) (ho4.out.alloc _); clear hS4 hE4' hE5))
       | (go_at_call 55; go_loud (refine (odd_any s (k + 103 + 1) 1 500 _ (by omega) (by omega) (by omega) (by omega) (by omega) hS5).mono ?_; rintro e wrq ⟨z5, rfl, hz1, hz2, hcrq, hE6⟩; have hEq := hE5'.trans hE6; have hoq := own_extS hE6 (by omega) ho5; clear hS5 hE5' hE6 ho5; have c4 : wrq.cell? ⟨g, i * 7 + 4, none⟩ = some (.string x.piece) := own_cell slipC_len hoq hx.out 4 rfl hi; have c5 : wrq.cell? ⟨g, i * 7 + 5, none⟩ = some (.int .i64 x.copy) := own_cell slipC_len hoq hx.out 5 rfl hi; have z0 : ∀ o, wrq.frozen? ⟨g, o, none⟩ = false := fun o => hoq.frozenAt o; replace hoq := Lib.hid hoq)))
      have hns : nm.size ≤ 1000000 := by
       rcases (by simpa using hnm : nm = x.piece ∨ nm = ⟨#[]⟩) with rfl | rfl
       ·exact s2
       ·exact Nat.zero_le _
      go_ret
      exact hset ⟨x.by_, x.no, x.at_, x.kind, nm, z5, x.singer⟩ ⟨s1, hns, s3⟩ (k + 103 + 1 + 2) (by omega) _ (sli_mod45 hoq.out hx.out nm z5) ((hcrq.set (p := ⟨g, i * 7 + 4, none⟩) hsg (.string nm)).set (p := ⟨g, i * 7 + 5, none⟩) hsg (.int .i64 z5)) ((hEq.setCell (p := ⟨g, i * 7 + 4, none⟩) (.inr hwg) (.string nm)).setCell (p := ⟨g, i * 7 + 5, none⟩) (.inr hwg) (.int .i64 z5))
end Go.Proofs.YtkjhbofbcmelgaaGreatDoor
