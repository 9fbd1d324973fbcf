/- More of the stream: flips, ranges, picks. Conditions: as each theorem says. -/
import Derived.Test.YtachmdaiecbenaaGreatDoorSbStream
set_option linter.unusedSimpArgs false
set_option linter.unusedVariables false
namespace Go.Proofs.YtachmdaiecbenaaGreatDoor
open Go Go.RowKit

set_option maxRecDepth 100000 in
theorem flip_any (s k m : Nat) (w : World) (hk : k ≤ 1000000) (hm : 1 ≤ m) (hm' : m ≤ 1000000) (h : Str w s k) :
    Calls Tryz.prog 34 #[.pointer (some ⟨s, 0, none⟩), .int .i64 m] w fun e w' => ∃ b : Bool, e = .returned (.bool b) ∧ Str w' s (k + 1) ∧ ExtS s w w' := by
  go_enter Tryz.func34, Tryz.ntmps34
  go_wp2_with (go_at_call 37; refine (next_any s k m _ hk hm (by omega) h).mono ?_; rintro e w1 ⟨v, rfl, hv, hS, hE⟩)
  go_ret
  exact ⟨_, rfl, hS, hE⟩

set_option maxRecDepth 100000 in
theorem range_any (s k : Nat) (lo hi : Int) (w : World) (hk : k ≤ 1000000) (hl : lo ≤ hi) (h0 : -1000000 ≤ lo) (h1 : hi ≤ 1000000000) (hd : hi - lo < 1000000000) (h : Str w s k) :
    Calls Tryz.prog 35 #[.pointer (some ⟨s, 0, none⟩), .int .i64 lo, .int .i64 hi] w fun e w' => ∃ v : Int, e = .returned (.int .i64 v) ∧ lo ≤ v ∧ v ≤ hi ∧ Str w' s (k + 1) ∧ ExtS s w w' := by
  obtain ⟨m, hm⟩ : ∃ m : Nat, hi - lo + 1 = m := ⟨(hi - lo + 1).toNat, by omega⟩
  have hN := next_any s k m w hk (by omega) (by omega) h
  replace hN := Lib.hid hN
  go_enter Tryz.func35, Tryz.ntmps35
  go_wp2_with (go_at_call 37; with_reducible refine Calls.mono hN.out ?_; rintro e w1 ⟨v, rfl, hv, hS, hE⟩)
  go_ret
  exact ⟨_, rfl, by omega, by omega, hS, hE⟩

set_option maxRecDepth 100000 in
theorem pick_any (s k b off cap : Nat) (xs : List Int) (w : World) (hk : k ≤ 1000000) (hn : 1 ≤ xs.length) (hn' : xs.length ≤ 1000000) (h : Str w s k) (hb : b < w.heap.size) (hs : b ≠ s)
    (hc : ∀ i, i < xs.length → w.cell? ⟨b, off + i, none⟩ = some (.int .i64 (xs.getD i 0))) :
    Calls Tryz.prog 12 #[.pointer (some ⟨s, 0, none⟩), .slice (some ⟨b, off, none⟩) xs.length cap] w fun e w' =>
      ∃ v : Nat, v < xs.length ∧ e = .returned (.int .i64 (xs.getD v 0)) ∧ Str w' s (k + 1) ∧ ExtS s w w' := by
  have hN := next_any s k xs.length w hk hn (by omega) h
  replace hN := Lib.hid hN
  replace hc := Lib.hid hc
  go_enter Tryz.func12, Tryz.ntmps12
  go_wp2_with (go_at_call 37; refine hN.out.mono ?_; rintro e w1 ⟨v, rfl, hv, hS, hE⟩; have hx := (hE.cell hb hs (off + v)).trans (hc.out v hv))
  go_ret
  exact ⟨v, hv, ret_int (by simp [hv]), hS, hE⟩

theorem pick_blk (s k b t cap : Nat) (xs : List Int) (w : World) (hk : k ≤ 1000000) (hn : 1 ≤ xs.length) (hn' : xs.length ≤ 1000000) (h : Str w s k) (hs : b ≠ s) (hb : Blk w b t (xs.map (Value.int .i64)).toArray) :
    Calls Tryz.prog 12 #[.pointer (some ⟨s, 0, none⟩), .slice (some ⟨b, 0, none⟩) xs.length cap] w fun e w' =>
      ∃ v : Nat, v < xs.length ∧ e = .returned (.int .i64 (xs.getD v 0)) ∧ Str w' s (k + 1) ∧ ExtS s w w' :=
  pick_any s k b 0 cap xs w hk hn hn' h hb.lt hs fun i hi => by rw [hb.cell]; simp [hi]
theorem odd_pick (lo hi : Int) (h0 : -1000000 ≤ lo) (h1 : hi ≤ 1000000000) (hl : lo ≤ hi) (v : Nat) (hv : v < 6) :
    -1099511627776 ≤ [lo - 1, hi + 1, lo, hi, -1099511627776, 1099511627776].getD v 0 ∧ [lo - 1, hi + 1, lo, hi, -1099511627776, 1099511627776].getD v 0 ≤ 1099511627776 := by
  have : v = 0 ∨ v = 1 ∨ v = 2 ∨ v = 3 ∨ v = 4 ∨ v = 5 := by omega
  rcases this with rfl | rfl | rfl | rfl | rfl | rfl <;> simp <;> omega

set_option maxRecDepth 100000 in
theorem odd_any (s k : Nat) (lo hi : Int) (w : World) (hk : k ≤ 999999) (hl : lo ≤ hi) (h0 : -1000000 ≤ lo) (h1 : hi ≤ 1000000000) (hd : hi - lo < 1000000000) (h : Str w s k) :
    Calls Tryz.prog 36 #[.pointer (some ⟨s, 0, none⟩), .int .i64 lo, .int .i64 hi] w fun e w' => ∃ v : Int, e = .returned (.int .i64 v) ∧ -1099511627776 ≤ v ∧ v ≤ 1099511627776 ∧ Str w' s (k + 2) ∧ ExtS s w w' := by
  go_enter Tryz.func36, Tryz.ntmps36
  go_wp2_with (first
    | (go_at_call 34; refine (flip_any s k 12 _ (by omega) (by omega) (by omega) h).mono ?_; rintro e w1 ⟨b, rfl, hS, hE⟩; cases b)
    | (go_at_call 35; refine (range_any s (k + 1) lo hi _ (by omega) hl h0 h1 hd hS).mono ?_; rintro e w2 ⟨v, rfl, hv1, hv2, hS2, hE2⟩)
    | (go_at_call 12; have l1 := hS.lt; refine (pick_blk s (k + 1) _ _ 6 [lo - 1, hi + 1, lo, hi, -1099511627776, 1099511627776] _ (by omega) (by simp) (by simp) (hS.ext (Ext.alloc (Ext.refl _) _)) (Nat.ne_of_gt l1) (Blk.new' rfl)).mono ?_; rintro e w2 ⟨v, hv, rfl, hS2, hE2⟩))
  · go_ret
    exact ⟨_, rfl, by omega, by omega, hS2, hE.trans hE2⟩
  · have hp := odd_pick lo hi h0 h1 hl v hv
    go_ret
    exact ⟨_, rfl, hp.1, hp.2, hS2, hE.trans (((ExtS.refl _ _).alloc _).trans hE2)⟩

end Go.Proofs.YtachmdaiecbenaaGreatDoor
