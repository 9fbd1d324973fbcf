/- A library that the stream makes. Conditions: sizes. -/
import Derived.Test.YtkjhbofbcmelgaaGreatDoorEzSlK
import Derived.Test.YtkjhbofbcmelgaaGreatDoorEzLbK
set_option linter.unusedSimpArgs false
set_option linter.unusedVariables false
namespace Go.Proofs.YtkjhbofbcmelgaaGreatDoor
open Go Go.RowKit
theorem titleInfo : (Tryz.prog.info? 97).map (fun i => (i.zero, i.size, i.bytes)) = some (some (.agg #[.string ⟨#[]⟩, .int .i64 0, .int .i64 0]), 3,32) := by kernel_rfl
theorem results_Trow {P : Program} {fn : Func} {p q : Tmp} {ty : TypeId} (h : fn.results = #[.tmp q, .cell p ty]) (tmps : Array Value) (w : World) (g : Nat) (t : TypeId) (cs : Array Value) (fr : Nat × Nat) (d : TypeDesc)
 (hp : tmps.getD p undef = .pointer (some ⟨g, 0, none⟩)) (hg : w.heap[g]? = some (.cells cs t fr))
 (hu : P.underlying ty = some d) (hd : (match d with | .struct _ | .array _ _ => true | _ => false) = true) (hi : (P.info? ty).map (·.size) = some cs.size) (v : Value) (hq : tmps.getD q undef = v) :
 (results fn tmps).run P w = .ok (.tuple #[v, .agg cs]) w := by
 have hp' : tmps[p]?.getD undef = .pointer (some ⟨g, 0, none⟩) := by simpa using hp
 have hq' : tmps[q]?.getD undef = v := by simpa using hq
 simp [results, h, hp', hq', asAddr, run_loadVar_row w g t ty cs fr d hg hu hd hi]
def set4 (w : World) (g : Nat) (r : LendR) : World := (((w.setCell ⟨g, 0, none⟩ (.int .i64 r.days)).setCell ⟨g, 1, none⟩ (.int .i64 r.late)).setCell ⟨g, 2, none⟩ (.int .i64 r.most)).setCell ⟨g, 3, none⟩ (.int .i64 r.each)
def lendC (r : LendR) : Array Value := #[.int .i64 r.days, .int .i64 r.late, .int .i64 r.most, .int .i64 r.each]
theorem set4_blk {w : World} {g : Nat} {r r' : LendR} (h : Blk w g 28 (lendC r')) : Blk (set4 w g r) g 28 (lendC r) := by
 unfold set4
 refine Blk.cast ((((h.set_ 0 _).set_ 1 _).set_ 2 _).set_ 3 _) ?_
 simp [lendC]
theorem lib_end {R : Ending → World → Prop} {a : Act} {W : World} {g : Nat} {v : Value} (r r' : LendR) (hB : Blk W g 28 (lendC r')) (h3 : a.tmps.getD 3 undef = .pointer (some ⟨g, 0, none⟩)) (h2 : a.tmps.getD 2 undef = v) (hd : a.defers = [])
 (hR : R (.returned (.tuple #[v, lendVal r])) (set4 W g r)) : bodyPost Tryz.prog Tryz.f6 R .ret a (set4 W g r) :=
 bodyPost_ret (results_Trow Tryz.results6 _ _ g 28 _ (0,0) _ h3 (set4_blk (r := r) hB) Tryz.underlying28 rfl (by kernel_rfl) _ h2) hd hR
theorem set4S {s k : Nat} {w : World} {g : Nat} (h : Str w s k) (hg : s < g) (r : LendR) : Str (set4 w g r) s k := by
 unfold set4
 exact (((h.set (p := ⟨g, 0, none⟩) hg _).set (p := ⟨g, 1, none⟩) hg _).set (p := ⟨g, 2, none⟩) hg _).set (p := ⟨g, 3, none⟩) hg _
theorem ti_mod {w : World} {base g n cap : Nat} {xs : List TitleV} (h : w.ownsRow base 97 3 (.slice (some ⟨g, 0, none⟩) n cap) n (xs.flatMap titleC)) {i : Nat} {x : TitleV} (hx : xs[i]? = some x) (a : ByteArray) (b c : Int) :
 (((w.setCell ⟨g, i * 3, none⟩ (.string a)).setCell ⟨g, i * 3 + 1, none⟩ (.int .i64 b)).setCell ⟨g, i * 3 + 2, none⟩ (.int .i64 c)).ownsRow base 97 3 (.slice (some ⟨g, 0, none⟩) n cap) n ((xs.set i ⟨a, b, c⟩).flatMap titleC) := by
 have hil := (List.getElem?_eq_some_iff.1 hx).1
 have hs : ∀ y : TitleV, (xs.set i y)[i]? = some y := fun y => List.getElem?_set_self hil
 have h1 := own_set1 titleC_len h ⟨a, x.owned, x.cost⟩ hx 0 (by decide) (.string a) rfl
 have h2 := own_set1 titleC_len h1 ⟨a, b, x.cost⟩ (hs _) 1 (by decide) (.int .i64 b) rfl
 rw [List.set_set] at h2
 have h3 := own_set1 titleC_len h2 ⟨a, b, c⟩ (hs _) 2 (by decide) (.int .i64 c) rfl
 rw [List.set_set] at h3
 exact h3
def tiBlk : Array Value := #[.string ⟨#[97,118,101]⟩, .string ⟨#[103,108,111,114,105,97]⟩, .string ⟨#[107,121,114,105,101]⟩]
/-- What the maker of a library answers. -/
def LibS_R (s k : Nat) (w : World) (e : Ending) (w' : World) : Prop := ∃ (p : Option Addr) (n c : Nat) (T : List TitleV) (r : LendR), e = .returned (.tuple #[.slice p n c, lendVal r]) ∧ n ≤ 3 ∧ w'.ownsRow (w.heap.size + 2) 97 3 (.slice p n c) n (T.flatMap titleC) ∧ T.length = n ∧ (∀ x ∈ T, x.Small) ∧ Str w' s (k + 40) ∧ ExtS s w w'
/-- Titles so far; the rows of names and of the answer. -/
structure LbW (s k n0 : Nat) (w0 : World) (v : Value) (T : List TitleV) (w : World) : Prop where
 own : w.ownsRow (n0 + 2) 97 3 v T.length (T.flatMap titleC)
 small : ∀ x ∈ T, x.Small
 len : T.length ≤ 3
 names : Blk w (n0 + 1) 9 tiBlk
 ans : Blk w n0 28 (lendC ⟨0,0,0,0⟩)
 str : Str w s k
 ext : ExtS s w0 w
theorem LbW.step {s k n0 : Nat} {w0 w w' : World} {v : Value} {T : List TitleV} (h : LbW s k n0 w0 v T w) (hs : s < n0) {k' : Nat} (hS : Str w' s k') (hE : ExtS s w w') : LbW s k' n0 w0 v T w' :=
 ⟨own_extS hE (by omega) h.own, h.small, h.len, h.names.extS (by omega) hE, h.ans.extS (by omega) hE, hS, h.ext.trans hE⟩
theorem LbW.alloc {s k n0 : Nat} {w0 w : World} {v : Value} {T : List TitleV} (h : LbW s k n0 w0 v T w) (o : Obj) : LbW s k n0 w0 v T (w.alloc o) :=
 ⟨h.own.alloc o, h.small, h.len, h.names.alloc o, h.ans.alloc o, h.str.ext ((Ext.refl w).alloc o), h.ext.alloc o⟩
theorem LbW.far {s k n0 : Nat} {w0 w : World} {v : Value} {T : List TitleV} (h : LbW s k n0 w0 v T w) {g : Nat} {cs : Array Value} (hB : Blk w g 28 cs) (hg : n0 + 1 < g) (hs : s < g) (h0 : w0.heap.size ≤ g) (o : Nat) (u : Value) : LbW s k n0 w0 v T (w.setCell ⟨g, o, none⟩ u) :=
 ⟨h.own.kept (grown_set w ⟨g, o, none⟩ u) (.inr fun e => own_no h.own hB (by decide) e), h.small, h.len, h.names.far (p := ⟨g, o, none⟩) (by show n0 + 1 ≠ g; omega) u, h.ans.far (p := ⟨g, o, none⟩) (by show n0 ≠ g; omega) u, h.str.set (p := ⟨g, o, none⟩) hs u, h.ext.setCell (p := ⟨g, o, none⟩) (.inr h0) u⟩
theorem LbW.set4 {s k n0 : Nat} {w0 w : World} {v : Value} {T : List TitleV} (h : LbW s k n0 w0 v T w) {g : Nat} {cs : Array Value} (hB : Blk w g 28 cs) (hg : n0 + 1 < g) (hs : s < g) (h0 : w0.heap.size ≤ g) (r : LendR) : LbW s k n0 w0 v T (set4 w g r) := by
 unfold Go.Proofs.YtkjhbofbcmelgaaGreatDoor.set4
 exact (((h.far hB hg hs h0 0 _).far (hB.set_ 0 _) hg hs h0 1 _).far ((hB.set_ 0 _).set_ 1 _) hg hs h0 2 _).far (((hB.set_ 0 _).set_ 1 _).set_ 2 _) hg hs h0 3 _
theorem LbW.more {s k k' n0 : Nat} {w0 w : World} {v : Value} {T : List TitleV} (h : LbW s k n0 w0 v T w) (hk : k ≤ k') : LbW s k' n0 w0 v T w := ⟨h.own, h.small, h.len, h.names, h.ans, h.str.more hk, h.ext⟩
theorem LbW.fin {s k n0 : Nat} {w0 w : World} {p : Option Addr} {m c : Nat} {T : List TitleV} (h : LbW s (k + 40) n0 w0 (.slice p m c) T w) (hm : T.length = m) (hn0 : w0.heap.size = n0) (hs : s < n0) (r : LendR) : LibS_R s k w0 (.returned (.tuple #[.slice p m c, lendVal r])) (Go.Proofs.YtkjhbofbcmelgaaGreatDoor.set4 w n0 r) := by
 have hE : ExtS s w0 (Go.Proofs.YtkjhbofbcmelgaaGreatDoor.set4 w n0 r) := by
  unfold Go.Proofs.YtkjhbofbcmelgaaGreatDoor.set4
  exact (((h.ext.setCell (p := ⟨n0,0, none⟩) (.inr (by show _ ≤ n0; omega)) _).setCell (p := ⟨n0,1, none⟩) (.inr (by show _ ≤ n0; omega)) _).setCell (p := ⟨n0,2, none⟩) (.inr (by show _ ≤ n0; omega)) _).setCell (p := ⟨n0,3, none⟩) (.inr (by show _ ≤ n0; omega)) _
 have hO : (Go.Proofs.YtkjhbofbcmelgaaGreatDoor.set4 w n0 r).ownsRow (n0 + 2) 97 3 (.slice p m c) T.length (T.flatMap titleC) := by
  have e : ∀ g, (Value.slice p m c).ownBlock = some g → g ≠ n0 := fun g hg e => by have := (h.own.lt g hg).1; omega
  unfold Go.Proofs.YtkjhbofbcmelgaaGreatDoor.set4
  exact (((h.own.kept (grown_set _ ⟨n0,0, none⟩ _) (.inr fun e2 => e _ e2 rfl)).kept (grown_set _ ⟨n0,1, none⟩ _) (.inr fun e2 => e _ e2 rfl)).kept (grown_set _ ⟨n0,2, none⟩ _) (.inr fun e2 => e _ e2 rfl)).kept (grown_set _ ⟨n0,3, none⟩ _) (.inr fun e2 => e _ e2 rfl)
 exact ⟨p, m, c, T, r, rfl, by have := h.len; omega, by rw [hn0, ← hm]; rw [← hm] at hO; exact hO, hm, h.small, set4S h.str hs r, hE⟩
set_option maxRecDepth 100000 in
set_option maxHeartbeats 6400000 in
theorem library_any (s k : Nat) (w : World) (hk : k ≤ 900000) (h : Str w s k) :
 Calls Tryz.prog 6 #[.pointer (some ⟨s, 0, none⟩)] w (LibS_R s k w) := by
 have l0 := h.lt
 have hW0 : LbW s k w.heap.size w (.slice none 0 0) [] ((w.alloc (.cells #[.int .i64 0, .int .i64 0, .int .i64 0, .int .i64 0] 28)).alloc (.cells tiBlk 9)) :=
  ⟨World.ownsRow_nil _ _ _ _, by simp, by simp, Blk.new' (by simp), (Blk.new' rfl).alloc _, (h.ext ((Ext.refl _).alloc _)).ext ((Ext.refl _).alloc _), ((ExtS.refl s w).alloc _).alloc _⟩
 replace hW0 := Lib.hid hW0; clear h
 go_enter Tryz.func6, Tryz.ntmps6
 go_wp2
 generalize hn0 : w.heap.size = n0 at *
 replace hn0 := Lib.hid hn0
 go_loopw [4,11] (fun v4 v11 wr => ∃ (j : Nat) (T : List TitleV) (v : Value), j ≤ 3 ∧ v11 = .int .i64 j ∧ v = v4 ∧ T.length ≤ j ∧ LbW s (k + 3 * j) n0 w v T wr) (fun _ v11 _ => 3 - (intOf v11).toNat)
 case atStart => exact ⟨0,[], _, by omega, rfl, rfl, by simp, hW0.out⟩
 case round =>
  clear hW0
  obtain ⟨j, T, v, hj, rfl, rfl, hTj, hW⟩ := hrel
  by_cases hlt : j < 3
  ·have hc : ∃ nm : ByteArray, nm.size ≤ 1000 ∧ wr.cell? ⟨n0 + 1, j, none⟩ = some (.string nm) := by
    have h3 : j = 0 ∨ j = 1 ∨ j = 2 := by omega
    rcases h3 with rfl | rfl | rfl
    ·exact ⟨⟨#[97,118,101]⟩, by decide, hW.names.cell 0⟩
    ·exact ⟨⟨#[103,108,111,114,105,97]⟩, by decide, hW.names.cell 1⟩
    ·exact ⟨⟨#[107,121,114,105,101]⟩, by decide, hW.names.cell 2⟩
   obtain ⟨nm, hns, hcell⟩ := hc
   have hjI : (j : Int) < 3 := by omega
   have lnm := hW.names.lt
   have hfl := flip_any s (k + 3 * j) 5 wr (by omega) (by omega) (by omega) hW.str
   replace hfl := Lib.hid hfl; replace hW := Lib.hid hW
   go_upto_if 17 with (go_at_call 40; (with_reducible refine Calls.mono hfl.out ?_); rintro e w2 ⟨bb, rfl, hS2, hE2⟩; have hW2 := hW.out.step (by omega) hS2 hE2; clear hW hS2 hE2)
   cases bb
   ·have hrg := range_any s (k + 3 * j + 1) 1 3 w2 (by omega) (by omega) (by omega) (by omega) (by omega) hW2.str
    replace hrg := Lib.hid hrg; replace hW2 := Lib.hid hW2
    go_wp2_with (first
     | (go_at_call 39; (with_reducible refine Calls.mono hrg.out ?_); rintro e w3 ⟨r0, rfl, hr1, hr3, hS3, hE3⟩; have hW3 := hW2.out.step (by omega) hS3 hE3; clear hS3 hE3)
     | (go_at_call 10; have l3 := hW3.str.lt; refine (pick_in s (k + 3 * j + 1 + 1) _ _ 3 [0,500,800] 0 800 _ (by omega) (by simp) (by simp) (by exact hW3.str.ext (Ext.alloc (Ext.refl _) _)) (by exact Nat.ne_of_gt l3) (by exact Blk.new' rfl) (by decide)).mono ?_; rintro e w4 ⟨c0, hc1, hc8, rfl, hS4, hE4⟩; have hW4 := (hW3.alloc _).step (by omega) hS4 hE4; have hw4s := hW4.ans.lt; have hw4n := hW4.names.lt; clear hS4 hE4)
     | (at_builtin; go_loud (refine wp_app1 _ (.tmp 18) (.tmp 26) 26 97 3 32 _ rfl rfl Tryz.underlying26 titleInfo rfl (by decide) (by decide) (n0 + 2) _ T.length _ rfl (hW4.own.alloc _) _ (titleC ⟨nm, r0, c0⟩) rfl rfl (Blk.new' rfl) (titleC_one _) (by omega) (by simp; omega) ?_; intro v' w6 hown6 hgrow6 _)))
    have hW5 := hW4.alloc (.cells (titleC ⟨nm, r0, c0⟩).toArray 97)
    have hl6 : (T ++ [(⟨nm, r0, c0⟩ : TitleV)]).length = T.length + 1 := by simp
    have hW6 : LbW s (k + 3 * j + 1 + 1 + 1) n0 w v' (T ++ [⟨nm, r0, c0⟩]) w6 := ⟨by rw [hl6, flat_snoc]; exact hown6, (fun z hz => (List.mem_append.1 hz).elim (hW5.small z) fun h => by rw [List.mem_singleton.1 h]; exact ⟨hns, by show _ ≤ r0; omega, by show r0 ≤ _; omega, by show _ ≤ c0; omega, by show c0 ≤ _; omega⟩), by rw [hl6]; omega, hW5.names.app hW5.own (by omega) hgrow6, hW5.ans.app hW5.own (by omega) hgrow6, hW5.str.app hW5.own (by omega) hgrow6, hW5.ext.app hW5.own (by have := hn0.out; omega) hgrow6⟩
    go_roundw
    case rel => exact ⟨j + 1, T ++ [⟨nm, r0, c0⟩], v', by omega, by go_num, rfl, by omega, hW6.more (by omega)⟩
    case measure => simp [intOf]; omega
   ·replace hW2 := Lib.hid hW2
    go_wp2
    go_roundw
    case rel => exact ⟨j + 1, T, _, by omega, by go_num, rfl, by omega, ⟨hW2.out.own, hW2.out.small, hW2.out.len, hW2.out.names, hW2.out.ans, hW2.out.str.more (by omega), hW2.out.ext⟩⟩
    case measure => simp [intOf]; omega
  ·obtain rfl : j = 3 := by omega
   go_upto_if 43 with (first
    | (go_at_call 10; have l5 := hW.str.lt; refine (pick_in s (k + 3 * 3) _ _ 3 [1,3,10] 1 10 _ (by omega) (by simp) (by simp) (by exact hW.str.ext (Ext.alloc (Ext.refl _) _)) (by exact Nat.ne_of_gt l5) (by exact Blk.new' rfl) (by decide)).mono ?_; rintro e w5 ⟨za, hza1, hza2, rfl, hS5, hE5⟩; have hV5 := (hW.alloc _).step (by omega) hS5 hE5; clear hS5 hE5 hW)
    | (go_at_call 10; have l6 := hV5.str.lt; refine (pick_in s (k + 3 * 3 + 1) _ _ 2 [0,50] 0 50 _ (by omega) (by simp) (by simp) (by exact hV5.str.ext (Ext.alloc (Ext.refl _) _)) (by exact Nat.ne_of_gt l6) (by exact Blk.new' rfl) (by decide)).mono ?_; rintro e w6 ⟨zb, hzb1, hzb2, rfl, hS6, hE6⟩; have hV6 := (hV5.alloc _).step (by omega) hS6 hE6; clear hS6 hE6 hV5)
    | (go_at_call 10; have l7 := hV6.str.lt; refine (pick_in s (k + 3 * 3 + 2) _ _ 3 [0,120,200] 0 200 _ (by omega) (by simp) (by simp) (by exact hV6.str.ext (Ext.alloc (Ext.refl _) _)) (by exact Nat.ne_of_gt l7) (by exact Blk.new' rfl) (by decide)).mono ?_; rintro e w7 ⟨zc, hzc1, hzc2, rfl, hS7, hE7⟩; have hV7 := (hV6.alloc _).step (by omega) hS7 hE7; clear hS7 hE7 hV6)
    | (go_at_call 10; have l8 := hV7.str.lt; refine (pick_in s (k + 3 * 3 + 3) _ _ 3 [1,2,2] 1 2 _ (by omega) (by simp) (by simp) (by exact hV7.str.ext (Ext.alloc (Ext.refl _) _)) (by exact Nat.ne_of_gt l8) (by exact Blk.new' rfl) (by decide)).mono ?_; rintro e w8 ⟨zd, hzd1, hzd2, rfl, hS8, hE8⟩; have hV8 := (hV7.alloc _).step (by omega) hS8 hE8; clear hS8 hE8 hV7)
    | (go_at_call 40; have hV9 := hV8.alloc (.cells (lendC ⟨za, zb, zc, zd⟩) 28); refine (flip_any s (k + 3 * 3 + 4) 15 _ (by omega) (by omega) (by omega) hV9.str).mono ?_; rintro e w10 ⟨bb, rfl, hS10, hE10⟩; have hR9 : Blk (w8.alloc (.cells (lendC ⟨za, zb, zc, zd⟩) 28)) w8.heap.size 28 (lendC ⟨za, zb, zc, zd⟩) := Blk.new' rfl; have hg8 := hV8.names.lt; have hs8 := hV8.str.lt; have hR10 := hR9.extS (by omega) hE10; have hV10 := hV9.step (by omega) hS10 hE10; clear hS10 hE10 hR9 hV9))
   have hbas := hn0.out
   have hg7a : n0 + 1 < w8.heap.size := hg8
   have hg7s : s < w8.heap.size := hs8
   generalize w8.heap.size = g7 at *
   clear hV8 hg8 hs8
   go_cut [] (fun w' => ∃ r : LendR, Blk w' g7 28 (lendC r) ∧ LbW s (k + 3 * 3 + 4 + 1 + 8) n0 w v T w')
   case first =>
    cases bb
    ·go_wp2
     go_meet
     exact ⟨_, hR10, hV10.more (by omega)⟩
    ·have o1 := odd_any s (k + 3 * 3 + 4 + 1) 1 10 _ (by omega) (by omega) (by omega) (by omega) (by omega) hV10.str
     replace o1 := Lib.hid o1; replace hR10 := Lib.hid hR10; replace hV10 := Lib.hid hV10
     go_wp2_with (first
      | (go_at_call 55; (with_reducible refine Calls.mono o1.out ?_); rintro e w11 ⟨q1, rfl, -, -, hS11, hE11⟩; have hV11 := hV10.out.step (by omega) hS11 hE11; have hR11 := hR10.out.extS (by omega) hE11; clear hS11 hE11 o1)
      | (go_at_call 55; (with_reducible refine Calls.mono (odd_any s (k + 3 * 3 + 4 + 1 + 2) 0 50 _ (by omega) (by omega) (by omega) (by omega) (by omega) hV11.str) ?_); rintro e w12 ⟨q2, rfl, -, -, hS12, hE12⟩; have hV12 := hV11.step (by omega) hS12 hE12; have hR12 := hR11.extS (by omega) hE12; clear hS12 hE12 hV11 hR11)
      | (go_at_call 55; (with_reducible refine Calls.mono (odd_any s (k + 3 * 3 + 4 + 1 + 2 + 2) 0 200 _ (by omega) (by omega) (by omega) (by omega) (by omega) hV12.str) ?_); rintro e w13 ⟨q3, rfl, -, -, hS13, hE13⟩; have hV13 := hV12.step (by omega) hS13 hE13; have hR13 := hR12.extS (by omega) hE13; clear hS13 hE13 hV12 hR12)
      | (go_at_call 55; (with_reducible refine Calls.mono (odd_any s (k + 3 * 3 + 4 + 1 + 2 + 2 + 2) 1 3 _ (by omega) (by omega) (by omega) (by omega) (by omega) hV13.str) ?_); rintro e w14 ⟨q4, rfl, -, -, hS14, hE14⟩; have hV14 := hV13.step (by omega) hS14 hE14; have hR14 := hR13.extS (by omega) hE14; clear hS14 hE14 hV13 hR13; have lr := hR14.lt; obtain ⟨rc, rf⟩ := hR14.walk; have r0 := rc 0; have r1 := rc 1; have r2 := rc 2; have r3 := rc 3; unfold lendC at r0 r1 r2 r3; clear rc; replace hR14 := Lib.hid hR14; replace hV14 := Lib.hid hV14))
     go_meet
     exact ⟨⟨q1, q2, q3, q4⟩, set4_blk (r := ⟨q1, q2, q3, q4⟩) hR14.out, (hV14.out.set4 hR14.out hg7a hg7s (by omega) ⟨q1, q2, q3, q4⟩).more (by omega)⟩
   case rest =>
    clear hR10 hV10
    obtain ⟨r, hR7, hV7⟩ := hcut
    generalize wc = w7 at *
    have hTl3 := hV7.len
    rcases Nat.eq_zero_or_pos T.length with h0 | h0
    ·obtain ⟨p9, c9, rfl, -⟩ := slc_of_own titleC_len hV7.own (by decide) (by omega)
     have h0I : ¬ (0 : Int) < (T.length : Int) := by omega
     replace h0 := Lib.hid h0
     have r0 := hR7.cell 0
     have r1 := hR7.cell 1
     have r2 := hR7.cell 2
     have r3 := hR7.cell 3
     have lr := hR7.lt
     unfold lendC at r0 r1 r2 r3
     replace hR7 := Lib.hid hR7; replace hV7 := Lib.hid hV7
     go_upto_region 14 with fail
     refine wp_region_facts [2] [([],false,false),([],false,false),([0],false,false)] (Ext) Ext (fun _ => True) (by kernel_rfl) (by kernel_rfl) Ext.refl (fun _ _ _ => Ext.trans) (fun _ _ h => h) (fun _ _ h => h.size) (fun _ _ h _ => h) trivial ?_
     dsimp only [List.length_cons, List.length_nil, List.drop_succ_cons, List.drop_zero, List.drop_nil]
     refine fq 0 rfl rfl rfl cK rfl rfl ?_; apply Exists.intro; constructor
     ·intro sv w' hw' hfa
      refine ⟨rfl, ?_⟩; simp only [putsL]; change qT _; simp only [qT, Act.put, sIA, sCS, sCZ]; simp [go_sem, quietTo, Ext.refl]; all_goals rfl
     refine fq 1 rfl rfl rfl cK rfl rfl ?_; apply Exists.intro; constructor
     ·intro sv w' hw' hfa
      obtain ⟨hc, -, -⟩ := ((Ext.refl w7).drew.trans hw').walk; have z0 := (hc g7 0 lr).trans r0; have z1 := (hc g7 1 lr).trans r1; have z2 := (hc g7 2 lr).trans r2; have z3 := (hc g7 3 lr).trans r3
      refine ⟨rfl, ?_⟩; simp only [putsL]; change qT _; simp only [qT, Act.put, sIA, sCS, sCZ]; simp [go_sem, quietTo, Ext.refl, ↓IntWalk.iteOmega, z0, z1, z2, z3]; (all_goals try simp (disch := omega) only [IntWalk.i64_in]); all_goals rfl
     refine fac_late 2 rfl rfl Ext.refl cK rfl rfl (fun _ _ _ _ h => h) ?_; apply Exists.intro; constructor
     ·rintro sv w' hw' ⟨(f0 : sv 0 = _), -⟩; (try dsimp only at f0)
      refine ⟨rfl, fun w2 => ?_⟩
      simp only [putsL]
      change pureTo _ _ (Sem.run _ (execOp (Act.eval (Act.put _ (some 89) (sv 0))) _) _)
      try simp only [Act.put, sIA, sCS, sCZ]
      simp [go_sem, pureTo, f0]
      (all_goals try simp (disch := omega) only [IntWalk.i64_in]); all_goals rfl
     refine fac_nil fun xt wrt hert hfrt hcrt holdt hapt => ?_
     obtain ⟨(f0 : xt 0 = _), (f1 : xt 1 = _), (f2 : xt 2 = _), -⟩ := hfrt; (try dsimp only at f0 f1 f2)
     change wpList _ _ _ _ (pT (pT (pT _ 89 (xt 0)) 90 (xt 1)) 2 (xt 2)) _
     simp only [putsL, Nat.reduceAdd, List.drop_succ_cons, List.drop_zero, List.drop_nil, pT, Act.put, sIA, sCS, sCZ]
     try simp only [f0, f1, f2]
     clear f0 f1 f2; clear holdt hapt
     have hkt := (Ext.refl w7).drew.trans hert
     have hWt : LbW s (k + 40) n0 w _ T wrt := ⟨own_ext hkt hV7.out.own, hV7.out.small, hV7.out.len, hV7.out.names.ext hkt, hV7.out.ans.ext hkt, (hV7.out.str.ext hkt).more (by omega), hV7.out.ext.ext hkt⟩
     have hat := hWt.ans
     have a0 := hat.cell 0
     have a1 := hat.cell 1
     have a2 := hat.cell 2
     have a3 := hat.cell 3
     have f0 := hat.walk.2
     have la := hat.lt
     unfold lendC at a0 a1 a2 a3
     replace hat := Lib.hid hat; replace hWt := Lib.hid hWt; clear hV7 hR7 hkt hert hcrt
     go_wp2
     refine lib_end (W := wrt) (g := n0) r ⟨0,0,0,0⟩ hat.out rfl rfl rfl ?_
     exact hWt.out.fin rfl hn0.out (by omega) r
    ·obtain ⟨g, cap, rfl, hg, hgl⟩ := hV7.own.form h0
     have h0I : (0 : Int) < (T.length : Int) := by omega
     have hgs : s < g := by omega
     have hgg : g7 ≠ g := fun e => own_no hV7.own hR7 (by decide) (by rw [e]; rfl)
     have hfl := flip_any s (k + 3 * 3 + 4 + 1 + 8) 15 w7 (by omega) (by omega) (by omega) hV7.str
     replace hfl := Lib.hid hfl; replace hR7 := Lib.hid hR7; replace hV7 := Lib.hid hV7
     go_upto_if 62 with (go_at_call 40; (with_reducible refine Calls.mono hfl.out ?_); rintro e w8 ⟨bb, rfl, hS8, hE8⟩; have hV8 := hV7.out.step (by omega) hS8 hE8; have hR8 := hR7.out.extS (by omega) hE8; clear hS8 hE8 hV7 hR7)
     go_cut [] (fun w' => ∃ T' : List TitleV, T'.length = T.length ∧ Blk w' g7 28 (lendC r) ∧ LbW s (k + 3 * 3 + 4 + 1 + 8 + 7) n0 w (.slice (some ⟨g, 0, none⟩) T.length cap) T' w')
     case first =>
      cases bb
      ·go_wp2
       go_meet
       exact ⟨T, rfl, hR8, hV8.more (by omega)⟩
      ·have hnx := next_any s (k + 3 * 3 + 4 + 1 + 8 + 1) T.length w8 (by omega) (by omega) (by omega) hV8.str
       replace hnx := Lib.hid hnx; replace hV8 := Lib.hid hV8; replace hR8 := Lib.hid hR8
       go_upto_region 13 with (go_at_call 56; (with_reducible refine Calls.mono hnx.out ?_); rintro e w9 ⟨i, rfl, hi, hS9, hE9⟩; have hV9 := hV8.out.step (by omega) hS9 hE9; have hR9 := hR8.out.extS (by omega) hE9; clear hS9 hE9 hV8 hR8)
       obtain ⟨x, hx⟩ := getD_some (rfl : T.length = T.length) hi
       obtain ⟨s1, s2, s3, s4, s5⟩ := hV9.small x (List.mem_of_getElem? hx)
       have c0 : w9.cell? ⟨g, i * 3, none⟩ = some (.string x.piece) := own_cell titleC_len hV9.own hx 0 rfl hi
       have lg := (hV9.own.lt g rfl).2
       go_wp2_with (first
        | (go_at_call 9; have l9 := hV9.str.lt; refine (somes_any s (k + 3 * 3 + 4 + 1 + 8 + 1 + 1) _ _ 3 [x.piece, ⟨#[]⟩, ⟨#[107,121,114,105,101]⟩] _ (by omega) (by simp) (by simp) (by exact hV9.str.ext (Ext.alloc (Ext.refl _) _)) (by exact Nat.ne_of_gt l9) (by exact Blk.new' rfl)).mono ?_; rintro e w10 ⟨nm, hnm, rfl, hS10, hE10⟩; have hV10 := (hV9.alloc _).step (by omega) hS10 hE10; have hR10 := (hR9.alloc _).extS (by omega) hE10; clear hS10 hE10 hV9 hR9 c0)
        | (go_at_call 55; (with_reducible refine Calls.mono (odd_any s (k + 3 * 3 + 4 + 1 + 8 + 1 + 1 + 1) 1 3 _ (by omega) (by omega) (by omega) (by omega) (by omega) hV10.str) ?_); rintro e w11 ⟨q1, rfl, hq1a, hq1b, hS11, hE11⟩; have hV11 := hV10.step (by omega) hS11 hE11; have hR11 := hR10.extS (by omega) hE11; clear hS11 hE11 hV10 hR10)
        | (go_at_call 55; (with_reducible refine Calls.mono (odd_any s (k + 3 * 3 + 4 + 1 + 8 + 1 + 1 + 1 + 2) 0 800 _ (by omega) (by omega) (by omega) (by omega) (by omega) hV11.str) ?_); rintro e w12 ⟨q2, rfl, hq2a, hq2b, hS12, hE12⟩; have hV12 := hV11.step (by omega) hS12 hE12; have hR12 := hR11.extS (by omega) hE12; clear hS12 hE12 hV11 hR11; have t0 : w12.cell? ⟨g, i * 3, none⟩ = some (.string x.piece) := own_cell titleC_len hV12.own hx 0 rfl hi; have t1 : w12.cell? ⟨g, i * 3 + 1, none⟩ = some (.int .i64 x.owned) := own_cell titleC_len hV12.own hx 1 rfl hi; have t2 : w12.cell? ⟨g, i * 3 + 2, none⟩ = some (.int .i64 x.cost) := own_cell titleC_len hV12.own hx 2 rfl hi; have tf : ∀ o, w12.frozen? ⟨g, o, none⟩ = false := fun o => hV12.own.frozenAt o; have tl := (hV12.own.lt g rfl).2; replace hV12 := Lib.hid hV12; replace hR12 := Lib.hid hR12))
       go_meet
       have hV := hV12.out
       have hR := hR12.out
       have hnms : nm.size ≤ 1000 := by
        rcases (by simpa using hnm : nm = x.piece ∨ nm = ⟨#[]⟩ ∨ nm = ⟨#[107,121,114,105,101]⟩) with rfl | rfl | rfl
        ·exact s1
        ·exact Nat.zero_le _
        ·decide
       refine ⟨T.set i ⟨nm, q1, q2⟩, List.length_set, ((hR.far (p := ⟨g, i * 3, none⟩) hgg _).far (p := ⟨g, i * 3 + 1, none⟩) hgg _).far (p := ⟨g, i * 3 + 2, none⟩) hgg _, ⟨?_, fun z hz => ?_, by rw [List.length_set]; exact hV.len, ?_, ?_, ?_, ?_⟩⟩
       ·rw [List.length_set]
        exact ti_mod hV.own hx nm q1 q2
       ·rcases List.mem_or_eq_of_mem_set hz with hz | rfl
        ·exact hV.small z hz
        ·exact ⟨hnms, hq1a, hq1b, hq2a, hq2b⟩
       ·exact ((hV.names.far (p := ⟨g, i * 3, none⟩) (by show n0 + 1 ≠ g; omega) _).far (p := ⟨g, i * 3 + 1, none⟩) (by show n0 + 1 ≠ g; omega) _).far (p := ⟨g, i * 3 + 2, none⟩) (by show n0 + 1 ≠ g; omega) _
       ·exact ((hV.ans.far (p := ⟨g, i * 3, none⟩) (by show n0 ≠ g; omega) _).far (p := ⟨g, i * 3 + 1, none⟩) (by show n0 ≠ g; omega) _).far (p := ⟨g, i * 3 + 2, none⟩) (by show n0 ≠ g; omega) _
       ·exact (((hV.str.set (p := ⟨g, i * 3, none⟩) hgs _).set (p := ⟨g, i * 3 + 1, none⟩) hgs _).set (p := ⟨g, i * 3 + 2, none⟩) hgs _).more (by omega)
       ·exact ((hV.ext.setCell (p := ⟨g, i * 3, none⟩) (.inr (by show _ ≤ g; omega)) _).setCell (p := ⟨g, i * 3 + 1, none⟩) (.inr (by show _ ≤ g; omega)) _).setCell (p := ⟨g, i * 3 + 2, none⟩) (.inr (by show _ ≤ g; omega)) _
     case rest =>
      clear hR8 hV8 hfl
      obtain ⟨T', hT', hR7, hV7⟩ := hcut
      generalize wc = w7' at *
      have r0 := hR7.cell 0
      have r1 := hR7.cell 1
      have r2 := hR7.cell 2
      have r3 := hR7.cell 3
      have lr := hR7.lt
      unfold lendC at r0 r1 r2 r3
      replace hR7 := Lib.hid hR7; replace hV7 := Lib.hid hV7
      go_upto_region 14 with fail
      refine wp_region_facts [2] [([],false,false),([],false,false),([0],false,false)] (Ext) Ext (fun _ => True) (by kernel_rfl) (by kernel_rfl) Ext.refl (fun _ _ _ => Ext.trans) (fun _ _ h => h) (fun _ _ h => h.size) (fun _ _ h _ => h) trivial ?_
      dsimp only [List.length_cons, List.length_nil, List.drop_succ_cons, List.drop_zero, List.drop_nil]
      refine fq 0 rfl rfl rfl cK rfl rfl ?_; apply Exists.intro; constructor
      ·intro sv w' hw' hfa
       refine ⟨rfl, ?_⟩; simp only [putsL]; change qT _; simp only [qT, Act.put, sIA, sCS, sCZ]; simp [go_sem, quietTo, Ext.refl]; all_goals rfl
      refine fq 1 rfl rfl rfl cK rfl rfl ?_; apply Exists.intro; constructor
      ·intro sv w' hw' hfa
       obtain ⟨hc, -, -⟩ := ((Ext.refl w7').drew.trans hw').walk; have z0 := (hc g7 0 lr).trans r0; have z1 := (hc g7 1 lr).trans r1; have z2 := (hc g7 2 lr).trans r2; have z3 := (hc g7 3 lr).trans r3
       refine ⟨rfl, ?_⟩; simp only [putsL]; change qT _; simp only [qT, Act.put, sIA, sCS, sCZ]; simp [go_sem, quietTo, Ext.refl, ↓IntWalk.iteOmega, z0, z1, z2, z3]; (all_goals try simp (disch := omega) only [IntWalk.i64_in]); all_goals rfl
      refine fac_late 2 rfl rfl Ext.refl cK rfl rfl (fun _ _ _ _ h => h) ?_; apply Exists.intro; constructor
      ·rintro sv w' hw' ⟨(f0 : sv 0 = _), -⟩; (try dsimp only at f0)
       refine ⟨rfl, fun w2 => ?_⟩
       simp only [putsL]
       change pureTo _ _ (Sem.run _ (execOp (Act.eval (Act.put _ (some 89) (sv 0))) _) _)
       try simp only [Act.put, sIA, sCS, sCZ]
       simp [go_sem, pureTo, f0]
       (all_goals try simp (disch := omega) only [IntWalk.i64_in]); all_goals rfl
      refine fac_nil fun xt wrt hert hfrt hcrt holdt hapt => ?_
      obtain ⟨(f0 : xt 0 = _), (f1 : xt 1 = _), (f2 : xt 2 = _), -⟩ := hfrt; (try dsimp only at f0 f1 f2)
      change wpList _ _ _ _ (pT (pT (pT _ 89 (xt 0)) 90 (xt 1)) 2 (xt 2)) _
      simp only [putsL, Nat.reduceAdd, List.drop_succ_cons, List.drop_zero, List.drop_nil, pT, Act.put, sIA, sCS, sCZ]
      try simp only [f0, f1, f2]
      clear f0 f1 f2; clear holdt hapt
      have hkt := (Ext.refl w7').drew.trans hert
      have hWt : LbW s (k + 40) n0 w _ T' wrt := ⟨own_ext hkt hV7.out.own, hV7.out.small, hV7.out.len, hV7.out.names.ext hkt, hV7.out.ans.ext hkt, (hV7.out.str.ext hkt).more (by omega), hV7.out.ext.ext hkt⟩
      have hat := hWt.ans
      have a0 := hat.cell 0
      have a1 := hat.cell 1
      have a2 := hat.cell 2
      have a3 := hat.cell 3
      have f0 := hat.walk.2
      have la := hat.lt
      unfold lendC at a0 a1 a2 a3
      replace hat := Lib.hid hat; replace hWt := Lib.hid hWt; clear hV7 hR7 hkt hert hcrt
      go_wp2
      refine lib_end (W := wrt) (g := n0) r ⟨0,0,0,0⟩ hat.out rfl rfl rfl ?_
      exact hWt.out.fin hT' hn0.out (by omega) r
end Go.Proofs.YtkjhbofbcmelgaaGreatDoor
