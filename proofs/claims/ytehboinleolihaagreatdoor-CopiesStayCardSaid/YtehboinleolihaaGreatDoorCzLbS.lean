/- A library that the stream makes. Conditions: sizes. -/
import Derived.Test.YtehboinleolihaaGreatDoorCzSlK
import Derived.Test.YtehboinleolihaaGreatDoorCzLbK
set_option linter.unusedSimpArgs false
set_option linter.unusedVariables false
namespace Go.Proofs.YtehboinleolihaaGreatDoor
open Go Go.RowKit
theorem titleInfo : (Tryz.prog.info? 105).map (fun i => (i.zero, i.size, i.bytes)) = some (some (.agg #[.string ⟨#[]⟩, .int .i64 0, .int .i64 0]), 3,32) := by kernel_rfl
theorem results_Trow {P : Program} {fn : Func} {p q : Tmp} {ty : TypeId} (h : fn.results = #[.tmp q, .cell p ty]) (tmps : Array Value) (w : World) (g : Nat) (t : TypeId) (cs : Array Value) (fr : Nat × Nat) (d : TypeDesc)
 (hp : tmps.getD p undef = .pointer (some ⟨g, 0, none⟩)) (hg : w.heap[g]? = some (.cells cs t fr))
 (hu : P.underlying ty = some d) (hd : (match d with | .struct _ | .array _ _ => true | _ => false) = true) (hi : (P.info? ty).map (·.size) = some cs.size) (v : Value) (hq : tmps.getD q undef = v) :
 (results fn tmps).run P w = .ok (.tuple #[v, .agg cs]) w := by
 have hp' : tmps[p]?.getD undef = .pointer (some ⟨g, 0, none⟩) := by simpa using hp
 have hq' : tmps[q]?.getD undef = v := by simpa using hq
 simp [results, h, hp', hq', asAddr, run_loadVar_row w g t ty cs fr d hg hu hd hi]
def set4 (w : World) (g : Nat) (r : LendR) : World := (((w.setCell ⟨g, 0, none⟩ (.int .i64 r.days)).setCell ⟨g, 1, none⟩ (.int .i64 r.late)).setCell ⟨g, 2, none⟩ (.int .i64 r.most)).setCell ⟨g, 3, none⟩ (.int .i64 r.each)
def lendC (r : LendR) : Array Value := #[.int .i64 r.days, .int .i64 r.late, .int .i64 r.most, .int .i64 r.each]
theorem set4_blk {w : World} {g : Nat} {r r' : LendR} (h : Blk w g 28 (lendC r')) : Blk (set4 w g r) g 28 (lendC r) := by
 unfold set4
 refine Blk.cast ((((h.set_ 0 _).set_ 1 _).set_ 2 _).set_ 3 _) ?_
 simp [lendC]
theorem lib_end {R : Ending → World → Prop} {a : Act} {W : World} {g : Nat} {v : Value} (r r' : LendR) (hB : Blk W g 28 (lendC r')) (h3 : a.tmps.getD 3 undef = .pointer (some ⟨g, 0, none⟩)) (h2 : a.tmps.getD 2 undef = v) (hd : a.defers = [])
 (hR : R (.returned (.tuple #[v, lendVal r])) (set4 W g r)) : bodyPost Tryz.prog Tryz.f9 R .ret a (set4 W g r) :=
 bodyPost_ret (results_Trow Tryz.results9 _ _ g 28 _ (0,0) _ h3 (set4_blk (r := r) hB) Tryz.underlying28 rfl (by kernel_rfl) _ h2) hd hR
theorem set4S {s k : Nat} {w : World} {g : Nat} (h : Str w s k) (hg : s < g) (r : LendR) : Str (set4 w g r) s k := by
 unfold set4
 exact (((h.set (p := ⟨g, 0, none⟩) hg _).set (p := ⟨g, 1, none⟩) hg _).set (p := ⟨g, 2, none⟩) hg _).set (p := ⟨g, 3, none⟩) hg _
theorem ti_mod {w : World} {base g n cap : Nat} {xs : List TitleV} (h : w.ownsRow base 105 3 (.slice (some ⟨g, 0, none⟩) n cap) n (xs.flatMap titleC)) {i : Nat} {x : TitleV} (hx : xs[i]? = some x) (a : ByteArray) (b c : Int) :
 (((w.setCell ⟨g, i * 3, none⟩ (.string a)).setCell ⟨g, i * 3 + 1, none⟩ (.int .i64 b)).setCell ⟨g, i * 3 + 2, none⟩ (.int .i64 c)).ownsRow base 105 3 (.slice (some ⟨g, 0, none⟩) n cap) n ((xs.set i ⟨a, b, c⟩).flatMap titleC) := by
 have hil := (List.getElem?_eq_some_iff.1 hx).1
 have hs : ∀ y : TitleV, (xs.set i y)[i]? = some y := fun y => List.getElem?_set_self hil
 have h1 := own_set1 titleC_len h ⟨a, x.owned, x.cost⟩ hx 0 (by decide) (.string a) rfl
 have h2 := own_set1 titleC_len h1 ⟨a, b, x.cost⟩ (hs _) 1 (by decide) (.int .i64 b) rfl
 rw [List.set_set] at h2
 have h3 := own_set1 titleC_len h2 ⟨a, b, c⟩ (hs _) 2 (by decide) (.int .i64 c) rfl
 rw [List.set_set] at h3
 exact h3
def tiBlk : Array Value := #[.string ⟨#[97,118,101]⟩, .string ⟨#[103,108,111,114,105,97]⟩, .string ⟨#[107,121,114,105,101]⟩]
/-- What the maker of a library answers. -/
def LibS_R (s k : Nat) (w : World) (e : Ending) (w' : World) : Prop := ∃ (p : Option Addr) (n c : Nat) (T : List TitleV) (r : LendR), e = .returned (.tuple #[.slice p n c, lendVal r]) ∧ n ≤ 3 ∧ w'.ownsRow (w.heap.size + 2) 105 3 (.slice p n c) n (T.flatMap titleC) ∧ T.length = n ∧ (∀ x ∈ T, x.Small) ∧ Str w' s (k + 40) ∧ ExtS s w w'
/-- Titles so far; the rows of names and of the answer. -/
structure LbW (s k n0 : Nat) (w0 : World) (v : Value) (T : List TitleV) (w : World) : Prop where
 own : w.ownsRow (n0 + 2) 105 3 v T.length (T.flatMap titleC)
 small : ∀ x ∈ T, x.Small
 len : T.length ≤ 3
 names : Blk w (n0 + 1) 9 tiBlk
 ans : Blk w n0 28 (lendC ⟨0,0,0,0⟩)
 str : Str w s k
 ext : ExtS s w0 w
theorem LbW.step {s k n0 : Nat} {w0 w w' : World} {v : Value} {T : List TitleV} (h : LbW s k n0 w0 v T w) (hs : s < n0) {k' : Nat} (hS : Str w' s k') (hE : ExtS s w w') : LbW s k' n0 w0 v T w' :=
 ⟨own_extS hE (by omega) h.own, h.small, h.len, h.names.extS (by omega) hE, h.ans.extS (by omega) hE, hS, h.ext.trans hE⟩
theorem LbW.alloc {s k n0 : Nat} {w0 w : World} {v : Value} {T : List TitleV} (h : LbW s k n0 w0 v T w) (o : Obj) : LbW s k n0 w0 v T (w.alloc o) :=
 ⟨h.own.alloc o, h.small, h.len, h.names.alloc o, h.ans.alloc o, h.str.ext ((Ext.refl w).alloc o), h.ext.alloc o⟩
theorem LbW.far {s k n0 : Nat} {w0 w : World} {v : Value} {T : List TitleV} (h : LbW s k n0 w0 v T w) {g : Nat} {cs : Array Value} (hB : Blk w g 28 cs) (hg : n0 + 1 < g) (hs : s < g) (h0 : w0.heap.size ≤ g) (o : Nat) (u : Value) : LbW s k n0 w0 v T (w.setCell ⟨g, o, none⟩ u) :=
 ⟨h.own.kept (grown_set w ⟨g, o, none⟩ u) (.inr fun e => own_no h.own hB (by decide) e), h.small, h.len, h.names.far (p := ⟨g, o, none⟩) (by show n0 + 1 ≠ g; omega) u, h.ans.far (p := ⟨g, o, none⟩) (by show n0 ≠ g; omega) u, h.str.set (p := ⟨g, o, none⟩) hs u, h.ext.setCell (p := ⟨g, o, none⟩) (.inr h0) u⟩
theorem LbW.set4 {s k n0 : Nat} {w0 w : World} {v : Value} {T : List TitleV} (h : LbW s k n0 w0 v T w) {g : Nat} {cs : Array Value} (hB : Blk w g 28 cs) (hg : n0 + 1 < g) (hs : s < g) (h0 : w0.heap.size ≤ g) (r : LendR) : LbW s k n0 w0 v T (set4 w g r) := by
 unfold Go.Proofs.YtehboinleolihaaGreatDoor.set4
 exact (((h.far hB hg hs h0 0 _).far (hB.set_ 0 _) hg hs h0 1 _).far ((hB.set_ 0 _).set_ 1 _) hg hs h0 2 _).far (((hB.set_ 0 _).set_ 1 _).set_ 2 _) hg hs h0 3 _
theorem LbW.more {s k k' n0 : Nat} {w0 w : World} {v : Value} {T : List TitleV} (h : LbW s k n0 w0 v T w) (hk : k ≤ k') : LbW s k' n0 w0 v T w := ⟨h.own, h.small, h.len, h.names, h.ans, h.str.more hk, h.ext⟩
theorem LbW.fin {s k n0 : Nat} {w0 w : World} {p : Option Addr} {m c : Nat} {T : List TitleV} (h : LbW s (k + 40) n0 w0 (.slice p m c) T w) (hm : T.length = m) (hn0 : w0.heap.size = n0) (hs : s < n0) (r : LendR) : LibS_R s k w0 (.returned (.tuple #[.slice p m c, lendVal r])) (Go.Proofs.YtehboinleolihaaGreatDoor.set4 w n0 r) := by
 have hE : ExtS s w0 (Go.Proofs.YtehboinleolihaaGreatDoor.set4 w n0 r) := by
  unfold Go.Proofs.YtehboinleolihaaGreatDoor.set4
  exact (((h.ext.setCell (p := ⟨n0,0, none⟩) (.inr (by show _ ≤ n0; omega)) _).setCell (p := ⟨n0,1, none⟩) (.inr (by show _ ≤ n0; omega)) _).setCell (p := ⟨n0,2, none⟩) (.inr (by show _ ≤ n0; omega)) _).setCell (p := ⟨n0,3, none⟩) (.inr (by show _ ≤ n0; omega)) _
 have hO : (Go.Proofs.YtehboinleolihaaGreatDoor.set4 w n0 r).ownsRow (n0 + 2) 105 3 (.slice p m c) T.length (T.flatMap titleC) := by
  have e : ∀ g, (Value.slice p m c).ownBlock = some g → g ≠ n0 := fun g hg e => by have := (h.own.lt g hg).1; omega
  unfold Go.Proofs.YtehboinleolihaaGreatDoor.set4
  exact (((h.own.kept (grown_set _ ⟨n0,0, none⟩ _) (.inr fun e2 => e _ e2 rfl)).kept (grown_set _ ⟨n0,1, none⟩ _) (.inr fun e2 => e _ e2 rfl)).kept (grown_set _ ⟨n0,2, none⟩ _) (.inr fun e2 => e _ e2 rfl)).kept (grown_set _ ⟨n0,3, none⟩ _) (.inr fun e2 => e _ e2 rfl)
 exact ⟨p, m, c, T, r, rfl, by have := h.len; omega, by rw [hn0, ← hm]; rw [← hm] at hO; exact hO, hm, h.small, set4S h.str hs r, hE⟩
end Go.Proofs.YtehboinleolihaaGreatDoor
