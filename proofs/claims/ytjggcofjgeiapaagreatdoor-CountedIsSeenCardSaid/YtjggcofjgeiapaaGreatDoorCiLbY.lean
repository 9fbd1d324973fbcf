/- A library at a moment, with what somebody saw: the walk of at with Count's closure. Conditions: sizes; at most 19 slips. -/
import Derived.Test.YtjggcofjgeiapaaGreatDoorCiLbX
set_option linter.unusedSimpArgs false
set_option linter.unusedVariables false
namespace Go.Proofs.YtjggcofjgeiapaaGreatDoor
open Go Go.RowKit Go.Maps

/-- What Count's closure does: what was seen lies in a cell then. -/
def CloR (C : List IdV) (gC : Nat) (w : World) (e : Ending) (w' : World) : Prop :=
  e = .returned (.int .i64 0) ∧ ∃ v : Value, w'.ownsRow w.heap.size 109 2 v C.length (C.flatMap idC) ∧ Blk w' gC 118 #[v] ∧ ExtS gC w w'
set_option maxRecDepth 100000 in
set_option maxHeartbeats 1600000 in
theorem clo_any {w : World} {gT gS gC : Nat} {tp : Option Addr} {tn tc : Nat} {T : List TitleV} {sp : Option Addr} {sn sc : Nat} {C : List IdV} {u0 : Value} (hBT : Blk w gT 26 #[.slice tp tn tc]) (hBS : Blk w gS 51 #[.slice sp sn sc]) (hBC : Blk w gC 118 #[u0])
    (hT : Slc 3 titleC w tp tn tc T) (hTo : TitlesOk T) (hTs : ∀ x ∈ T, x.Small) (hS : Slc 2 lpC w sp sn sc (C.map pairOf)) (hC : ∀ k ∈ C, k ∈ idsT T) (hnd : C.Nodup) (hl : sn ≤ 3000) :
    Calls Tryz.prog 60 #[.pointer (some ⟨gT, 0, none⟩), .pointer (some ⟨gS, 0, none⟩), .pointer (some ⟨gC, 0, none⟩)] w (CloR C gC w) := by
  have hs := seenOf_any tp tn tc T sp sn sc C w hT hTo hTs hS hC hnd hl
  have hCl : C.length = sn := by have := hS.1.1; simpa using this
  subst hCl
  have t0 := hBT.cell 0
  have s0 := hBS.cell 0
  have lt := hBT.lt
  have ls := hBS.lt
  replace hs := Lib.hid hs
  replace hBC := Lib.hid hBC
  clear hBT hBS hT hS hC
  go_enter Tryz.func60, Tryz.ntmps60
  go_wp2_with (go_at_call 61; (with_reducible refine Calls.mono hs.out ?_); rintro e w1 ⟨v, rfl, ho, hb1⟩; obtain ⟨vp, vc, rfl, -⟩ := slc_of_own idC_len ho (by decide) (by omega); have hB1 := hBC.out.ext hb1; obtain ⟨pc, pf⟩ := hB1.walk; have p0 := pc 0; have lp := hB1.lt; clear pc; replace hB1 := Lib.hid hB1; replace ho := Lib.hid ho)
  go_ret
  exact ⟨rfl, _, ho.out.kept (grown_set w1 ⟨gC, 0, none⟩ _) (.inr fun e => by have := (ho.out.lt gC e).1; have := hBC.out.lt; omega), hB1.out.set_ 0 _, ((ExtS.refl gC w).ext hb1).setCell (p := ⟨gC, 0, none⟩) (.inl rfl) _⟩
theorem ListsM.extS {g : Nat} {w w' : World} {tp : Option Addr} {tn tc : Nat} {T : List TitleV} {r : LendR} {dp : Option Addr} {dn dc : Nat} {d : List SlipV} (h : ListsM w tp tn tc T r dp dn dc d) (he : ExtS g w w') (hp : ∀ a, tp = some a → a.block ≠ g) (hd : ∀ a, dp = some a → a.block ≠ g) : ListsM w' tp tn tc T r dp dn dc d :=
  ⟨h.ti.extS he hp, h.ts, h.tl, h.sl.extS he hd, h.ss, h.sn, h.ok⟩
/-- A library at a moment, and what was seen. -/
def AtC (tp : Option Addr) (tn tc : Nat) (T : List TitleV) (r : LendR) (d : List SlipV) (t : Int) (C : List IdV) (gC : Nat) (w : World) (e : Ending) (w' : World) : Prop :=
  ∃ (base bb ms ml mh q : Nat) (v : Value), e = .returned (.tuple #[.pointer (some ⟨bb, 0, none⟩), .int .i64 0]) ∧ LibM base w' bb ms ml mh q tp tn tc r (libAt T r d t).1 ∧ w'.ownsRow w.heap.size 109 2 v C.length (C.flatMap idC) ∧ Blk w' gC 118 #[v] ∧ ExtS gC w w'
set_option maxRecDepth 100000 in
set_option maxHeartbeats 6400000 in
theorem atC_any (tp : Option Addr) (tn tc : Nat) (T : List TitleV) (r : LendR) (dp : Option Addr) (dn dc : Nat) (d : List SlipV) (t : Int) (C : List IdV) (gT gS gC : Nat) (w : World) (h : ListsM w tp tn tc T r dp dn dc d) (ht : outB t 0 345686399999 = false) (hgC : gC < w.heap.size) (hp : ∀ a, tp = some a → a.block ≠ gC) (hd : ∀ a, dp = some a → a.block ≠ gC)
    (hcl : ∀ u, Ext w u → Calls Tryz.prog 60 #[.pointer (some ⟨gT, 0, none⟩), .pointer (some ⟨gS, 0, none⟩), .pointer (some ⟨gC, 0, none⟩)] u (CloR C gC u)) :
    Calls Tryz.prog 55 #[.slice tp tn tc, lendVal r, .slice dp dn dc, .int .i64 t, .func (.func 60) #[] #[.pointer (some ⟨gT, 0, none⟩), .pointer (some ⟨gS, 0, none⟩), .pointer (some ⟨gC, 0, none⟩)]] w (AtC tp tn tc T r d t C gC w) := by
  obtain ⟨z1, z2, z3⟩ := libF_zero h.ok
  have hl := fun u (hu : Ext w u) => listsFault_any tp tn tc T r dp dn dc d u (h.ext hu).ti.1 h.ts h.tl (h.ext hu).sl.1 h.ss (by have := h.sn; omega)
  have hm := fun u => sMom_is ht u
  have hL := fun u (hu : ExtS gC w u) => libraryAt_any tp tn tc T r dp dn dc d t u (h.extS hu hp hd).ti (titlesF_ok z1) (h.extS hu hp hd).sl (slipsF_right z3) h.ss h.sn
  rw [h.ok] at hl
  unfold lendVal at hl hL ⊢
  have hE : Ext w (w.alloc (.cells #[.int .i64 r.days, .int .i64 r.late, .int .i64 r.most, .int .i64 r.each] 28)) := (Ext.refl w).alloc _
  have hX := Blk.new' (w := w) (g := w.heap.size) (t := 28) (cs := #[.int .i64 r.days, .int .i64 r.late, .int .i64 r.most, .int .i64 r.each]) rfl
  have hgx : w.heap.size ≠ gC := by omega
  have lx := hX.lt
  have x0 := hX.cell 0
  have x1 := hX.cell 1
  have x2 := hX.cell 2
  have x3 := hX.cell 3
  clear h z1 z2 z3 hX hp hd
  replace hl := Lib.hid hl
  replace hm := Lib.hid hm
  replace hL := Lib.hid hL
  replace hE := Lib.hid hE
  replace hcl := Lib.hid hcl
  go_enter Tryz.func55, Tryz.ntmps55
  go_wp2_with (first
    | (go_at_call 73; (with_reducible refine Calls.mono (hl.out _ hE.out) ?_); rintro e w1 ⟨rfl, hb1⟩; have v0 := (hb1.walk.1 _ _ lx).trans x0; have v1 := (hb1.walk.1 _ _ lx).trans x1; have v2 := (hb1.walk.1 _ _ lx).trans x2; have v3 := (hb1.walk.1 _ _ lx).trans x3; have l1 := Nat.lt_of_lt_of_le lx hb1.size)
    | (go_at_call 60; (with_reducible refine Calls.mono (hcl.out _ (hE.out.trans hb1)) ?_); rintro e w2 ⟨rfl, v, ho2, hB2, hE2⟩; have y0 := (hE2.cell l1 hgx _).trans v0; have y1 := (hE2.cell l1 hgx _).trans v1; have y2 := (hE2.cell l1 hgx _).trans v2; have y3 := (hE2.cell l1 hgx _).trans v3; have l2 := Nat.lt_of_lt_of_le l1 hE2.2.2.2.1)
    | (go_at_call 116; (with_reducible refine Calls.mono (hm.out _) ?_); rintro e w3 ⟨rfl, hb3⟩; have u0 := (hb3.walk.1 _ _ l2).trans y0; have u1 := (hb3.walk.1 _ _ l2).trans y1; have u2 := (hb3.walk.1 _ _ l2).trans y2; have u3 := (hb3.walk.1 _ _ l2).trans y3)
    | (go_at_call 74; have hE3 := (((ExtS.refl gC w).ext (hE.out.trans hb1)).trans hE2).ext hb3; (with_reducible refine Calls.mono (hL.out _ hE3) ?_); rintro e w4 ⟨base, bb, ms, ml, mh, q, mr, n, rfl, hLM, hRM, hb4⟩))
  have hres : AtC tp tn tc T r d t C gC w (.returned (.tuple #[.pointer (some ⟨bb, 0, none⟩), .int .i64 0])) w4 := ⟨base, bb, ms, ml, mh, q, v, rfl, hLM, own_low (own_ext (hb3.trans hb4) ho2) (by have := (hE.out.trans hb1).size; omega), hB2.ext (hb3.trans hb4), hE3.ext hb4⟩
  go_ret2
  exact hres
end Go.Proofs.YtjggcofjgeiapaaGreatDoor
