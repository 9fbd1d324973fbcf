/- What the rows of the laws share: the argument's list. Conditions: none. Intervals: what is wrong with one, sums and differences, by both texts. Conditions: none. -/
import Derived.Test.YtapjekpjekdlkaaDoorRows
import Derived.Test.YtapjekpjekdlkaaDoorQStream
import Derived.ProofKit
import Derived.OpenShut
import Derived.ChangeOld
import Derived.ChangeSame
import Derived.ChangeVars
import Derived.JoinedOf
import Derived.LaidLaws
import Derived.LaidHandle
import Derived.MakeChecks
import Derived.Lib.LaidTab
import Derived.Stop.Joined
import Derived.Below
import Derived.Lay
import Derived.Test.YtapjekpjekdlkaaDoorQJ2
import Derived.Deep.Light
set_option linter.unusedSimpArgs false
set_option linter.unusedVariables false
namespace Go.Proofs.YtapjekpjekdlkaaDoor
open Go.ChangeShapes Go.WideShapes Go.ChangeAt Go.RowKit

theorem own : ownKnob Tryd.prog.godebug = none := by kernel_rfl
theorem laidOut : laidOutB Tryd.prog = true := by kernel_rfl

theorem lst_of_row {W : World} {x : Addr} {len cap : Nat} {zs : List Int} (hl : len ≤ cap) (hm : cap ≤ maxLen) (hz : zs.length = cap) (hc : ∀ i, i < zs.length → W.cell? (x.add i) = some (.int .i64 (zs.getD i 0))) (hw : ∀ n ∈ zs, (Lit.int .i64 n).wf = true) :
    Lst W W.heap.size (some x) len := by
  refine ⟨Nat.le_trans (Nat.le_trans hl hm) (by decide), fun hn => ?_⟩
  obtain ⟨B, off, sp⟩ := x
  have h0 := hc 0 (by omega)
  have hs : sp = none := by
    cases sp with
    | none => rfl
    | some q => simp [Addr.add, World.cell?] at h0; split at h0 <;> simp at h0
  subst hs
  have hadd : ∀ i, (⟨B, off, none⟩ : Addr).add i = ⟨B, off + i, none⟩ := fun i => by
    unfold Addr.add
    split
    · subst_vars; rfl
    · rfl
  have hB : B < W.heap.size := by
    rcases Nat.lt_or_ge B W.heap.size with h | h
    · exact h
    · rw [hadd] at h0
      simp [World.cell?, Array.getElem?_eq_none h] at h0
  refine ⟨B, off, rfl, hB, fun i hi => ⟨zs.getD i 0, by rw [← hadd]; exact hc i (by omega), ?_⟩⟩
  have hi' : i < zs.length := by omega
  have hg : zs.getD i 0 = zs[i] := by simp [hi']
  have := hw (zs.getD i 0) (by rw [hg]; exact List.getElem_mem _)
  simp [Lit.wf, IntKind.min, IntKind.max] at this
  first | omega | exact this

end Go.Proofs.YtapjekpjekdlkaaDoor

namespace Go.Proofs.YtapjekpjekdlkaaDoor
open Go Go.RowKit

structure I4 where
  a : Int
  b : Int
  c : Int
  d : Int
theorem I4.eq {x y : I4} (ha : x.a = y.a) (hb : x.b = y.b) (hc : x.c = y.c) (hd : x.d = y.d) : x = y := by
  cases x; cases y; simp only at ha hb hc hd; rw [ha, hb, hc, hd]

def rightB (x : I4) : Bool := inB x.a (-24) 24 && inB x.b (-10) 10 && inB x.c (-5) 5 && inB x.d (-3) 3
def faultI (x : I4) : Int := if rightB x then 0 else 1

theorem fault_or (x : I4) : orF [spanF x.a (-24) 24, spanF x.b (-10) 10, spanF x.c (-5) 5, spanF x.d (-3) 3] = faultI x := by
  unfold faultI rightB spanF
  cases inB x.a (-24) 24 <;> cases inB x.b (-10) 10 <;> cases inB x.c (-5) 5 <;> cases inB x.d (-3) 3 <;> rfl

set_option maxRecDepth 100000 in
theorem intervalFault_any (x : I4) (w : World) :
    Calls Tryd.prog 14 #[.agg #[.int .i64 x.a, .int .i64 x.b, .int .i64 x.c, .int .i64 x.d]] w fun e w' => e = .returned (.int .i64 (faultI x)) ∧ Ext w w' := by
  have HF := Lib.hid (fault_or x)
  go_enter Tryd.func14, Tryd.ntmps14
  go_wp2
  refine wp_region_planS [(0, true), (1, true), (2, true), (3, true), (4, true), (5, true), (6, true), (7, true), (8, true), (9, true), (10, true), (11, true)] 12 (fun w' => Blk w' w.heap.size 30 #[.int .i64 x.a, .int .i64 x.b, .int .i64 x.c, .int .i64 x.d] ∧ Ext w w') Ext (by kernel_rfl) (by kernel_rfl) Ext.refl (fun _ _ _ => Ext.trans) (fun _ _ h he => ⟨h.1.ext he, h.2.trans he⟩) ⟨(by (repeat (with_reducible first | assumption | exact Blk.new' (by simp) | refine Blk.drew ?_ | refine Blk.alloc ?_ _ | exact Ext.refl _ | refine Ext.drew ?_ | refine Ext.alloc ?_ _))), (by (repeat (with_reducible first | assumption | exact Blk.new' (by simp) | refine Blk.drew ?_ | refine Blk.alloc ?_ _ | exact Ext.refl _ | refine Ext.drew ?_ | refine Ext.alloc ?_ _)))⟩ ?_
  repeat
    first
      | (refine plan_quiet rfl rfl (fun _ _ _ _ h => h) ?_
         apply Exists.intro
         refine ⟨fun w' hw' => ?_, ?_⟩
         · obtain ⟨hH0, hH1⟩ := hw'
           unfold Blk at hH0
           simp [go_sem, quietTo, World.cell?, hH0, Ext.refl, ↓IntWalk.iteOmega]
           first
             | rfl
             | (exact (spanFault_any _ _ _ _).mono fun e w1 ⟨he, hw1⟩ => ⟨he, hw1 ▸ Ext.refl _⟩)
         simp only [Act.put, List.setIfInBounds_toArray, List.set_cons_succ, List.set_cons_zero])
      | (refine plan_skip rfl rfl (fun _ _ _ _ h => h) ?_
         simp only [Act.put, List.setIfInBounds_toArray, List.set_cons_succ, List.set_cons_zero])
  refine plan_nil fun wr her hwr => ?_
  clear her
  obtain ⟨hH0, hH1⟩ := hwr
  obtain ⟨hC0, hF0⟩ := hH0.walk
  simp only [List.drop_succ_cons, List.drop_zero, List.drop_nil]
  go_wp2_with (go_at_call 13; refine (orErr_blk _ _ 4 [spanF x.a (-24) 24, spanF x.b (-10) 10, spanF x.c (-5) 5, spanF x.d (-3) 3] _ (by simp) (Blk.new' (by simp))).mono ?_; rintro e w' ⟨rfl, rfl⟩)
  go_ret
  exact ⟨ret_int HF.out, hH1.alloc _⟩

theorem fault_out (x : I4) : faultI x = if (outB x.a (-24) 24 || outB x.b (-10) 10 || outB x.c (-5) 5 || outB x.d (-3) 3) then 1 else 0 := by
  unfold faultI rightB
  simp only [outB_inB]
  cases inB x.a (-24) 24 <;> cases inB x.b (-10) 10 <;> cases inB x.c (-5) 5 <;> cases inB x.d (-3) 3 <;> rfl

set_option maxRecDepth 100000 in
theorem checkInterval_any (x : I4) (w : World) :
    Calls Tryd.prog 33 #[.agg #[.int .i64 x.a, .int .i64 x.b, .int .i64 x.c, .int .i64 x.d]] w fun e w' => e = .returned (.int .i64 (faultI x)) ∧ Ext w w' := by
  have HF := Lib.hid (fault_out x)
  cases h1 : outB x.a (-24) 24
  case' false =>
    cases h2 : outB x.b (-10) 10
    case' false =>
      cases h3 : outB x.c (-5) 5
      case' false => cases h4 : outB x.d (-3) 3
  all_goals
    go_enter Tryd.func33, Tryd.ntmps33
    go_wp2_with (go_at_call 54; refine (outside_any _ _ _ _).mono ?_; rintro e w' ⟨rfl, rfl⟩)
    go_ret
    exact ⟨ret_int (by rw [HF.out]; simp [*]), (Ext.refl _).alloc _⟩

/-- A row of intervals in memory: 'n' of them from 'off' on. -/
def Rows4 (w : World) (b off : Nat) (xs : List I4) : Prop :=
  ∀ i x, xs[i]? = some x → w.cell? ⟨b, off + i * 4, none⟩ = some (.int .i64 x.a) ∧ w.cell? ⟨b, off + i * 4 + 1, none⟩ = some (.int .i64 x.b) ∧ w.cell? ⟨b, off + i * 4 + 2, none⟩ = some (.int .i64 x.c) ∧ w.cell? ⟨b, off + i * 4 + 3, none⟩ = some (.int .i64 x.d)
theorem Rows4.ext {w w' : World} {b off : Nat} {xs : List I4} (h : Rows4 w b off xs) (he : Ext w w') (hb : b < w.heap.size) : Rows4 w' b off xs := fun i x hx => by
  obtain ⟨h1, h2, h3, h4⟩ := h i x hx
  obtain ⟨hc, _, _⟩ := he.walk
  exact ⟨(hc _ _ hb).trans h1, (hc _ _ hb).trans h2, (hc _ _ hb).trans h3, (hc _ _ hb).trans h4⟩

def RightTo (l : List I4) (k : Nat) : Prop := ∀ j x, j < k → l[j]? = some x → rightB x = true
theorem RightTo.succ {l : List I4} {k : Nat} {x : I4} (h : RightTo l k) (hx : l[k]? = some x) (hr : rightB x = true) : RightTo l (k + 1) := fun j y hj hy => by
  rcases Nat.lt_or_ge j k with hlt | hge
  · exact h j y hlt hy
  · obtain rfl : j = k := by omega
    rw [hx] at hy; cases hy; exact hr

def addI (x y : I4) : I4 := ⟨wrap64 (x.a + y.a), wrap64 (x.b + y.b), wrap64 (x.c + y.c), wrap64 (x.d + y.d)⟩
def negI (x : I4) : I4 := ⟨wrap64 (-x.a), wrap64 (-x.b), wrap64 (-x.c), wrap64 (-x.d)⟩
def plusI (x y : I4) (by_ : Int) : I4 := ⟨wrap64 (x.a + wrap64 (by_ * y.a)), wrap64 (x.b + wrap64 (by_ * y.b)), wrap64 (x.c + wrap64 (by_ * y.c)), wrap64 (x.d + wrap64 (by_ * y.d))⟩

set_option maxRecDepth 100000 in
theorem sum_any (x y : I4) (w : World) :
    Calls Tryd.prog 37 #[.agg #[.int .i64 x.a, .int .i64 x.b, .int .i64 x.c, .int .i64 x.d], .agg #[.int .i64 y.a, .int .i64 y.b, .int .i64 y.c, .int .i64 y.d]] w fun e w' =>
      e = .returned (.agg #[.int .i64 (addI x y).a, .int .i64 (addI x y).b, .int .i64 (addI x y).c, .int .i64 (addI x y).d]) ∧ Ext w w' := by
  go_enter Tryd.func37, Tryd.ntmps37
  go_wp2
  go_light
  exact bodyPost_ret (v := .agg #[.int .i64 (addI x y).a, .int .i64 (addI x y).b, .int .i64 (addI x y).c, .int .i64 (addI x y).d]) (by simp [results, Tryd.results37, go_sem, addI]) rfl ⟨rfl, (by (repeat (with_reducible first | assumption | exact Ext.refl _ | refine Ext.drew ?_ | refine Ext.alloc ?_ _ | refine Ext.setCell ?_ (by simp <;> omega) _ | refine Ext.trans ?_ (by assumption))))⟩

end Go.Proofs.YtapjekpjekdlkaaDoor
