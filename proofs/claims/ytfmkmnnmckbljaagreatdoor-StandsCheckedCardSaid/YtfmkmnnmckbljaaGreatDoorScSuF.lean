/- Which part is seen, by the document's text; the choir that the laws try out. Conditions: as each theorem says. -/
import Derived.Test.YtfmkmnnmckbljaaGreatDoorScSuE
import Derived.Test.YtfmkmnnmckbljaaGreatDoorScSuC
import Derived.Test.YtfmkmnnmckbljaaGreatDoorScStZ
import Derived.Test.YtfmkmnnmckbljaaGreatDoorScSuB
namespace Go.Proofs.YtfmkmnnmckbljaaGreatDoor
open Go Go.RowKit

set_option maxRecDepth 100000 in
set_option maxHeartbeats 1600000 in
theorem seenOf_any (pp : Option Addr) (pc : Nat) (P : List PersonV) (wp : Option Addr) (wcap : Nat) (wide : List Int) (hp : Option Addr) (hc : Nat) (high : List Int) (lp : Option Addr) (lc : Nat) (S : List StandV) (w : World) (h : PsM w pp pc P wp wcap wide hp hc high lp lc S) (hok : StandsOk P wide high S) :
    Calls Tryz.prog 15 #[.slice pp P.length pc, .agg #[.slice wp wide.length wcap, .slice hp high.length hc], .slice lp S.length lc] w fun e w' => e = .returned (.tuple #[.agg (seenV P wide high S), .bool (!decide (S.length = 0))]) ∧ Ext w w' := by
  have hX : Blk ((w.alloc (.cells #[.slice wp wide.length wcap, .slice hp high.length hc] 28)).alloc (.cells #[.int .i64 0, .int .i64 0] 40)) w.heap.size 28 #[.slice wp wide.length wcap, .slice hp high.length hc] := (Blk.new' rfl).alloc _
  have hR : Blk ((w.alloc (.cells #[.slice wp wide.length wcap, .slice hp high.length hc] 28)).alloc (.cells #[.int .i64 0, .int .i64 0] 40)) (w.heap.size + 1) 40 #[.int .i64 0, .int .i64 0] := Blk.new' (by simp)
  have hE0 : Ext w ((w.alloc (.cells #[.slice wp wide.length wcap, .slice hp high.length hc] 28)).alloc (.cells #[.int .i64 0, .int .i64 0] 40)) := ((Ext.refl _).alloc _).alloc _
  have hhm := hiddenMany_any pp pc P wp wcap wide hp hc high lp lc S _ (h.more hE0) hok
  have hlen := hok.len
  have hsum := hidN_seen P wide high S S
  replace hhm := Lib.hid hhm
  clear h hok
  by_cases hn0 : S.length = 0
  · have hv : seenV P wide high S = #[.int .i64 0, .int .i64 0] := by unfold seenV; rw [if_pos hn0]
    have hn0I : ((S.length : Int) == 0) = true := by rw [hn0]; rfl
    rw [hv, decide_eq_true hn0]
    replace hn0 := Lib.hid hn0
    clear hv hsum
    have hF1 := ((((hR).set_ 0 (.int .i64 0)).set_ 1 (.int .i64 0)).cast (cs' := #[.int .i64 0, .int .i64 0]) (by simp))
    obtain ⟨q1, q2⟩ := hR.walk
    have lq := hR.lt
    go_enter Tryz.func15, Tryz.ntmps15
    go_upto_region 1 with fail
    generalize (w.alloc (.cells #[.slice wp wide.length wcap, .slice hp high.length hc] 28)).alloc (.cells #[.int .i64 0, .int .i64 0] 40) = W at *
    go_wp2
    go_light
    exact bodyPost_ret (v := .tuple #[.agg #[.int .i64 0, .int .i64 0], .bool false]) (results_cell_row_tmp Tryz.results15 _ _ (w.heap.size + 1) 40 _ (0, 0) _ rfl hF1 Tryz.underlying40 rfl (by kernel_rfl) _ rfl) rfl ⟨rfl, (hE0.setCell (p := ⟨w.heap.size + 1, 0, none⟩) (Nat.le_succ _) _).setCell (p := ⟨w.heap.size + 1, 1, none⟩) (Nat.le_succ _) _⟩
  have hv : seenV P wide high S = fracC (seenN P wide high S S) S.length := by unfold seenV; rw [if_neg hn0]
  have hn0I : ((S.length : Int) == 0) = false := by simp; intro e; exact hn0 (by rw [e]; rfl)
  rw [hv, decide_eq_false hn0]
  clear hv
  generalize hqe : seenN P wide high S S = d at *
  generalize hidN P wide high S S = q at *
  have hlo := fun u => rlowest_any d S.length u (by omega) (by omega) (by omega)
  rw [show (d : Int) = (S.length : Int) - q by omega] at hlo
  have hwr : IntKind.i64.wrap ((S.length : Int) - q) = (S.length : Int) - q := IntWalk.i64_in _ (by omega)
  replace hn0 := Lib.hid hn0
  replace hsum := Lib.hid hsum
  replace hlo := Lib.hid hlo
  have hfc : fracC d S.length = #[.int .i64 (d / Nat.gcd d S.length : Nat), .int .i64 (S.length / Nat.gcd d S.length : Nat)] := rfl
  rw [hfc] at hlo ⊢
  generalize d / Nat.gcd d S.length = u1 at *
  generalize S.length / Nat.gcd d S.length = u2 at *
  clear hfc
  go_enter Tryz.func15, Tryz.ntmps15
  go_wp2_with (first
    | (go_at_call 45; (with_reducible refine Calls.mono hhm.out ?_); rintro e w1 ⟨rfl, hb1⟩)
    | (go_at_call 44; (with_reducible refine Calls.mono (hlo.out _) ?_); rintro e w2 ⟨rfl, hb2⟩; have hR3 := (hR.ext hb1).ext hb2; obtain ⟨q1, q2⟩ := hR3.walk; have lq := hR3.lt))
  have hE3 := (hE0.trans hb1).trans hb2
  have hF1 := ((hR3.set_ 0 (.int .i64 u1)).set_ 1 (.int .i64 u2)).cast (cs' := #[.int .i64 u1, .int .i64 u2]) (by simp)
  go_light
  exact bodyPost_ret (v := .tuple #[.agg #[.int .i64 u1, .int .i64 u2], .bool true]) (results_cell_row_tmp Tryz.results15 _ _ (w.heap.size + 1) 40 _ (0, 0) _ rfl hF1 Tryz.underlying40 rfl (by kernel_rfl) _ rfl) rfl ⟨rfl, (hE3.setCell (p := ⟨w.heap.size + 1, 0, none⟩) (Nat.le_succ _) _).setCell (p := ⟨w.heap.size + 1, 1, none⟩) (Nat.le_succ _) _⟩

theorem slc_of_blk {α : Type} {k : Nat} {enc : α → List Value} (hk : ∀ x, (enc x).length = k) {w : World} {g : Nat} {t : TypeId} {xs : List α} (h : Blk w g t (xs.flatMap enc).toArray) (hl : xs.length ≤ 1000) : Slc k enc w (some ⟨g, 0, none⟩) xs.length xs.length xs := by
  refine ⟨⟨rfl, by omega, fun _ => ⟨g, 0, rfl, h.lt, fun i x hx j u hu => ?_⟩⟩, Nat.le_refl _, (fun e => by cases e), fun a ha => by cases ha; exact ⟨g, 0, rfl, h.lt⟩⟩
  rw [Nat.zero_add, h.cell, List.getElem?_toArray]
  exact flat_at hk xs i x hx j u hu

def tryP : List PersonV := [⟨⟨#[97]⟩, 1700, ⟨#[115]⟩⟩, ⟨⟨#[98]⟩, 1600, ⟨#[115]⟩⟩]
def tryS : List StandV := [⟨⟨#[97]⟩, 0, 0⟩, ⟨⟨#[98]⟩, 1, 0⟩]
theorem try_right : standsF tryP [1, 1] [0, 0] tryS = 0 := by decide +kernel
theorem try_hidden : hiddenL tryP [1, 1] [0, 0] tryS = [(⟨#[98]⟩, ⟨#[97]⟩)] := by decide +kernel
theorem try_psm {w : World} {g1 g2 g3 g4 : Nat} (h1 : Blk w g1 65 #[.string ⟨#[97]⟩, .int .i64 1700, .string ⟨#[115]⟩, .string ⟨#[98]⟩, .int .i64 1600, .string ⟨#[115]⟩]) (h2 : Blk w g2 3 #[.int .i64 1, .int .i64 1]) (h3 : Blk w g3 3 #[.int .i64 0, .int .i64 0]) (h4 : Blk w g4 61 #[.string ⟨#[97]⟩, .int .i64 0, .int .i64 0, .string ⟨#[98]⟩, .int .i64 1, .int .i64 0]) :
    PsM w (some ⟨g1, 0, none⟩) 2 tryP (some ⟨g2, 0, none⟩) 2 [1, 1] (some ⟨g3, 0, none⟩) 2 [0, 0] (some ⟨g4, 0, none⟩) 2 tryS :=
  ⟨slc_of_blk perC_len (xs := tryP) h1 (by decide), slc_of_blk intC_len (xs := [1, 1]) h2 (by decide), slc_of_blk intC_len (xs := [0, 0]) h3 (by decide), slc_of_blk staC_len (xs := tryS) h4 (by decide),
    (by intro x hx; simp [tryP] at hx; rcases hx with rfl | rfl <;> (unfold PersonV.Small; decide)), (by intro x hx; simp at hx; omega), (by intro x hx; simp at hx; omega), (by intro x hx; simp [tryS] at hx; rcases hx with rfl | rfl <;> (unfold StandV.Small; decide)), by decide, by decide⟩

set_option maxRecDepth 100000 in
set_option maxHeartbeats 1600000 in
theorem stood_any (w : World) : Calls Tryz.prog 14 #[] w fun e w' => e = .returned (.bool true) ∧ Ext w w' := by
  have hM := try_psm (w := ((((w.alloc (.cells #[.string ⟨#[97]⟩, .int .i64 1700, .string ⟨#[115]⟩, .string ⟨#[98]⟩, .int .i64 1600, .string ⟨#[115]⟩] 65)).alloc (.cells #[.int .i64 1, .int .i64 1] 3)).alloc (.cells #[.int .i64 0, .int .i64 0] 3)).alloc (.cells #[.string ⟨#[97]⟩, .int .i64 0, .int .i64 0, .string ⟨#[98]⟩, .int .i64 1, .int .i64 0] 61))) (g1 := w.heap.size) (g2 := w.heap.size + 1) (g3 := w.heap.size + 1 + 1) (g4 := w.heap.size + 1 + 1 + 1) ((((Blk.new' rfl).alloc _).alloc _).alloc _) (((Blk.new' (by simp)).alloc _).alloc _) ((Blk.new' (by simp)).alloc _) (Blk.new' (by simp))
  have hE0 : Ext w ((((w.alloc (.cells #[.string ⟨#[97]⟩, .int .i64 1700, .string ⟨#[115]⟩, .string ⟨#[98]⟩, .int .i64 1600, .string ⟨#[115]⟩] 65)).alloc (.cells #[.int .i64 1, .int .i64 1] 3)).alloc (.cells #[.int .i64 0, .int .i64 0] 3)).alloc (.cells #[.string ⟨#[97]⟩, .int .i64 0, .int .i64 0, .string ⟨#[98]⟩, .int .i64 1, .int .i64 0] 61)) := ((((Ext.refl _).alloc _).alloc _).alloc _).alloc _
  have hh : Calls Tryz.prog 11 #[.slice (some ⟨w.heap.size, 0, none⟩) 2 2, .agg #[.slice (some ⟨w.heap.size + 1, 0, none⟩) 2 2, .slice (some ⟨w.heap.size + 1 + 1, 0, none⟩) 2 2], .slice (some ⟨w.heap.size + 1 + 1 + 1, 0, none⟩) 2 2] ((((w.alloc (.cells #[.string ⟨#[97]⟩, .int .i64 1700, .string ⟨#[115]⟩, .string ⟨#[98]⟩, .int .i64 1600, .string ⟨#[115]⟩] 65)).alloc (.cells #[.int .i64 1, .int .i64 1] 3)).alloc (.cells #[.int .i64 0, .int .i64 0] 3)).alloc (.cells #[.string ⟨#[97]⟩, .int .i64 0, .int .i64 0, .string ⟨#[98]⟩, .int .i64 1, .int .i64 0] 61)) (fun e w' => ∃ (q : Option Addr) (c : Nat), e = .returned (.tuple #[.slice q 1 c, .int .i64 0]) ∧ Slc 2 hidC w' q 1 c [(⟨#[98]⟩, ⟨#[97]⟩)] ∧ Ext ((((w.alloc (.cells #[.string ⟨#[97]⟩, .int .i64 1700, .string ⟨#[115]⟩, .string ⟨#[98]⟩, .int .i64 1600, .string ⟨#[115]⟩] 65)).alloc (.cells #[.int .i64 1, .int .i64 1] 3)).alloc (.cells #[.int .i64 0, .int .i64 0] 3)).alloc (.cells #[.string ⟨#[97]⟩, .int .i64 0, .int .i64 0, .string ⟨#[98]⟩, .int .i64 1, .int .i64 0] 61)) w') := by
    have := hides_good hM try_right
    rw [try_hidden] at this
    exact this
  replace hh := Lib.hid hh
  clear hM
  go_enter Tryz.func14, Tryz.ntmps14
  go_wp2_with (first
    | (go_at_call 11; (with_reducible refine Calls.mono hh.out ?_); rintro e w3 ⟨q, c, rfl, hs, hb3⟩)
    | (go_at_call 16; (with_reducible refine Calls.mono (eqHid_any q _ 1 c 1 [(⟨#[98]⟩, ⟨#[97]⟩)] _ (hs.ext ((Ext.refl _).alloc _)) (slc_of_blk hidC_len (xs := [((⟨#[98]⟩ : ByteArray), (⟨#[97]⟩ : ByteArray))]) (Blk.new' rfl) (by decide)) (by decide)) ?_); rintro e w4 ⟨rfl, hb4⟩))
  go_ret
  exact ⟨rfl, ((hE0.trans hb3).alloc _).trans hb4⟩
end Go.Proofs.YtfmkmnnmckbljaaGreatDoor
