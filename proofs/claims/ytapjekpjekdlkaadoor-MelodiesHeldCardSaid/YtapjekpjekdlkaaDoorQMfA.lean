/- Held choices by the document's text: HeldOf walked. Conditions: steps and notes are right and lie in memory. -/
import Derived.Test.YtapjekpjekdlkaaDoorQMeZ
import Derived.Laws.EntriesVeiled
set_option linter.unusedSimpArgs false
set_option linter.unusedVariables false
namespace Go.Proofs.YtapjekpjekdlkaaDoor
open Go Go.RowKit

def HeldP (w : World) (X : List StepV) (m : List Int) (e : I4) (ex : Ending) (w' : World) : Prop :=
  Ext w w' ∧ ((fewL e (melC X m) zeroI = none ∧ ∃ q d, ex = .returned (.tuple #[.slice q 0 d, .int .i64 0, .bool false]) ∧ Slc 1 chC w' q 0 d []) ∨
    ∃ (q : Option Addr) (d many : Nat), fewL e (melC X m) zeroI = some many ∧ ex = .returned (.tuple #[.slice q (melC X m).length d, .int .i64 (many : Int), .bool true]) ∧ Slc 1 chC w' q (melC X m).length d (chooseL e (melC X m) zeroI many))
theorem held_end (e : I4) (C : List (List I4)) : heldF e C [] zeroI 0 none = (fewL e C zeroI).map fun many => (chooseL e C zeroI many, many) := by
  rw [held_is e C [] zeroI 0 none right_zero]
  cases fewL e C zeroI with
  | none => rfl
  | some m => unfold impF; simp
set_option maxRecDepth 100000 in
set_option maxHeartbeats 6400000 in
theorem heldOf_any {p : Option Addr} {n c : Nat} {X : List StepV} {w : World} (h : StpM w p n c X) {np : Option Addr} {nc : Nat} {m : List Int} (hm : Slc 1 intC w np m.length nc m) (h0 : melF X m = 0) (hm10 : m.length ≤ 10) (e : I4) :
    Calls Tryd.prog 15 #[.slice p n c, .slice np m.length nc, .agg #[.int .i64 e.a, .int .i64 e.b, .int .i64 e.c, .int .i64 e.d]] w (HeldP w X m e) := by
  have hfin := held_end e (melC X m)
  have hmf : ∀ (fn : Fn) (first cap : Array Value) (w : World), (Instr.makeFunc fn first cap).run Tryd.prog w = .ok (.func fn first cap) w := fun _ _ _ _ => rfl
  go_enter Tryd.func15, Tryd.ntmps15
  go_upto_region 1 with fail
  have hl : Blk (((w.alloc (.cells #[.slice p n c] 26)).alloc (.cells #[.slice np m.length nc] 22)).alloc (.cells #[.int .i64 e.a, .int .i64 e.b, .int .i64 e.c, .int .i64 e.d] 30)) w.heap.size 26 #[.slice p n c] := ((Blk.new' rfl).alloc _).alloc _
  have hn : Blk (((w.alloc (.cells #[.slice p n c] 26)).alloc (.cells #[.slice np m.length nc] 22)).alloc (.cells #[.int .i64 e.a, .int .i64 e.b, .int .i64 e.c, .int .i64 e.d] 30)) (w.heap.size + 1) 22 #[.slice np m.length nc] := (Blk.new' (by simp)).alloc _
  have he : Blk (((w.alloc (.cells #[.slice p n c] 26)).alloc (.cells #[.slice np m.length nc] 22)).alloc (.cells #[.int .i64 e.a, .int .i64 e.b, .int .i64 e.c, .int .i64 e.d] 30)) (w.heap.size + 1 + 1) 30 #[.int .i64 e.a, .int .i64 e.b, .int .i64 e.c, .int .i64 e.d] := Blk.new' (by simp)
  have hE1 : Ext w (((w.alloc (.cells #[.slice p n c] 26)).alloc (.cells #[.slice np m.length nc] 22)).alloc (.cells #[.int .i64 e.a, .int .i64 e.b, .int .i64 e.c, .int .i64 e.d] 30)) := (((Ext.refl w).alloc _).alloc _).alloc _
  generalize ((w.alloc (.cells #[.slice p n c] 26)).alloc (.cells #[.slice np m.length nc] 22)).alloc (.cells #[.int .i64 e.a, .int .i64 e.b, .int .i64 e.c, .int .i64 e.d] 30) = w0 at *
  generalize w.heap.size + 1 + 1 = be at *
  generalize w.heap.size + 1 = bn at *
  generalize w.heap.size = bl at *
  go_upto_region 5 with fail
  obtain ⟨W3, hW3⟩ : ∃ W, W = ((w0.alloc (.cells #[.slice none 0 0] 22)).alloc (.cells #[.int .i64 (-1)] 3)).alloc (.cells #[.func (.func 39) #[] #[.pointer (some ⟨bn, 0, none⟩), .pointer (some ⟨be, 0, none⟩), .pointer (some ⟨(w0.heap.size + 1), 0, none⟩), .pointer (some ⟨w0.heap.size, 0, none⟩), .pointer (some ⟨bl, 0, none⟩), .pointer (some ⟨(w0.heap.size + 1 + 1), 0, none⟩)]] 78) := ⟨_, rfl⟩
  have hE3 : Ext w0 W3 := hW3 ▸ (((Ext.refl _).alloc _).alloc _).alloc _
  have hz3 : W3.heap.size = w0.heap.size + 1 + 1 + 1 := by rw [hW3]; simp
  have hfn3 : Blk W3 (w0.heap.size + 1 + 1) 78 #[.func (.func 39) #[] #[.pointer (some ⟨bn, 0, none⟩), .pointer (some ⟨be, 0, none⟩), .pointer (some ⟨(w0.heap.size + 1), 0, none⟩), .pointer (some ⟨w0.heap.size, 0, none⟩), .pointer (some ⟨bl, 0, none⟩), .pointer (some ⟨(w0.heap.size + 1 + 1), 0, none⟩)]] := hW3 ▸ Blk.new' (by simp)
  have hH : HelM w0 (w0.heap.size + 1 + 1 + 1) bn be (w0.heap.size + 1) w0.heap.size bl (w0.heap.size + 1 + 1) none W3 := by
    refine ⟨hE3, hW3 ▸ ((Blk.new' (by simp)).alloc _).cast rfl, ⟨none, 0, hW3 ▸ ((Blk.new' rfl).alloc _).alloc _, Slc.nil _ _ _, fun a ha => by cases ha⟩, hfn3, ⟨by omega, by omega⟩, ⟨by omega, by omega, by omega⟩, ⟨by omega, by omega, by omega⟩, by omega⟩
  have hcall : Calls Tryd.prog 39 #[.slice none 0 0, .agg #[.int .i64 0, .int .i64 0, .int .i64 0, .int .i64 0], .int .i64 0, .pointer (some ⟨bn, 0, none⟩), .pointer (some ⟨be, 0, none⟩), .pointer (some ⟨(w0.heap.size + 1), 0, none⟩), .pointer (some ⟨w0.heap.size, 0, none⟩), .pointer (some ⟨bl, 0, none⟩), .pointer (some ⟨(w0.heap.size + 1 + 1), 0, none⟩)] W3 (HelR w0 (w0.heap.size + 1 + 1 + 1) bn be (w0.heap.size + 1) w0.heap.size bl (w0.heap.size + 1 + 1) W3 ((fewL e (melC X m) zeroI).map fun many => (chooseL e (melC X m) zeroI many, many))) := by
    rw [← hfin]
    exact held_try (h.ext hE1) (hm.ext hE1) hn he hl h0 hm10 (melC X m) [] zeroI 0 none W3 none 0 (by simp) (by simp) (Nat.le_refl _) hH (Slc.nil _ _ _) (fun a ha => by cases ha)
  change Code.wp _ _ _ _ (((w0.alloc (.cells #[.slice none 0 0] 22)).alloc (.cells #[.int .i64 (-1)] 3)).alloc (.cells #[.func (.func 39) #[] #[.pointer (some ⟨bn, 0, none⟩), .pointer (some ⟨be, 0, none⟩), .pointer (some ⟨(w0.heap.size + 1), 0, none⟩), .pointer (some ⟨w0.heap.size, 0, none⟩), .pointer (some ⟨bl, 0, none⟩), .pointer (some ⟨(w0.heap.size + 1 + 1), 0, none⟩)]] 78))
  rw [← hW3]
  clear hW3 hH hfin
  obtain ⟨y1, y2⟩ := hfn3.walk
  have y3 := hfn3.lt
  replace hcall := Lib.hid hcall
  go_upto_region 6 with (go_at_call 39; go_loud (with_reducible refine Calls.mono hcall.out ?_); rintro ex w5 ⟨rfl, -, hT5⟩)
  obtain ⟨q, d, hbb, hS, -⟩ := hT5.best
  have hbm := hT5.few
  have hE5 := hE1.trans hT5.ext
  clear y1 y2 y3 hcall
  obtain ⟨z1, -⟩ := hbb.walk
  obtain ⟨z2, -⟩ := hbm.walk
  have z1l := hbb.lt
  have z2l := hbm.lt
  cases hfew : fewL e (melC X m) zeroI with
  | none =>
    rw [hfew] at hbb hbm hS
    replace hbb : Blk w5 w0.heap.size 22 #[.slice q 0 d] := hbb
    replace hbm : Blk w5 (w0.heap.size + 1) 3 #[.int .i64 (-1)] := hbm
    replace hS : Slc 1 chC w5 q 0 d [] := hS
    clear z1 z2 hT5
    replace hS := Lib.hid hS
    replace hfew := Lib.hid hfew
    refine wp_region_planS [(0, true), (1, true), (2, true), (3, true), (4, true), (5, true), (6, true), (7, true)] 8 (fun w' => Blk w' w0.heap.size 22 #[.slice q 0 d] ∧ Blk w' (w0.heap.size + 1) 3 #[.int .i64 (-1)] ∧ Ext w5 w') Ext (by kernel_rfl) (by kernel_rfl) Ext.refl (fun _ _ _ => Ext.trans) (fun _ _ h he => ⟨h.1.ext he, h.2.1.ext he, h.2.2.trans he⟩) ⟨(by (repeat (with_reducible first | assumption | exact Blk.new' (by simp) | refine Blk.drew ?_ | refine Blk.alloc ?_ _ | exact Ext.refl _ | refine Ext.drew ?_ | refine Ext.alloc ?_ _))), (by (repeat (with_reducible first | assumption | exact Blk.new' (by simp) | refine Blk.drew ?_ | refine Blk.alloc ?_ _ | exact Ext.refl _ | refine Ext.drew ?_ | refine Ext.alloc ?_ _))), (by (repeat (with_reducible first | assumption | exact Blk.new' (by simp) | refine Blk.drew ?_ | refine Blk.alloc ?_ _ | exact Ext.refl _ | refine Ext.drew ?_ | refine Ext.alloc ?_ _)))⟩ ?_
    repeat
      first
        | (refine plan_quiet rfl rfl (fun _ _ _ _ h => h) ?_
           apply Exists.intro
           refine ⟨fun w' hw' => ?_, ?_⟩
           · obtain ⟨hHq0, hHq1, hHq2⟩ := hw'
             unfold Blk at hHq0 hHq1
             simp [go_sem, quietTo, World.cell?, hHq0, hHq1, Ext.refl, ↓IntWalk.iteOmega]
             first
               | rfl
           simp only [Act.put, List.setIfInBounds_toArray, List.set_cons_succ, List.set_cons_zero])
        | (refine plan_skip rfl rfl (fun _ _ _ _ h => h) ?_
           simp only [Act.put, List.setIfInBounds_toArray, List.set_cons_succ, List.set_cons_zero])
    refine plan_nil fun wrq herq hwrq => ?_
    clear herq
    obtain ⟨hHq0, hHq1, hHq2⟩ := hwrq
    obtain ⟨hCq0, hFq0⟩ := hHq0.walk
    obtain ⟨hCq1, hFq1⟩ := hHq1.walk
    simp only [List.drop_succ_cons, List.drop_zero, List.drop_nil]
    go_wp2
    go_ret3
    exact ⟨hE5.trans hHq2, .inl ⟨hfew.out, q, d, rfl, hS.out.ext hHq2⟩⟩
  | some many =>
    rw [hfew] at hbb hbm hS
    replace hbb : Blk w5 w0.heap.size 22 #[.slice q (chooseL e (melC X m) zeroI many).length d] := hbb
    replace hbm : Blk w5 (w0.heap.size + 1) 3 #[.int .i64 (many : Int)] := hbm
    replace hS : Slc 1 chC w5 q (chooseL e (melC X m) zeroI many).length d (chooseL e (melC X m) zeroI many) := hS
    rw [choose_len] at hbb hS
    clear z1 z2 hT5
    replace hS := Lib.hid hS
    replace hfew := Lib.hid hfew
    rcases Nat.eq_zero_or_pos many with hm9 | hm9
    · subst hm9
      replace hbm : Blk w5 (w0.heap.size + 1) 3 #[.int .i64 0] := hbm
      refine wp_region_planS [(0, true), (1, true), (2, true), (3, true), (4, true), (5, true), (6, true), (7, true)] 8 (fun w' => Blk w' w0.heap.size 22 #[.slice q (melC X m).length d] ∧ Blk w' (w0.heap.size + 1) 3 #[.int .i64 0] ∧ Ext w5 w') Ext (by kernel_rfl) (by kernel_rfl) Ext.refl (fun _ _ _ => Ext.trans) (fun _ _ h he => ⟨h.1.ext he, h.2.1.ext he, h.2.2.trans he⟩) ⟨(by (repeat (with_reducible first | assumption | exact Blk.new' (by simp) | refine Blk.drew ?_ | refine Blk.alloc ?_ _ | exact Ext.refl _ | refine Ext.drew ?_ | refine Ext.alloc ?_ _))), (by (repeat (with_reducible first | assumption | exact Blk.new' (by simp) | refine Blk.drew ?_ | refine Blk.alloc ?_ _ | exact Ext.refl _ | refine Ext.drew ?_ | refine Ext.alloc ?_ _))), (by (repeat (with_reducible first | assumption | exact Blk.new' (by simp) | refine Blk.drew ?_ | refine Blk.alloc ?_ _ | exact Ext.refl _ | refine Ext.drew ?_ | refine Ext.alloc ?_ _)))⟩ ?_
      repeat
        first
          | (refine plan_quiet rfl rfl (fun _ _ _ _ h => h) ?_
             apply Exists.intro
             refine ⟨fun w' hw' => ?_, ?_⟩
             · obtain ⟨hHq0, hHq1, hHq2⟩ := hw'
               unfold Blk at hHq0 hHq1
               simp [go_sem, quietTo, World.cell?, hHq0, hHq1, Ext.refl, ↓IntWalk.iteOmega]
               first
                 | rfl
             simp only [Act.put, List.setIfInBounds_toArray, List.set_cons_succ, List.set_cons_zero])
          | (refine plan_skip rfl rfl (fun _ _ _ _ h => h) ?_
             simp only [Act.put, List.setIfInBounds_toArray, List.set_cons_succ, List.set_cons_zero])
      refine plan_nil fun wrq herq hwrq => ?_
      clear herq
      obtain ⟨hHq0, hHq1, hHq2⟩ := hwrq
      obtain ⟨hCq0, hFq0⟩ := hHq0.walk
      obtain ⟨hCq1, hFq1⟩ := hHq1.walk
      simp only [List.drop_succ_cons, List.drop_zero, List.drop_nil]
      go_wp2
      go_ret3
      exact ⟨hE5.trans hHq2, .inr ⟨q, d, _, hfew.out, rfl, hS.out.ext hHq2⟩⟩
    · have a1 : ¬ (many : Int) = 0 := by omega
      have a2 : ¬ (many : Int) < 0 := by omega
      have a3 : (0 : Int) < many := by omega
      have a4 : (0 : Int) ≤ many := by omega
      refine wp_region_planS [(0, true), (1, true), (2, true), (3, true), (4, true), (5, true), (6, true), (7, true)] 8 (fun w' => Blk w' w0.heap.size 22 #[.slice q (melC X m).length d] ∧ Blk w' (w0.heap.size + 1) 3 #[.int .i64 (many : Int)] ∧ Ext w5 w') Ext (by kernel_rfl) (by kernel_rfl) Ext.refl (fun _ _ _ => Ext.trans) (fun _ _ h he => ⟨h.1.ext he, h.2.1.ext he, h.2.2.trans he⟩) ⟨(by (repeat (with_reducible first | assumption | exact Blk.new' (by simp) | refine Blk.drew ?_ | refine Blk.alloc ?_ _ | exact Ext.refl _ | refine Ext.drew ?_ | refine Ext.alloc ?_ _))), (by (repeat (with_reducible first | assumption | exact Blk.new' (by simp) | refine Blk.drew ?_ | refine Blk.alloc ?_ _ | exact Ext.refl _ | refine Ext.drew ?_ | refine Ext.alloc ?_ _))), (by (repeat (with_reducible first | assumption | exact Blk.new' (by simp) | refine Blk.drew ?_ | refine Blk.alloc ?_ _ | exact Ext.refl _ | refine Ext.drew ?_ | refine Ext.alloc ?_ _)))⟩ ?_
      repeat
        first
          | (refine plan_quiet rfl rfl (fun _ _ _ _ h => h) ?_
             apply Exists.intro
             refine ⟨fun w' hw' => ?_, ?_⟩
             · obtain ⟨hHq0, hHq1, hHq2⟩ := hw'
               unfold Blk at hHq0 hHq1
               simp [go_sem, quietTo, World.cell?, hHq0, hHq1, Ext.refl, ↓IntWalk.iteOmega, a1, a2, a3, a4]
               first
                 | rfl
             simp only [Act.put, List.setIfInBounds_toArray, List.set_cons_succ, List.set_cons_zero])
          | (refine plan_skip rfl rfl (fun _ _ _ _ h => h) ?_
             simp only [Act.put, List.setIfInBounds_toArray, List.set_cons_succ, List.set_cons_zero])
      refine plan_nil fun wrq herq hwrq => ?_
      clear herq
      obtain ⟨hHq0, hHq1, hHq2⟩ := hwrq
      obtain ⟨hCq0, hFq0⟩ := hHq0.walk
      obtain ⟨hCq1, hFq1⟩ := hHq1.walk
      simp only [List.drop_succ_cons, List.drop_zero, List.drop_nil]
      go_wp2
      go_ret3
      exact ⟨hE5.trans hHq2, .inr ⟨q, d, many, hfew.out, rfl, hS.out.ext hHq2⟩⟩
end Go.Proofs.YtapjekpjekdlkaaDoor
