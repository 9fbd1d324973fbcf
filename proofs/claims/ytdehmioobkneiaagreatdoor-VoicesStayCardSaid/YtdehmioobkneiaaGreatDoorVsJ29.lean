/- Right voices and parts, moments and ranges that the stream makes, told exactly. Conditions: sizes. The parts that a singer can sing, and parts that are higher, by the program's text; parts that are higher by the document's. Conditions: sizes. Parts that are higher, by the document's program. Conditions: sizes. Who can sing how comfortably: rows of them, sorted, by both texts. Conditions: sizes. -/
import Derived.Test.YtdehmioobkneiaaGreatDoorVsVoE
import Derived.Test.YtdehmioobkneiaaGreatDoorVsJ28
import Derived.Test.YtdehmioobkneiaaGreatDoorVsJ17
import Derived.Shelf.SlSortCmp.NoneTotal
import Derived.Shelf.SlSortCmp.InsertionK
set_option linter.unusedSimpArgs false
set_option linter.unusedVariables false
namespace Go.Proofs.YtdehmioobkneiaaGreatDoor
open Go Go.RowKit

theorem own_lowV {w : World} {base base' k n : Nat} {e : TypeId} {v : Value} {xs : List Value} (h : w.ownsRow base' e k v n xs) (hb : base ≤ base') : w.ownsRow base e k v n xs :=
  ⟨h.1, h.2.imp id fun ⟨g, cap, cur, hv, hg, r⟩ => ⟨g, cap, cur, hv, Nat.le_trans hb hg, r⟩⟩
/-- Right voices: the first ones of so many tries. -/
def rvF (L : Src) (most : Nat) : Nat → Nat → List VoiceV × Nat
  | 0, a => ([], a)
  | t + 1, a => if voicesF (vrF L a most).1 = 0 then vrF L a most else rvF L most t (vrF L a most).2
def rpF (L : Src) : Nat → Nat → List PartV × Nat
  | 0, a => ([], a)
  | t + 1, a => if partsF (ptF L a).1 = 0 then ptF L a else rpF L t (ptF L a).2
theorem rvF_good {L : Src} {most t a k' : Nat} {V : List VoiceV} (h : vrF L a most = (V, k')) (hz : voicesF V = 0) : rvF L most (t + 1) a = (V, k') := by
  unfold rvF; rw [h]; exact if_pos hz
theorem rvF_bad {L : Src} {most t a k' : Nat} {V : List VoiceV} (h : vrF L a most = (V, k')) (hz : voicesF V ≠ 0) : rvF L most (t + 1) a = rvF L most t k' := by
  rw [show rvF L most (t + 1) a = if voicesF (vrF L a most).1 = 0 then vrF L a most else rvF L most t (vrF L a most).2 from rfl, h]; exact if_neg hz
theorem rpF_good {L : Src} {t a k' : Nat} {P : List PartV} (h : ptF L a = (P, k')) (hz : partsF P = 0) : rpF L (t + 1) a = (P, k') := by
  unfold rpF; rw [h]; exact if_pos hz
theorem rpF_bad {L : Src} {t a k' : Nat} {P : List PartV} (h : ptF L a = (P, k')) (hz : partsF P ≠ 0) : rpF L (t + 1) a = rpF L t k' := by
  rw [show rpF L (t + 1) a = if partsF (ptF L a).1 = 0 then ptF L a else rpF L t (ptF L a).2 from rfl, h]; exact if_neg hz

def RVoiR (F : List VoiceV × Nat) (s k : Nat) (L : Src) (w : World) (e : Ending) (w' : World) : Prop :=
  ∃ (p : Option Addr) (n c : Nat) (V : List VoiceV) (k' : Nat), e = .returned (.slice p n c) ∧ n ≤ 10 ∧ w'.ownsRow (w.heap.size + 1) 71 4 (.slice p n c) n (V.flatMap voiC) ∧ V.length = n ∧ (∀ x ∈ V, x.Small) ∧ voicesF V = 0 ∧ F = (V, k') ∧ k' ≤ k + 360 ∧ StrL w' s L k' ∧ ExtS s w w'
def RPartR (F : List PartV × Nat) (s k : Nat) (L : Src) (w : World) (e : Ending) (w' : World) : Prop :=
  ∃ (p : Option Addr) (n c : Nat) (P : List PartV) (k' : Nat), e = .returned (.slice p n c) ∧ n ≤ 3 ∧ w'.ownsRow (w.heap.size + 1) 46 5 (.slice p n c) n (P.flatMap partC) ∧ P.length = n ∧ (∀ x ∈ P, x.Fine) ∧ partsF P = 0 ∧ F = (P, k') ∧ k' ≤ k + 180 ∧ StrL w' s L k' ∧ ExtS s w w'

set_option maxRecDepth 100000 in
set_option maxHeartbeats 1600000 in
theorem rightVoices_det (s k most : Nat) (L : Src) (w : World) (hk : k ≤ 980000) (hmo : most ≤ 5) (h : StrL w s L k) :
    Calls Tryz.prog 5 #[.pointer (some ⟨s, 0, none⟩), .int .i64 most] w (RVoiR (rvF L most 6 k) s k L w) := by
  have l0 := h.lt
  go_enter Tryz.func5, Tryz.ntmps5
  go_wp2
  go_loopw [6] (fun i wr => ∃ j t p : Nat, j + t = 6 ∧ i = .int .i64 j ∧ rvF L most 6 k = rvF L most t p ∧ p ≤ k + 60 * j ∧ StrL wr s L p ∧ ExtS s w wr) (fun i _ => 6 - (intOf i).toNat)
  case atStart => exact ⟨0, 6, k, rfl, rfl, rfl, by omega, h, ExtS.refl s w⟩
  case round =>
    clear h
    obtain ⟨j, t, p, hj, rfl, hF, hp, hS, hE⟩ := hrel
    replace hF := Lib.hid hF
    by_cases hlt : j < 6
    · obtain ⟨t, rfl⟩ : ∃ u, t = u + 1 := ⟨t - 1, by omega⟩
      have hsz := hE.2.2.2.1
      have hjI : (j : Int) < 6 := by omega
      go_upto_region 4 with (go_at_call 23; (with_reducible refine Calls.mono (voiceRows_det s p most L _ (by omega) (by omega) hS) ?_); rintro e w2 ⟨q, n, c, V, k', rfl, hn, hown, hVl, hf, hvr, hk', hS2, hE2⟩; obtain ⟨q2, c2, hq2, hSl⟩ := slc_of_own voiC_len hown (by decide) (by omega); cases hq2)
      have hchk := voicesFault_any q n c V w2 hSl.1 hf (by omega)
      have hown2 : w2.ownsRow (w.heap.size + 1) 71 4 (.slice q n c) n (V.flatMap voiC) := own_lowV hown (by omega)
      clear hown hS hSl
      replace hf := Lib.hid hf
      have hE2' := hE.trans hE2
      clear hE hE2
      by_cases hz : voicesF V = 0
      · rw [hz] at hchk
        have hres : ∀ u, Ext w2 u → RVoiR (rvF L most 6 k) s k L w (.returned (.slice q n c)) u := fun u hu => ⟨q, n, c, V, k', rfl, hn, own_ext hu hown2, hVl, hf.out, hz, by rw [hF.out]; exact rvF_good hvr hz, by omega, hS2.ext hu, hE2'.ext hu⟩
        replace hres := Lib.hid hres
        replace hchk := Lib.hid hchk
        replace hown2 := Lib.hid hown2
        replace hVl := Lib.hid hVl
        replace hvr := Lib.hid hvr
        replace hz := Lib.hid hz
        go_wp2_with (go_at_call 24; (with_reducible refine Calls.mono hchk.out ?_); rintro e w3 ⟨rfl, hb3⟩)
        go_ret
        exact hres.out _ hb3
      · have hnx := rvF_bad (t := t) hvr hz
        have hz' : (voicesF V == 0) = false := by simpa using hz
        replace hnx := Lib.hid hnx
        replace hchk := Lib.hid hchk
        replace hown2 := Lib.hid hown2
        replace hVl := Lib.hid hVl
        replace hvr := Lib.hid hvr
        replace hz := Lib.hid hz
        go_wp2_with (go_at_call 24; (with_reducible refine Calls.mono hchk.out ?_); rintro e w3 ⟨rfl, hb3⟩)
        go_roundw
        case rel => exact ⟨j + 1, t, k', by omega, by go_num, by rw [hF.out, hnx.out], by omega, hS2.ext hb3, hE2'.ext hb3⟩
        case measure => simp [intOf]; omega
    · obtain rfl : j = 6 := by omega
      obtain rfl : t = 0 := by omega
      have hres : RVoiR (rvF L most 6 k) s k L w (.returned (.slice none 0 0)) wr := ⟨none, 0, 0, [], p, rfl, by omega, World.ownsRow_nil _ _ _ _, rfl, (fun x hx => by cases hx), rfl, hF.out, by omega, hS, hE⟩
      replace hres := Lib.hid hres
      rw [show ((6 : Nat) : Int) = 6 from rfl]
      go_wp2
      go_ret
      exact hres.out

set_option maxRecDepth 100000 in
set_option maxHeartbeats 1600000 in
theorem rightParts_det (s k : Nat) (L : Src) (w : World) (hk : k ≤ 980000) (h : StrL w s L k) :
    Calls Tryz.prog 6 #[.pointer (some ⟨s, 0, none⟩)] w (RPartR (rpF L 6 k) s k L w) := by
  have l0 := h.lt
  go_enter Tryz.func6, Tryz.ntmps6
  go_wp2
  go_loopw [4] (fun i wr => ∃ j t p : Nat, j + t = 6 ∧ i = .int .i64 j ∧ rpF L 6 k = rpF L t p ∧ p ≤ k + 30 * j ∧ StrL wr s L p ∧ ExtS s w wr) (fun i _ => 6 - (intOf i).toNat)
  case atStart => exact ⟨0, 6, k, rfl, rfl, rfl, by omega, h, ExtS.refl s w⟩
  case round =>
    clear h
    obtain ⟨j, t, p, hj, rfl, hF, hp, hS, hE⟩ := hrel
    replace hF := Lib.hid hF
    by_cases hlt : j < 6
    · obtain ⟨t, rfl⟩ : ∃ u, t = u + 1 := ⟨t - 1, by omega⟩
      have hsz := hE.2.2.2.1
      have hjI : (j : Int) < 6 := by omega
      go_upto_region 4 with (go_at_call 25; (with_reducible refine Calls.mono (partList_det s p L _ (by omega) hS) ?_); rintro e w2 ⟨q, n, c, P, k', rfl, hn, hown, hPl, hf, hpt, hk', hS2, hE2⟩; obtain ⟨q2, c2, hq2, hSl⟩ := slc_of_own partC_len hown (by decide) (by omega); cases hq2)
      have hchk := faultParts_any q n c P w2 hSl.1 (fun x hx => (hf x hx).1) (by omega) hSl.2.1
      have hown2 : w2.ownsRow (w.heap.size + 1) 46 5 (.slice q n c) n (P.flatMap partC) := own_lowV hown (by omega)
      clear hown hS hSl
      replace hf := Lib.hid hf
      have hE2' := hE.trans hE2
      clear hE hE2
      by_cases hz : partsF P = 0
      · rw [hz] at hchk
        have hres : ∀ u, Ext w2 u → RPartR (rpF L 6 k) s k L w (.returned (.slice q n c)) u := fun u hu => ⟨q, n, c, P, k', rfl, hn, own_ext hu hown2, hPl, hf.out, hz, by rw [hF.out]; exact rpF_good hpt hz, by omega, hS2.ext hu, hE2'.ext hu⟩
        replace hres := Lib.hid hres
        replace hchk := Lib.hid hchk
        replace hown2 := Lib.hid hown2
        replace hPl := Lib.hid hPl
        replace hpt := Lib.hid hpt
        replace hz := Lib.hid hz
        go_wp2_with (go_at_call 26; (with_reducible refine Calls.mono hchk.out ?_); rintro e w3 ⟨rfl, hb3⟩)
        go_ret
        exact hres.out _ hb3
      · have hnx := rpF_bad (t := t) hpt hz
        have hz' : (partsF P == 0) = false := by simpa using hz
        replace hnx := Lib.hid hnx
        replace hchk := Lib.hid hchk
        replace hown2 := Lib.hid hown2
        replace hPl := Lib.hid hPl
        replace hpt := Lib.hid hpt
        replace hz := Lib.hid hz
        go_wp2_with (go_at_call 26; (with_reducible refine Calls.mono hchk.out ?_); rintro e w3 ⟨rfl, hb3⟩)
        go_roundw
        case rel => exact ⟨j + 1, t, k', by omega, by go_num, by rw [hF.out, hnx.out], by omega, hS2.ext hb3, hE2'.ext hb3⟩
        case measure => simp [intOf]; omega
    · obtain rfl : j = 6 := by omega
      obtain rfl : t = 0 := by omega
      have hres : RPartR (rpF L 6 k) s k L w (.returned (.slice none 0 0)) wr := ⟨none, 0, 0, [], p, rfl, by omega, World.ownsRow_nil _ _ _ _, rfl, (fun x hx => by cases hx), rfl, hF.out, by omega, hS, hE⟩
      replace hres := Lib.hid hres
      rw [show ((6 : Nat) : Int) = 6 from rfl]
      go_wp2
      go_ret
      exact hres.out

end Go.Proofs.YtdehmioobkneiaaGreatDoor

namespace Go.Proofs.YtdehmioobkneiaaGreatDoor
open Go Go.RowKit

/-- What is wrong with voices, parts, a singer and a moment. -/
def bothF (V : List VoiceV) (P : List PartV) : Int := if voicesF V = 0 then partsF P else voicesF V
section
variable {w : World} {vp pp : Option Addr} {vc pc : Nat} {V : List VoiceV} {P : List PartV}
end

/-- Whether parts can be so much higher. -/
def shB (P : List PartV) (d : Int) : Bool := inB d (-127) 127 && okUp P d
set_option maxRecDepth 100000 in
set_option maxHeartbeats 1600000 in
theorem shiftedV_any (p : Option Addr) (n c : Nat) (P : List PartV) (d : Int) (w : World) (h : Slc 5 partC w p n c P) (hn : n ≤ 1000) (hs : ∀ x ∈ P, x.Small) (hd : -1000 ≤ d ∧ d ≤ 1000) :
    Calls Tryz.prog 16 #[.slice p n c, .int .i64 d] w fun e w' => ∃ v : Value, e = .returned (.tuple #[v, .int .i64 (if partsF P = 0 then (if shB P d then 0 else 1) else partsF P)]) ∧
      (partsF P = 0 ∧ shB P d = true → w'.ownsRow w.heap.size 46 5 v n ((P.map (PartV.up · d)).flatMap partC)) ∧ (¬ (partsF P = 0 ∧ shB P d = true) → v = .slice none 0 0) ∧ Ext w w' := by
  have hchk := fun W (hW : Ext w W) => checkParts_any p n c P W (h.1.ext hW) hs hn h.2.1
  have hsh := fun W (hW : Ext w W) => shifted_any p n c P d W (h.ext hW) hn hs hd
  have hO : outB d (-127) 127 = !inB d (-127) 127 := outB_inB _ _ _
  have hou := fun u => outside_any d (-127) 127 u
  rw [hO] at hou
  clear hO
  have hsB : shB P d = (inB d (-127) 127 && okUp P d) := rfl
  clear h hs
  generalize partsF P = f at *
  by_cases hf : f = 0
  rotate_left
  · rw [if_neg hf]
    replace hchk := Lib.hid hchk
    go_enter Tryz.func16, Tryz.ntmps16
    go_wp2_with (go_at_call 45; (with_reducible refine Calls.mono (hchk.out _ (by exact Ext.refl _)) ?_); rintro e w1 ⟨rfl, hb1⟩)
    go_ret2
    exact ⟨_, rfl, fun h => absurd h.1 hf, fun _ => rfl, hb1⟩
  subst hf
  rw [if_pos rfl]
  cases hi : inB d (-127) 127
  · rw [hi] at hou hsB
    rw [hsB]
    simp only [Bool.false_and, Bool.false_eq_true, and_false, if_false, not_false_eq_true]
    replace hchk := Lib.hid hchk
    replace hou := Lib.hid hou
    clear hsB hi
    go_enter Tryz.func16, Tryz.ntmps16
    go_wp2_with (first
      | (go_at_call 45; (with_reducible refine Calls.mono (hchk.out _ (by exact Ext.refl _)) ?_); rintro e w1 ⟨rfl, hb1⟩)
      | (go_at_call 42; (with_reducible refine Calls.mono (hou.out _) ?_); rintro e w' ⟨rfl, rfl⟩))
    go_ret2
    exact ⟨_, rfl, (fun h => h.elim), fun _ => rfl, hb1⟩
  · rw [hi] at hou hsB
    rw [hsB]
    cases hok : okUp P d
    all_goals
      rw [hok] at hsh
      simp only [Bool.and_false, Bool.and_self, Bool.false_eq_true, and_false, if_false, if_true, not_false_eq_true, and_self, not_true_eq_false]
      replace hchk := Lib.hid hchk
      replace hou := Lib.hid hou
      replace hsh := Lib.hid hsh
      go_enter Tryz.func16, Tryz.ntmps16
      go_wp2_with (first
        | (go_at_call 45; (with_reducible refine Calls.mono (hchk.out _ (by exact Ext.refl _)) ?_); rintro e w1 ⟨rfl, hb1⟩)
        | (go_at_call 42; (with_reducible refine Calls.mono (hou.out _) ?_); rintro e w' ⟨rfl, rfl⟩)
        | (go_at_call 46; (with_reducible refine Calls.mono (hsh.out _ (by exact hb1)) ?_); rintro e w2 ⟨v, rfl, hv0, hv, hb2⟩; replace hv := Lib.hid hv; replace hv0 := Lib.hid hv0))
      go_ret2
      first
        | exact ⟨_, rfl, (fun h => h.elim), fun _ => rfl, hb1.trans hb2⟩
        | exact ⟨v, rfl, fun _ => own_lowV (hv.out trivial) hb1.size, (fun h => h.elim), hb1.trans hb2⟩
end Go.Proofs.YtdehmioobkneiaaGreatDoor

namespace Go.Proofs.YtdehmioobkneiaaGreatDoor
open Go Go.RowKit

end Go.Proofs.YtdehmioobkneiaaGreatDoor

namespace Go.Proofs.YtdehmioobkneiaaGreatDoor
open Go Go.RowKit Go.Sort

structure AbleV where
  name : ByteArray
  com : Int
deriving Inhabited
def ableC (x : AbleV) : List Value := [.string x.name, .int .i64 x.com]
theorem ableC_len (x : AbleV) : (ableC x).length = 2 := rfl
theorem able_one (x : AbleV) : ∀ u ∈ ableC x, u.oneCell' = true := by simp [ableC, Value.oneCell']
def ableN (x : AbleV) : Int := -x.com
theorem cmpZ_neg (x y : Int) : cmpZ (-x) (-y) = cmpZ y x := by unfold cmpZ; split <;> split <;> (try split) <;> (try split) <;> omega

set_option maxRecDepth 100000 in
set_option maxHeartbeats 1600000 in
theorem whoG_any (a b : AbleV) (w : World) :
    Calls Tryz.prog 53 #[.agg #[.string a.name, .int .i64 a.com], .agg #[.string b.name, .int .i64 b.com]] w fun e w' => e = .returned (.int .i64 (cmpK ableN AbleV.name a b)) ∧ ∃ q os', w' = grow (w.drewN q) os' := by
  have hF : cmpK ableN AbleV.name a b = orF [cmpZ b.com a.com, cmpS a.name b.name] := by unfold cmpK ableN; rw [cmpZ_neg]
  rw [hF]
  clear hF
  have hX : Blk ((w.alloc (.cells #[.string a.name, .int .i64 a.com] 67)).alloc (.cells #[.string b.name, .int .i64 b.com] 67)) w.heap.size 67 #[.string a.name, .int .i64 a.com] := (Blk.new' rfl).alloc _
  have hY : Blk ((w.alloc (.cells #[.string a.name, .int .i64 a.com] 67)).alloc (.cells #[.string b.name, .int .i64 b.com] 67)) (w.heap.size + 1) 67 #[.string b.name, .int .i64 b.com] := Blk.new' (by simp)
  go_enter Tryz.func53, Tryz.ntmps53
  go_upto_region 1 with fail
  refine wp_region_planS [(0, true), (1, true), (2, true), (3, true), (4, true), (5, true), (6, true), (7, true), (8, true), (9, true)] 10 (fun w' => Blk w' w.heap.size 67 #[.string a.name, .int .i64 a.com] ∧ Blk w' (w.heap.size + 1) 67 #[.string b.name, .int .i64 b.com]) Drw (by kernel_rfl) (by kernel_rfl) Drw.refl (fun _ _ _ => Drw.trans) (fun _ _ h he => ⟨h.1.drw he, h.2.drw he⟩) ⟨(by (repeat (with_reducible first | assumption | exact Blk.new' (by simp) | refine Blk.drew ?_ | refine Blk.alloc ?_ _ | exact Drw.refl _ | refine Ext.drew ?_ | refine Ext.alloc ?_ _))), (by (repeat (with_reducible first | assumption | exact Blk.new' (by simp) | refine Blk.drew ?_ | refine Blk.alloc ?_ _ | exact Drw.refl _ | refine Ext.drew ?_ | refine Ext.alloc ?_ _)))⟩ ?_
  repeat
    first
      | (refine plan_quiet rfl rfl (fun _ _ _ _ h => h) ?_
         apply Exists.intro
         refine ⟨fun w' hw' => ?_, ?_⟩
         · obtain ⟨hH0, hH1⟩ := hw'
           unfold Blk at hH0 hH1
           simp [go_sem, quietTo, World.cell?, hH0, hH1, Drw.refl, ↓IntWalk.iteOmega]
           first
             | rfl
             | (exact cmpIntE_any _ _ _)
             | (exact cmpSE_any _ _ _)
         simp only [Act.put, List.setIfInBounds_toArray, List.set_cons_succ, List.set_cons_zero])
      | (refine plan_skip rfl rfl (fun _ _ _ _ h => h) ?_
         simp only [Act.put, List.setIfInBounds_toArray, List.set_cons_succ, List.set_cons_zero])
  refine plan_nil fun wr her hwr => ?_
  obtain ⟨hH0, hH1⟩ := hwr
  obtain ⟨hC0, hF0⟩ := hH0.walk
  obtain ⟨hC1, hF1⟩ := hH1.walk
  simp only [List.drop_succ_cons, List.drop_zero, List.drop_nil]
  go_wp2_with (go_at_call 54; refine (orInt_blk _ _ 2 [cmpZ b.com a.com, cmpS a.name b.name] _ (by simp) (Blk.new' rfl)).mono ?_; rintro e w2 ⟨rfl, rfl⟩)
  go_ret
  refine ⟨rfl, ?_⟩
  obtain ⟨q, rfl⟩ := her
  exact ⟨q + 1, _, grow_three _ _ _ _ _⟩
set_option maxRecDepth 100000 in
theorem sortAble_any {w : World} {base g n cap : Nat} {L : List AbleV} (h : w.ownsRow base 67 2 (.slice (some ⟨g, 0, none⟩) n cap) n (L.flatMap ableC)) (hn : L.length = n) (hn1 : n ≤ 1000) (hok : L.Pairwise fun a b => a.name ≠ b.name) :
    Calls Tryz.prog 52 #[.slice (some ⟨g, 0, none⟩) n cap, .func (.func 53) #[] #[]] w fun e w' => e = .returned (.tuple #[]) ∧ ∃ M : List AbleV, ByK ableN AbleV.name L M ∧ w'.ownsRow base 67 2 (.slice (some ⟨g, 0, none⟩) n cap) n (M.flatMap ableC) ∧ ∀ a : World, Ext a w → a.heap.size ≤ g → Ext a w' := by
  have hgl := (h.lt g rfl).2
  subst hn
  have hs := AnyQ.slices_SortFunc Tryz.lsfAble 2 Tryz.isAgg67 Tryz.sizeOf67 ableC ableC_len able_one (cmpK ableN AbleV.name) (k_swo _ _) 53 #[] g 0 cap L.toArray w (fun args u => by rfl) (fun m os dk _ x y => whoG_any x y _) (holdsK_own ableC_len h) hgl (by simp; omega)
  refine hs.mono fun e w' ⟨he, d', q, os, hp, hso, hw⟩ => ?_
  have hby : ByK ableN AbleV.name L d'.toList := byK_of _ _ hok (by simpa using hp) (by simpa using hso)
  refine ⟨he, d'.toList, hby, ?_, ?_⟩
  · rw [hw]
    exact own_sortK ableC_len h hby.1.length_eq
  · intro a ha hg
    rw [hw]
    exact ext_sortK ha hg
theorem sortAbleNone_any (p : Option Addr) (cap : Nat) (fv : Value) (w : World) :
    Calls Tryz.prog 52 #[.slice p 0 cap, fv] w fun e w' => e = .returned (.tuple #[]) ∧ w = w' := (AnyF.slices_SortFunc_none Tryz.lsfAble _ _ _ _).mono (fun _ _ h => And.intro h.1 h.2.symm)
/-- One singer, if they can sing in a range. -/
def ableOf (F : St) (r : Int × Int) (p : ByteArray) : Option AbleV := if 0 ≤ comF ((F p).getD (0, 0)) r then some ⟨p, comF ((F p).getD (0, 0)) r⟩ else none
def ableL (F : St) (r : Int × Int) (S : List ByteArray) : List AbleV := S.filterMap (ableOf F r)
theorem ableL_in {F : St} {r : Int × Int} {S : List ByteArray} {p : ByteArray} (h : 0 ≤ comF ((F p).getD (0, 0)) r) : ableL F r (S ++ [p]) = ableL F r S ++ [⟨p, comF ((F p).getD (0, 0)) r⟩] := by
  unfold ableL; rw [List.filterMap_append]; simp [ableOf, h]
theorem ableL_out {F : St} {r : Int × Int} {S : List ByteArray} {p : ByteArray} (h : ¬ 0 ≤ comF ((F p).getD (0, 0)) r) : ableL F r (S ++ [p]) = ableL F r S := by
  unfold ableL; rw [List.filterMap_append]; simp [ableOf, h]
theorem ableL_len (F : St) (r : Int × Int) (S : List ByteArray) : (ableL F r S).length ≤ S.length := List.length_filterMap_le _ _
theorem ableL_perm {F : St} {r : Int × Int} {S T : List ByteArray} (h : S.Perm T) : (ableL F r S).Perm (ableL F r T) := h.filterMap _
theorem ableOf_name {F : St} {r : Int × Int} {p : ByteArray} {x : AbleV} (h : ableOf F r p = some x) : x.name = p := by
  unfold ableOf at h
  split at h
  · cases h; rfl
  · cases h
theorem ableL_pair {F : St} {r : Int × Int} {R : ByteArray → ByteArray → Prop} {S : List ByteArray} (h : S.Pairwise R) : (ableL F r S).Pairwise fun a b => R a.name b.name := by
  unfold ableL
  refine List.pairwise_filterMap.2 (h.imp fun {a b} hab x hx y hy => ?_)
  rw [ableOf_name hx, ableOf_name hy]
  exact hab
end Go.Proofs.YtdehmioobkneiaaGreatDoor
