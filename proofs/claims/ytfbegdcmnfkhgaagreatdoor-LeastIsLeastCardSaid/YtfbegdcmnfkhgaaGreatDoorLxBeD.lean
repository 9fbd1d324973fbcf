/- Who is hidden behind somebody's coming: the solver's walk. Conditions: at most four stand. -/
import Derived.Test.YtfbegdcmnfkhgaaGreatDoorLxBeC
set_option linter.unusedSimpArgs false
set_option linter.unusedVariables false
namespace Go.Proofs.YtfbegdcmnfkhgaaGreatDoor
open Go Go.RowKit

theorem pow_wrap {i : Nat} (h : i ≤ 3) : IntKind.u64.wrap ((2 : Int) ^ i) = 2 ^ i := by
  rcases (by omega : i = 0 ∨ i = 1 ∨ i = 2 ∨ i = 3) with rfl | rfl | rfl | rfl <;> decide
theorem set_self9 {α : Type} {l : List α} {i : Nat} {b : α} (h : l[i]? = some b) : l.set i b = l := by
  obtain ⟨hi, e⟩ := List.getElem?_eq_some_iff.1 h
  rw [← e, List.set_getElem_self]
section
variable (P : List PersonV) (wide high : List Int)
theorem wiL_k (T : List StandV) (x : StandV) (i : Nat) : (wiL P wide high T x i)[T.length]? = some ((T.take i).any fun a => hidesS P wide high a x) := by
  unfold wiL
  rw [List.getElem?_append_right (by simp)]
  simp
theorem wiL_i (T : List StandV) (x : StandV) {i : Nat} {a : StandV} (h : T[i]? = some a) : (wiL P wide high T x i)[i]? = some (hidAny P wide high T a) := by
  obtain ⟨hi, hx⟩ := List.getElem?_eq_some_iff.1 h
  unfold wiL
  rw [List.getElem?_append_left (by simp; exact hi)]
  simp [hi, hx]
theorem wiL_next (T : List StandV) (x : StandV) {i : Nat} {a : StandV} (h : T[i]? = some a) {h1 h2 : Bool} (e1 : hidesS P wide high a x = h1) (e2 : hidesS P wide high x a = h2) :
    wiL P wide high T x (i + 1) = (if h2 then (if h1 then (wiL P wide high T x i).set T.length true else wiL P wide high T x i).set i true else (if h1 then (wiL P wide high T x i).set T.length true else wiL P wide high T x i)) := by
  have hi := (List.getElem?_eq_some_iff.1 h).1
  rw [wiL_step P wide high T x h, e1, e2]
  have k1 := wiL_k P wide high T x i
  have k2 := wiL_i P wide high T x h
  have ne : T.length ≠ i := by omega
  cases h1 <;> cases h2 <;> simp only [Bool.or_false, Bool.or_true, Bool.false_eq_true, if_false, if_true]
  · rw [set_self9 k1, set_self9 k2]
  · rw [set_self9 k1]
  · exact set_self9 (by rw [List.getElem?_set_ne ne]; exact k2)
end

section
variable {v : Nat} {pp : Option Addr} {pc : Nat} {P : List PersonV} {wp : Option Addr} {wcap : Nat} {wide : List Int} {hp : Option Addr} {hc : Nat} {high : List Int} {np : Option Addr} {nc : Nat} {T : List StandV} {pls tks bs : Value} {fw : Int} {w : World}
set_option maxRecDepth 100000 in
set_option maxHeartbeats 3200000 in
theorem svWith_any {T0 : List StandV} {x : StandV} (h : SvR w v pp pc P wp wcap wide hp hc high np nc T pls tks bs fw) (hT : SvT P wide high T) (e : T = T0 ++ [x]) (h4 : T.length ≤ 4) :
    Calls Tryz.prog 80 #[.pointer (some ⟨v, 0, none⟩), .int .u64 (bitsN (hsL P wide high T0) : Nat)] w fun e w' => e = .returned (.int .u64 (bitsN (hsL P wide high T) : Nat)) ∧ Ext w w' := by
  have hl : T.length = T0.length + 1 := by rw [e]; simp
  have hxk : T[T0.length]? = some x := by rw [e]; simp
  have hzero := wiL_zero P wide high T0 x
  have hall := wiL_all P wide high T0 x
  rw [← e] at hall
  have hlow : ∀ i, i < T0.length → T[i]? = T0[i]? := fun i hi => by rw [e, List.getElem?_append_left hi]
  have hB := h.blk
  have hwl : IntKind.i64.wrap ((T.length : Int) - 1) = T0.length := by rw [IntWalk.i64_in _ (by omega)]; omega
  have hh : ∀ u, Ext w u → ∀ (i k : Nat) (y z : StandV), T[i]? = some y → T[k]? = some z → Calls Tryz.prog 123 #[.pointer (some ⟨v, 0, none⟩), .int .i64 i, .int .i64 k] u fun e w' => e = .returned (.bool (hidesS P wide high y z)) ∧ Ext u w' := fun u hu i k y z hy hz => svHides_any (h.more hu) hT hy hz
  rw [← hzero, ← hall]
  obtain ⟨y1, -⟩ := hB.walk
  have bl := hB.lt
  replace hh := Lib.hid hh
  replace hxk := Lib.hid hxk
  replace hlow := Lib.hid hlow
  replace hl := Lib.hid hl
  clear h hT e hzero hall
  have hT4 : T0.length ≤ 3 := by have := hl.out; omega
  go_enter Tryz.func80, Tryz.ntmps80
  go_wp2
  go_loopw [1, 14] (fun v1 v14 wr => ∃ i : Nat, v1 = .int .u64 (bitsN (wiL P wide high T0 x i) : Nat) ∧ v14 = .int .i64 i ∧ i ≤ T0.length ∧ Ext w wr) (fun _ v14 _ => T0.length - (intOf v14).toNat)
  case atStart => exact ⟨0, rfl, rfl, Nat.zero_le _, Ext.refl _⟩
  case round =>
    obtain ⟨i, rfl, rfl, hi, hE⟩ := hrel
    by_cases hlt : i < T0.length
    · obtain ⟨a, ha⟩ := getD_some (rfl : T0.length = T0.length) hlt
      have haT : T[i]? = some a := by rw [hlow.out i hlt]; exact ha
      have hc1 := fun u (hu : Ext w u) => hh.out u hu i T0.length a x haT hxk.out
      have hc2 := fun u (hu : Ext w u) => hh.out u hu T0.length i x a hxk.out haT
      have hnx := wiL_next P wide high T0 x ha rfl rfl
      have hw1 := wiL_len P wide high T0 x i
      have hor1 := or_bits (wiL P wide high T0 x i) T0.length (by omega) (by omega)
      have hor2 := or_bits (wiL P wide high T0 x i) i (by omega) (by omega)
      have hor3 := or_bits ((wiL P wide high T0 x i).set T0.length true) i (by rw [List.length_set]; omega) (by rw [List.length_set]; omega)
      have hiI : (i : Int) < T0.length := by omega
      have hp1 := pow_wrap (i := i) (by omega)
      have hp2 := pow_wrap hT4
      generalize hidesS P wide high a x = g1 at *
      generalize hidesS P wide high x a = g2 at *
      replace hc1 := Lib.hid hc1
      replace hc2 := Lib.hid hc2
      replace hw1 := Lib.hid hw1
      clear ha haT
      cases g1 <;> cases g2
      all_goals
        simp only [Bool.false_eq_true, if_false, if_true] at hnx
        replace hnx := Lib.hid hnx
      all_goals
        go_wp2_with (first
          | (go_at_call 123; (with_reducible refine Calls.mono (hc1.out _ hE) ?_); rintro e w1 ⟨rfl, hb1⟩; have E1 := hE.trans hb1)
          | (go_at_call 123; (with_reducible refine Calls.mono (hc2.out _ E1) ?_); rintro e w2 ⟨rfl, hb2⟩))
        go_roundw
        case rel => exact ⟨i + 1, by rw [hnx.out], by go_num, by omega, E1.trans hb2⟩
        case measure => simp [intOf]; omega
    · obtain rfl : i = T0.length := by omega
      go_wp2
      go_ret
      exact ⟨rfl, hE⟩
end
end Go.Proofs.YtfbegdcmnfkhgaaGreatDoor
