/- Whether a singer has two stands. Conditions: names of at most 1000 bytes. -/
import Derived.Test.YtflcbphlhoibiaaGreatDoorMtStG
import Derived.Test.YtflcbphlhoibiaaGreatDoorMtJ4
import Derived.Outline
set_option linter.unusedSimpArgs false
set_option linter.unusedVariables false
namespace Go.Proofs.YtflcbphlhoibiaaGreatDoor
open Go Go.RowKit

section
variable {P : Program} {ops : Array Oper} {rest : List Oper} {o : Oper} {a : Act} {w : World} {Q : Exit → Act → World → Prop}
theorem wpList_lookB (hg : o.guard = none) (m x : Operand) (t : TypeId) (ok : Bool) (hop : o.op = Op.lookup t m x ok) (mv kv v : Value) (hm : a.eval m = mv) (hx : a.eval x = kv) (hrun : (Instr.lookup t mv kv ok).run P w = .ok v w)
    (hK : wpList P ops Q rest (a.put o.dst v) w) : wpList P ops Q (o :: rest) a w := by
  refine wpList_plain hg fun K' hK' => ?_
  unfold Oper.wp
  simp [execOp, hop, hm, hx, hrun, Result.andThen]
  exact hK' _ _ hK
theorem wpList_putB (hg : o.guard = none) (m x y : Operand) (t : TypeId) (hop : o.op = Op.mapUpdate t m x y) (mv kv v : Value) (hm : a.eval m = mv) (hx : a.eval x = kv) (hy : a.eval y = v) (w' : World) (hrun : (Instr.mapUpdate t mv kv v).run P w = .ok () w')
    (hK : wpList P ops Q rest (a.put o.dst undef) w') : wpList P ops Q (o :: rest) a w := by
  refine wpList_plain hg fun K' hK' => ?_
  unfold Oper.wp
  simp [execOp, hop, hm, hx, hy, hrun, Result.andThen]
  exact hK' _ _ hK
end
def namesS (S : List StandV) : List ByteArray := S.map (·.name)
theorem namesS_take {S : List StandV} {k : Nat} {x : StandV} (h : S[k]? = some x) : namesS (S.take (k + 1)) = namesS (S.take k) ++ [x.name] := by
  unfold namesS; rw [take_snocL h]; simp
theorem nodup_snoc {T : List ByteArray} {p : ByteArray} (h : T.Nodup) (hp : p ∉ T) : (T ++ [p]).Nodup := by
  rw [List.nodup_append]
  refine ⟨h, by simp, fun a ha b hb e => ?_⟩
  rw [List.mem_singleton] at hb
  subst hb; subst e
  exact hp ha
theorem not_nodup_take {S : List StandV} {k : Nat} {x : StandV} (h : S[k]? = some x) (hm : x.name ∈ namesS (S.take k)) : ¬ (namesS S).Nodup := by
  intro hn
  have e : namesS S = namesS (S.take k) ++ namesS (S.drop k) := by unfold namesS; rw [← List.map_append, List.take_append_drop]
  rw [e, List.nodup_append] at hn
  obtain ⟨hk, hx⟩ := List.getElem?_eq_some_iff.1 h
  refine hn.2.2 _ hm x.name ?_ rfl
  unfold namesS
  rw [List.drop_eq_getElem_cons hk, List.map_cons, hx]
  exact List.mem_cons_self

set_option maxRecDepth 100000 in
set_option maxHeartbeats 3200000 in
theorem standTwice_any (p : Option Addr) (n c : Nat) (S : List StandV) (w : World) (hS : Slc 3 staC w p n c S) (hn : n ≤ 1000) (hs : ∀ x ∈ S, x.name.size ≤ 1000) :
    Calls Tryz.prog 58 #[.slice p n c] w fun e w' => ∃ t : Bool, e = .returned (.bool t) ∧ (t = true ↔ ¬ (namesS S).Nodup) ∧ Ext w w' := by
  have hmm := @run_makeMap Tryz.prog
  have hO0 := OwnB.made w
  have hE0 : Ext w (w.alloc (.map #[] 0)) := (Ext.refl _).alloc _
  have hl := (slcC hS).1
  subst hl
  go_enter Tryz.func58, Tryz.ntmps58
  go_upto_region 2 with fail
  clear hmm
  generalize (w.alloc (.map #[] 0)) = W at *
  go_wp2
  go_loopw [9] (fun v9 wr => ∃ k : Nat, v9 = .int .i64 k ∧ k ≤ S.length ∧ OwnB wr w.heap.size (namesS (S.take k)) ∧ (namesS (S.take k)).Nodup ∧ Ext w wr) (fun v9 _ => S.length - (intOf v9).toNat)
  case atStart => exact ⟨0, rfl, Nat.zero_le _, by simpa [namesS] using hO0, by simp [namesS], hE0⟩
  case round =>
    clear hO0 hE0
    obtain ⟨k, rfl, hk, hO, hnd, hE⟩ := hrel
    by_cases hlt : k < S.length
    · obtain ⟨x, hx⟩ := getD_some (rfl : S.length = S.length) hlt
      have hxs := hs x (List.mem_of_getElem? hx)
      rcases (slcC hS).2 with ⟨-, e⟩ | ⟨b, off, rfl, hb, hEl⟩
      · rw [e] at hx; cases hx
      obtain ⟨c0, c1, c2⟩ := (hEl.ext hE hb).sta hx
      have hbl : b < wr.heap.size := Nat.lt_of_lt_of_le hb hE.size
      have hkI : (k : Int) < S.length := by omega
      have hE1 : Ext wr (wr.alloc (.cells #[.string x.name, .int .i64 x.row, .int .i64 x.place] 35)) := (Ext.refl _).alloc _
      have hO1 := hO.ext hE1
      obtain ⟨cc, hrun, hcc⟩ := hO1.look hxs
      have htl : (namesS (S.take k)).length ≤ 1000 := by unfold namesS; rw [List.length_map, List.length_take]; omega
      have hnt := namesS_take hx
      have hnn := @not_nodup_take S k x hx
      replace hnt := Lib.hid hnt
      replace hnn := Lib.hid hnn
      replace hx := Lib.hid hx
      cases cc
      · have hnm : x.name ∉ namesS (S.take k) := fun h => by have := hcc.2 h; cases this
        obtain ⟨w5, hput, hO5, hg5⟩ := hO1.put hxs htl
        have hE5 : Ext w w5 := (hE.trans hE1).grown hg5 (fun j e => by cases e; exact Nat.le_refl _)
        clear hEl
        go_wp2_with (first
          | (refine wpList_lookB rfl _ _ 64 false rfl (.map (some w.heap.size)) (.string x.name) _ rfl rfl hrun ?_)
          | (refine wpList_putB rfl _ _ _ 64 rfl (.map (some w.heap.size)) (.string x.name) (.bool true) rfl rfl rfl w5 hput ?_))
        go_roundw
        case rel => exact ⟨k + 1, by go_num, by omega, by rw [hnt.out]; exact hO5, by rw [hnt.out]; exact nodup_snoc hnd hnm, hE5⟩
        case measure => simp [intOf]; omega
      · have hm := hcc.1 rfl
        clear hEl
        go_wp2_with (refine wpList_lookB rfl _ _ 64 false rfl (.map (some w.heap.size)) (.string x.name) _ rfl rfl hrun ?_)
        go_ret
        exact ⟨true, rfl, ⟨fun _ => hnn.out hm, fun _ => rfl⟩, hE.trans hE1⟩
    · obtain rfl : k = S.length := by omega
      rw [List.take_length] at hnd
      replace hnd := Lib.hid hnd
      go_wp2
      go_ret
      exact ⟨false, rfl, ⟨(fun h => by cases h), fun h => absurd hnd.out h⟩, hE⟩
end Go.Proofs.YtflcbphlhoibiaaGreatDoor
