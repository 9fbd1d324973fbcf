/- People that the stream makes. Conditions: as each theorem says. A person found by name: the binary search. Conditions: the people are right. Where a stand is from the middle on; whether two stands are near. Conditions: the stands are on the stage. Whether stands are near; who stands in front of whom. Conditions: the stands are on the stage. How high somebody stands; who hides whom. Conditions: the stands are on the stage, those who stand are people. How high somebody stands; who hides whom. Conditions: the stands are on the stage, those who stand are people. Who is hidden, listed. Conditions: people, stage and stands are right (what CheckStands answers is a hypothesis here). Whether a singer has two stands. Conditions: names of at most 1000 bytes. What is wrong with stands: plain words. Conditions: as each theorem says. -/
import Derived.Test.YtdehmioobkneiaaGreatDoorTdStC
import Derived.Test.YtdehmioobkneiaaGreatDoorTdJ2
import Derived.Test.YtdehmioobkneiaaGreatDoorTdShelf
import Derived.Test.YtdehmioobkneiaaGreatDoorTdJ11
import Derived.Test.YtdehmioobkneiaaGreatDoorTdJ9
import Derived.Test.YtdehmioobkneiaaGreatDoorTdJ3
import Derived.Outline
set_option linter.unusedSimpArgs false
set_option linter.unusedVariables false
namespace Go.Proofs.YtdehmioobkneiaaGreatDoor
open Go Go.RowKit
theorem perInfo : (Tryz.prog.info? 42).map (fun i => (i.zero, i.size, i.bytes)) = some (some (.agg #[.string ⟨#[]⟩, .int .i64 0, .string ⟨#[]⟩]), 3, 40) := by kernel_rfl
end Go.Proofs.YtdehmioobkneiaaGreatDoor
namespace Go.Proofs.YtdehmioobkneiaaGreatDoor
open Go Go.RowKit
theorem less_cb : ∀ a b : List UInt8, Op.bytesLess a b = decide (Lib.compareBytes a b = -1)
  | [], [] => by simp [Op.bytesLess, Lib.compareBytes]
  | [], _ :: _ => by simp [Op.bytesLess, Lib.compareBytes]
  | _ :: _, [] => by simp [Op.bytesLess, Lib.compareBytes]
  | a :: x, b :: y => by
    have ih := less_cb x y
    unfold Lib.compareBytes
    simp only [Op.bytesLess]
    rw [ih]
    by_cases h1 : a < b
    · have h1' : a.toNat < b.toNat := h1
      simp [h1, h1']
    · have h1' : ¬ a.toNat < b.toNat := h1
      by_cases h2 : b < a
      · have h2' : b.toNat < a.toNat := h2
        have h3 : ¬ a = b := fun e => by subst e; exact h1 h2
        simp [h1, h2, h3]
      · have h3 : a = b := u8_tri h1 h2
        subst h3
        simp [h1]
/-- Later names are greater. -/
theorem cmp_of_le2 {a b : ByteArray} (h : le2 a.toList b.toList = false) : cmpS b a = -1 := by
  unfold le2 at h
  rw [less_cb] at h
  simp only [Bool.or_eq_false_iff, decide_eq_false_iff_not, beq_eq_false_iff_ne, ne_eq] at h
  obtain ⟨h1, h2⟩ := h
  rw [ByteArray.toList_eq, ByteArray.toList_eq] at h1 h2
  unfold cmpS
  rcases cb_three b.data.toList a.data.toList with e | e | e
  · exact e
  · exact absurd (cb_zero e).symm h2
  · rcases cb_three a.data.toList b.data.toList with e2 | e2 | e2
    · exact absurd e2 h1
    · exact absurd (cb_zero e2) h2
    · have := cb_anti e2
      rw [e] at this
      cases this
theorem PeopleOk.less {L : List PersonV} (h : PeopleOk L) {i j : Nat} {x y : PersonV} (hx : L[i]? = some x) (hy : L[j]? = some y) (hij : i < j) : cmpS x.name y.name = -1 := by
  obtain ⟨d, rfl⟩ : ∃ d, j = i + 1 + d := ⟨j - (i + 1), by omega⟩
  exact cmp_of_le2 (h.order d i x y hx hy)
set_option maxRecDepth 100000 in
theorem atPred (x : PersonV) (s : ByteArray) (w : World) :
    Calls Tryz.prog 90 #[.agg #[.string x.name, .int .i64 x.high, .string x.sect], .string s] w fun e w' => e = .returned (.int .i64 (cmpS x.name s)) ∧ Ext w w' := by
  have hcmp := fun u => (Tryz.strings_Compare x.name s u)
  replace hcmp := Lib.hid hcmp
  go_enter Tryz.func90, Tryz.ntmps90
  go_wp2_with (go_at_call 56; refine (hcmp.out _).mono ?_; rintro e w1 ⟨rfl, rfl⟩)
  go_ret
  exact ⟨rfl, (Ext.refl _).alloc _⟩
/-- What the search answers. -/
def FindRes (L : List PersonV) (s : ByteArray) (w : World) (e : Ending) (w' : World) : Prop :=
  ∃ (k : Nat) (is : Bool), e = .returned (.tuple #[.int .i64 k, .bool is]) ∧ Ext w w' ∧ (is = true → ∃ x, L[k]? = some x ∧ x.name = s) ∧ (is = false → ∀ x ∈ L, x.name ≠ s)
set_option maxRecDepth 100000 in
set_option maxHeartbeats 3200000 in
theorem bsearch_any (p : Option Addr) (n c : Nat) (L : List PersonV) (s : ByteArray) (w : World) (hS : Slc 3 perC w p n c L) (hok : PeopleOk L) :
    Calls Tryz.prog 89 #[.slice p n c, .string s, .func (.func 90) #[] #[]] w (FindRes L s w) := by
  obtain ⟨hn, hp⟩ := slcC hS
  subst hn
  have hl := hok.len
  replace hp := Lib.hid hp; replace hok := Lib.hid hok; clear hS
  go_enter Tryz.func89, Tryz.ntmps89
  go_wp2
  go_loopw [9, 10] (fun vi vj wr => ∃ i j : Nat, vi = .int .i64 i ∧ vj = .int .i64 j ∧ i ≤ j ∧ j ≤ L.length ∧ (∀ q x, q < i → L[q]? = some x → cmpS x.name s = -1) ∧ (∀ q x, j ≤ q → L[q]? = some x → cmpS x.name s ≠ -1) ∧ Ext w wr) (fun vi vj _ => (intOf vj).toNat - (intOf vi).toNat)
  case atStart => exact ⟨0, L.length, rfl, rfl, Nat.zero_le _, Nat.le_refl _, (fun q x hq => absurd hq (Nat.not_lt_zero _)), (fun q x hq hx => absurd (List.getElem?_eq_some_iff.1 hx).1 (by omega)), Ext.refl _⟩
  case round =>
    obtain ⟨i, j, rfl, rfl, hij, hjl, hlo, hhi, hE⟩ := hrel
    replace hlo := Lib.hid hlo; replace hhi := Lib.hid hhi
    by_cases hlt : i < j
    · have hm1 : i ≤ (i + j) / 2 := by omega
      have hm2 : (i + j) / 2 < j := by omega
      obtain ⟨x, hx⟩ := getD_some (rfl : L.length = L.length) (show (i + j) / 2 < L.length by omega)
      rcases hp.out with ⟨-, e⟩ | ⟨b, off, rfl, hb, hEl⟩
      · rw [e] at hx; cases hx
      obtain ⟨c0, c1, c2⟩ := (hEl.ext hE hb).per hx
      have hbw := Nat.lt_of_lt_of_le hb hE.size
      have hat := atPred x s wr
      replace hx := Lib.hid hx; clear hEl
      go_upto_region 5 with fail
      rw [show ((i : Int) + (j : Int)) / 2 = (((i + j) / 2 : Nat) : Int) by omega]
      generalize hh : (i + j) / 2 = h at *
      have hhI : (h : Int) < L.length := by omega
      clear hh
      rcases cmpS_three x.name s with hc | hc | hc
      · rw [hc] at hat
        replace hat := Lib.hid hat; replace hc := Lib.hid hc
        go_wp2_with (go_at_call 90; (with_reducible refine Calls.mono hat.out ?_); rintro e w2 ⟨rfl, hb2⟩)
        go_roundw
        case rel => exact ⟨h + 1, j, by go_num, rfl, by omega, hjl, (fun q y hq hy => by
          rcases Nat.lt_or_ge q h with h1 | h1
          · exact cmpS_trans (hok.out.less hy hx.out h1) hc.out
          · obtain rfl : q = h := by omega
            have := hx.out.symm.trans hy
            cases this
            exact hc.out), hhi.out, hE.trans hb2⟩
        case measure => simp [intOf]; omega
      all_goals
        rw [hc] at hat
        replace hat := Lib.hid hat; replace hc := Lib.hid hc
        go_wp2_with (go_at_call 90; (with_reducible refine Calls.mono hat.out ?_); rintro e w2 ⟨rfl, hb2⟩)
        go_roundw
        case rel => exact ⟨i, h, rfl, rfl, hm1, by omega, hlo.out, (fun q y hq hy e9 => by
          rcases Nat.lt_or_ge h q with h1 | h1
          · have := cmpS_trans (hok.out.less hx.out hy h1) e9
            rw [hc.out] at this
            cases this
          · obtain rfl : q = h := by omega
            have := hx.out.symm.trans hy
            cases this
            rw [hc.out] at e9
            cases e9), hE.trans hb2⟩
        case measure => simp [intOf]; omega
    · obtain rfl : i = j := by omega
      by_cases hin : i < L.length
      · obtain ⟨x, hx⟩ := getD_some (rfl : L.length = L.length) hin
        rcases hp.out with ⟨-, e⟩ | ⟨b, off, rfl, hb, hEl⟩
        · rw [e] at hx; cases hx
        obtain ⟨c0, c1, c2⟩ := (hEl.ext hE hb).per hx
        have hbw := Nat.lt_of_lt_of_le hb hE.size
        have hat := atPred x s wr
        have hiI : (i : Int) < L.length := by omega
        replace hx := Lib.hid hx; clear hEl
        rcases cmpS_three x.name s with hc | hc | hc
        · exact absurd hc (hhi.out i x (Nat.le_refl _) hx.out)
        · rw [hc] at hat
          replace hat := Lib.hid hat; replace hc := Lib.hid hc
          go_wp2_with (go_at_call 90; (with_reducible refine Calls.mono hat.out ?_); rintro e w2 ⟨rfl, hb2⟩)
          go_ret2
          exact ⟨i, true, rfl, hE.trans hb2, (fun _ => ⟨x, hx.out, cmpS_zero hc.out⟩), fun h => by cases h⟩
        · rw [hc] at hat
          replace hat := Lib.hid hat; replace hc := Lib.hid hc
          go_wp2_with (go_at_call 90; (with_reducible refine Calls.mono hat.out ?_); rintro e w2 ⟨rfl, hb2⟩)
          go_ret2
          refine ⟨i, false, rfl, hE.trans hb2, (fun h => by cases h), fun _ y hy e9 => ?_⟩
          obtain ⟨q, hq, hqe⟩ := List.getElem_of_mem hy
          have hyq : L[q]? = some y := by rw [List.getElem?_eq_getElem hq, hqe]
          rcases Nat.lt_trichotomy q i with h1 | h1 | h1
          · have := hlo.out q y h1 hyq
            rw [e9, cmpS_refl] at this
            cases this
          · subst h1
            have := hx.out.symm.trans hyq
            cases this
            have := hc.out
            rw [e9, cmpS_refl] at this
            cases this
          · have h2 := hok.out.less hx.out hyq h1
            rw [e9, hc.out] at h2
            cases h2
      · obtain rfl : i = L.length := by omega
        have hiI : ¬ (L.length : Int) < L.length := by omega
        go_wp2
        go_ret2
        refine ⟨L.length, false, rfl, hE, (fun h => by cases h), fun _ y hy e9 => ?_⟩
        obtain ⟨q, hq, hqe⟩ := List.getElem_of_mem hy
        have := hlo.out q y hq (by rw [List.getElem?_eq_getElem hq, hqe])
        rw [e9, cmpS_refl] at this
        cases this
set_option maxRecDepth 100000 in
theorem personAt_any (p : Option Addr) (n c : Nat) (L : List PersonV) (s : ByteArray) (w : World) (hS : Slc 3 perC w p n c L) (hok : PeopleOk L) :
    Calls Tryz.prog 41 #[.slice p n c, .string s] w (FindRes L s w) := by
  have hb := bsearch_any p n c L s w hS hok
  replace hb := Lib.hid hb
  go_enter Tryz.func41, Tryz.ntmps41
  go_wp2_with (go_at_call 89; (with_reducible refine Calls.mono hb.out ?_); rintro e w1 ⟨k, is, rfl, hb1, h1, h2⟩; replace h1 := Lib.hid h1; replace h2 := Lib.hid h2)
  go_ret2
  exact ⟨k, is, rfl, hb1, h1.out, h2.out⟩
end Go.Proofs.YtdehmioobkneiaaGreatDoor
namespace Go.Proofs.YtdehmioobkneiaaGreatDoor
open Go Go.RowKit
def staC (x : StandV) : List Value := [.string x.name, .int .i64 x.row, .int .i64 x.place]
theorem staC_len (x : StandV) : (staC x).length = 3 := rfl
theorem Elems.sta {w : World} {b off : Nat} {xs : List StandV} (h : Elems 3 staC w b off xs) {i : Nat} {x : StandV} (hx : xs[i]? = some x) :
    w.cell? ⟨b, off + i * 3, none⟩ = some (.string x.name) ∧ w.cell? ⟨b, off + i * 3 + 1, none⟩ = some (.int .i64 x.row) ∧ w.cell? ⟨b, off + i * 3 + 2, none⟩ = some (.int .i64 x.place) :=
  ⟨h i x hx 0 _ rfl, h i x hx 1 _ rfl, h i x hx 2 _ rfl⟩
/-- A stand that is on the stage. -/
def OnStage (wide : List Int) (x : StandV) : Prop := 0 ≤ x.row ∧ x.row < wide.length ∧ 0 ≤ x.place ∧ x.place ≤ 1000
def WideOk (wide : List Int) : Prop := wide.length ≤ 10 ∧ ∀ v ∈ wide, 1 ≤ v ∧ v ≤ 30
end Go.Proofs.YtdehmioobkneiaaGreatDoor
namespace Go.Proofs.YtdehmioobkneiaaGreatDoor
open Go Go.RowKit
end Go.Proofs.YtdehmioobkneiaaGreatDoor
namespace Go.Proofs.YtdehmioobkneiaaGreatDoor
open Go Go.RowKit
end Go.Proofs.YtdehmioobkneiaaGreatDoor
namespace Go.Proofs.YtdehmioobkneiaaGreatDoor
open Go Go.RowKit
def HighOk (high : List Int) : Prop := ∀ v ∈ high, 0 ≤ v ∧ v ≤ 1000000
/-- All who stand are people. -/
def AllPeople (P : List PersonV) (S : List StandV) : Prop := ∀ x ∈ S, ∃ (k : Nat) (q : PersonV), P[k]? = some q ∧ q.name = x.name
end Go.Proofs.YtdehmioobkneiaaGreatDoor
namespace Go.Proofs.YtdehmioobkneiaaGreatDoor
open Go Go.RowKit
structure StandsOk (P : List PersonV) (wide high : List Int) (S : List StandV) : Prop where
  po : PeopleOk P
  wo : WideOk wide
  ho : HighOk high
  wh : high.length = wide.length
  len : S.length ≤ 200
  on : ∀ x ∈ S, OnStage wide x
  all : AllPeople P S
def hidC (x : ByteArray × ByteArray) : List Value := [.string x.1, .string x.2]
end Go.Proofs.YtdehmioobkneiaaGreatDoor
namespace Go.Proofs.YtdehmioobkneiaaGreatDoor
open Go Go.RowKit
section
variable {P : Program} {ops : Array Oper} {rest : List Oper} {o : Oper} {a : Act} {w : World} {Q : Exit → Act → World → Prop}
theorem wpList_lookB (hg : o.guard = none) (m x : Operand) (t : TypeId) (ok : Bool) (hop : o.op = Op.lookup t m x ok) (mv kv v : Value) (hm : a.eval m = mv) (hx : a.eval x = kv) (hrun : (Instr.lookup t mv kv ok).run P w = .ok v w)
    (hK : wpList P ops Q rest (a.put o.dst v) w) : wpList P ops Q (o :: rest) a w := by
  refine wpList_plain hg fun K' hK' => ?_
  unfold Oper.wp
  simp [execOp, hop, hm, hx, hrun, Result.andThen]
  exact hK' _ _ hK
theorem wpList_putB (hg : o.guard = none) (m x y : Operand) (t : TypeId) (hop : o.op = Op.mapUpdate t m x y) (mv kv v : Value) (hm : a.eval m = mv) (hx : a.eval x = kv) (hy : a.eval y = v) (w' : World) (hrun : (Instr.mapUpdate t mv kv v).run P w = .ok () w')
    (hK : wpList P ops Q rest (a.put o.dst undef) w') : wpList P ops Q (o :: rest) a w := by
  refine wpList_plain hg fun K' hK' => ?_
  unfold Oper.wp
  simp [execOp, hop, hm, hx, hy, hrun, Result.andThen]
  exact hK' _ _ hK
end
def namesS (S : List StandV) : List ByteArray := S.map (·.name)
theorem namesS_take {S : List StandV} {k : Nat} {x : StandV} (h : S[k]? = some x) : namesS (S.take (k + 1)) = namesS (S.take k) ++ [x.name] := by
  unfold namesS; rw [take_snocL h]; simp
theorem nodup_snoc {T : List ByteArray} {p : ByteArray} (h : T.Nodup) (hp : p ∉ T) : (T ++ [p]).Nodup := by
  rw [List.nodup_append]
  refine ⟨h, by simp, fun a ha b hb e => ?_⟩
  rw [List.mem_singleton] at hb
  subst hb; subst e
  exact hp ha
theorem not_nodup_take {S : List StandV} {k : Nat} {x : StandV} (h : S[k]? = some x) (hm : x.name ∈ namesS (S.take k)) : ¬ (namesS S).Nodup := by
  intro hn
  have e : namesS S = namesS (S.take k) ++ namesS (S.drop k) := by unfold namesS; rw [← List.map_append, List.take_append_drop]
  rw [e, List.nodup_append] at hn
  obtain ⟨hk, hx⟩ := List.getElem?_eq_some_iff.1 h
  refine hn.2.2 _ hm x.name ?_ rfl
  unfold namesS
  rw [List.drop_eq_getElem_cons hk, List.map_cons, hx]
  exact List.mem_cons_self
set_option maxRecDepth 100000 in
set_option maxHeartbeats 3200000 in
theorem standTwice_any (p : Option Addr) (n c : Nat) (S : List StandV) (w : World) (hS : Slc 3 staC w p n c S) (hn : n ≤ 1000) (hs : ∀ x ∈ S, x.name.size ≤ 1000) :
    Calls Tryz.prog 44 #[.slice p n c] w fun e w' => ∃ t : Bool, e = .returned (.bool t) ∧ (t = true ↔ ¬ (namesS S).Nodup) ∧ Ext w w' := by
  have hmm := @run_makeMap Tryz.prog
  have hO0 := OwnB.made w
  have hE0 : Ext w (w.alloc (.map #[] 0)) := (Ext.refl _).alloc _
  have hl := (slcC hS).1
  subst hl
  go_enter Tryz.func44, Tryz.ntmps44
  go_upto_region 2 with fail
  clear hmm
  generalize (w.alloc (.map #[] 0)) = W at *
  go_wp2
  go_loopw [9] (fun v9 wr => ∃ k : Nat, v9 = .int .i64 k ∧ k ≤ S.length ∧ OwnB wr w.heap.size (namesS (S.take k)) ∧ (namesS (S.take k)).Nodup ∧ Ext w wr) (fun v9 _ => S.length - (intOf v9).toNat)
  case atStart => exact ⟨0, rfl, Nat.zero_le _, by simpa [namesS] using hO0, by simp [namesS], hE0⟩
  case round =>
    clear hO0 hE0
    obtain ⟨k, rfl, hk, hO, hnd, hE⟩ := hrel
    by_cases hlt : k < S.length
    · obtain ⟨x, hx⟩ := getD_some (rfl : S.length = S.length) hlt
      have hxs := hs x (List.mem_of_getElem? hx)
      rcases (slcC hS).2 with ⟨-, e⟩ | ⟨b, off, rfl, hb, hEl⟩
      · rw [e] at hx; cases hx
      obtain ⟨c0, c1, c2⟩ := (hEl.ext hE hb).sta hx
      have hbl : b < wr.heap.size := Nat.lt_of_lt_of_le hb hE.size
      have hkI : (k : Int) < S.length := by omega
      have hE1 : Ext wr (wr.alloc (.cells #[.string x.name, .int .i64 x.row, .int .i64 x.place] 54)) := (Ext.refl _).alloc _
      have hO1 := hO.ext hE1
      obtain ⟨cc, hrun, hcc⟩ := hO1.look hxs
      have htl : (namesS (S.take k)).length ≤ 1000 := by unfold namesS; rw [List.length_map, List.length_take]; omega
      have hnt := namesS_take hx
      have hnn := @not_nodup_take S k x hx
      replace hnt := Lib.hid hnt; replace hnn := Lib.hid hnn; replace hx := Lib.hid hx
      cases cc
      · have hnm : x.name ∉ namesS (S.take k) := fun h => by have := hcc.2 h; cases this
        obtain ⟨w5, hput, hO5, hg5⟩ := hO1.put hxs htl
        have hE5 : Ext w w5 := (hE.trans hE1).grown hg5 (fun j e => by cases e; exact Nat.le_refl _)
        clear hEl
        go_wp2_with (first
          | (refine wpList_lookB rfl _ _ 152 false rfl (.map (some w.heap.size)) (.string x.name) _ rfl rfl hrun ?_)
          | (refine wpList_putB rfl _ _ _ 152 rfl (.map (some w.heap.size)) (.string x.name) (.bool true) rfl rfl rfl w5 hput ?_))
        go_roundw
        case rel => exact ⟨k + 1, by go_num, by omega, by rw [hnt.out]; exact hO5, by rw [hnt.out]; exact nodup_snoc hnd hnm, hE5⟩
        case measure => simp [intOf]; omega
      · have hm := hcc.1 rfl
        clear hEl
        go_wp2_with (refine wpList_lookB rfl _ _ 152 false rfl (.map (some w.heap.size)) (.string x.name) _ rfl rfl hrun ?_)
        go_ret
        exact ⟨true, rfl, ⟨fun _ => hnn.out hm, fun _ => rfl⟩, hE.trans hE1⟩
    · obtain rfl : k = S.length := by omega
      rw [List.take_length] at hnd
      replace hnd := Lib.hid hnd
      go_wp2
      go_ret
      exact ⟨false, rfl, ⟨(fun h => by cases h), fun h => absurd hnd.out h⟩, hE⟩
end Go.Proofs.YtdehmioobkneiaaGreatDoor
namespace Go.Proofs.YtdehmioobkneiaaGreatDoor
open Go Go.RowKit
theorem baL {a b : ByteArray} : (a.toList == b.toList) = true ↔ a = b := by
  constructor
  · intro h
    have h4 := eq_of_beq h
    rw [ByteArray.toList_eq, ByteArray.toList_eq] at h4
    cases a; cases b
    simp only at h4 ⊢
    congr 1
    exact Array.toList_inj.1 h4
  · rintro rfl
    simp
def hasP (P : List PersonV) (nm : ByteArray) : Bool := P.any fun x => x.name.toList == nm.toList
theorem hasP_iff {P : List PersonV} {nm : ByteArray} : hasP P nm = true ↔ ∃ x ∈ P, x.name = nm := by
  unfold hasP
  rw [List.any_eq_true]
  exact ⟨fun ⟨x, hx, h⟩ => ⟨x, hx, baL.1 h⟩, fun ⟨x, hx, h⟩ => ⟨x, hx, baL.2 h⟩⟩
def dupB : List ByteArray → Bool
  | [] => false
  | x :: l => (l.any fun y => x.toList == y.toList) || dupB l
theorem dupB_iff : ∀ {l : List ByteArray}, dupB l = true ↔ ¬ l.Nodup
  | [] => by simp [dupB]
  | x :: l => by
    have ih := @dupB_iff l
    unfold dupB
    rw [Bool.or_eq_true, List.any_eq_true, ih, List.nodup_cons]
    constructor
    · rintro (⟨y, hy, e⟩ | h)
      · have := baL.1 e; subst this; exact fun h => h.1 hy
      · exact fun h2 => h h2.2
    · intro h
      by_cases hm : x ∈ l
      · exact .inl ⟨x, hm, baL.2 rfl⟩
      · exact .inr fun h2 => h ⟨hm, h2⟩
def cmpV (a b : StandV) : Int := if a.row < b.row then -1 else if b.row < a.row then 1 else if a.place < b.place then -1 else if b.place < a.place then 1 else 0
def chkSta (P : List PersonV) (wide : List Int) (S : List StandV) (i : Nat) : Int :=
  if hasP P (atL default S i).name then (if inB (atL default S i).row 0 (wide.length - 1) && inB (atL default S i).place 0 (wide.getD (atL default S i).row.toNat 0 - 1) then (if 0 < i && decide (0 ≤ cmpV (atL default S (i - 1)) (atL default S i)) then 7 else 0) else 1) else 8
def ostF (P : List PersonV) (wide high : List Int) : Int := if peopleF P = 0 then stageF wide high else peopleF P
def listF (P : List PersonV) (wide : List Int) (S : List StandV) : Int :=
  if P.length < S.length then 2 else if scanF S.length (chkSta P wide S) = 0 then (if dupB (namesS S) then 6 else 0) else scanF S.length (chkSta P wide S)
def standsF (P : List PersonV) (wide high : List Int) (S : List StandV) : Int :=
  if ostF P wide high = 0 then listF P wide S else ostF P wide high
theorem stageF_ok {wide high : List Int} (h : stageF wide high = 0) : WideOk wide ∧ (∀ v ∈ high, 0 ≤ v ∧ v ≤ 5000) ∧ high.length = wide.length ∧ 1 ≤ wide.length ∧ ∀ i x y, high[i]? = some x → high[i + 1]? = some y → x ≤ y := by
  unfold stageF at h
  by_cases h0 : wide.length = 0
  · rw [if_pos h0] at h; cases h
  rw [if_neg h0] at h
  by_cases h1 : 10 < wide.length
  · rw [if_pos h1] at h; cases h
  rw [if_neg h1] at h
  by_cases h2 : high.length ≠ wide.length
  · rw [if_pos h2] at h; cases h
  rw [if_neg h2] at h
  have h2 : high.length = wide.length := Decidable.not_not.1 h2
  have hz := scan_all h
  have hat : ∀ i x y, wide[i]? = some x → high[i]? = some y → (1 ≤ x ∧ x ≤ 30) ∧ (0 ≤ y ∧ y ≤ 5000) ∧ (0 < i → atL 0 high (i - 1) ≤ y) := by
    intro i x y hx hy
    have h3 := hz i (List.getElem?_eq_some_iff.1 hx).1
    unfold chkRow at h3
    rw [atL_of hx, atL_of hy] at h3
    cases k1 : inB x 1 30
    · rw [k1] at h3; simp at h3
    cases k2 : inB y 0 5000
    · rw [k1, k2] at h3; simp at h3
    refine ⟨inB_iff.1 k1, inB_iff.1 k2, fun hi => ?_⟩
    rw [k1, k2] at h3
    by_cases k3 : y < atL 0 high (i - 1)
    · simp [hi, k3] at h3
    · omega
  have both : ∀ i, i < wide.length → ∃ x y, wide[i]? = some x ∧ high[i]? = some y := fun i hi => ⟨_, _, List.getElem?_eq_getElem hi, List.getElem?_eq_getElem (by omega)⟩
  refine ⟨⟨by omega, fun v hv => ?_⟩, fun v hv => ?_, h2, by omega, fun i x y hx hy => ?_⟩
  · obtain ⟨i, hi, e⟩ := List.getElem_of_mem hv
    obtain ⟨x, y, hx, hy⟩ := both i hi
    have hx2 : wide[i]? = some v := by rw [List.getElem?_eq_getElem hi, e]
    exact (hat i v y hx2 hy).1
  · obtain ⟨i, hi, e⟩ := List.getElem_of_mem hv
    obtain ⟨x, y, hx, hy⟩ := both i (by omega)
    have hy2 : high[i]? = some v := by rw [List.getElem?_eq_getElem hi, e]
    exact (hat i x v hx hy2).2.1
  · obtain ⟨u, v, hu, hv⟩ := both (i + 1) (by have := (List.getElem?_eq_some_iff.1 hy).1; omega)
    have := (hat (i + 1) u y hu hy).2.2 (by omega)
    rwa [Nat.add_sub_cancel, atL_of hx] at this
theorem ostF_ok {P : List PersonV} {wide high : List Int} (h : ostF P wide high = 0) : peopleF P = 0 ∧ stageF wide high = 0 := by
  unfold ostF at h
  by_cases h0 : peopleF P = 0
  · rw [if_pos h0] at h; exact ⟨h0, h⟩
  · rw [if_neg h0] at h; exact absurd h h0
theorem standsF_ok {P : List PersonV} {wide high : List Int} {S : List StandV} (h : standsF P wide high S = 0) : StandsOk P wide high S ∧ 1 ≤ wide.length ∧ (∀ v ∈ high, v ≤ 5000) ∧ (namesS S).Nodup := by
  unfold standsF at h
  by_cases h0 : ostF P wide high = 0
  rotate_left
  · rw [if_neg h0] at h; exact absurd h h0
  rw [if_pos h0] at h
  obtain ⟨hp, hs⟩ := ostF_ok h0
  have hpo := peopleF_ok hp
  obtain ⟨hw, hh, hwh, h1, -⟩ := stageF_ok hs
  unfold listF at h
  by_cases h2 : P.length < S.length
  · rw [if_pos h2] at h; cases h
  rw [if_neg h2] at h
  by_cases h3 : scanF S.length (chkSta P wide S) = 0
  rotate_left
  · rw [if_neg h3] at h; exact absurd h h3
  rw [if_pos h3] at h
  have hd : dupB (namesS S) = false := by
    cases hh : dupB (namesS S)
    · rfl
    · rw [hh] at h; cases h
  have hz := scan_all h3
  have hat : ∀ (i : Nat) (x : StandV), S[i]? = some x → hasP P x.name = true ∧ (0 ≤ x.row ∧ x.row ≤ wide.length - 1) ∧ 0 ≤ x.place ∧ x.place ≤ wide.getD x.row.toNat 0 - 1 := by
    intro i x hx
    have h4 := hz i (List.getElem?_eq_some_iff.1 hx).1
    unfold chkSta at h4
    rw [atL_of hx] at h4
    cases k0 : hasP P x.name
    · rw [k0] at h4; simp at h4
    cases k1 : inB x.row 0 (wide.length - 1)
    · rw [k0, k1] at h4; simp at h4
    cases k2 : inB x.place 0 (wide.getD x.row.toNat 0 - 1)
    · rw [k0, k1, k2] at h4; simp at h4
    exact ⟨rfl, inB_iff.1 k1, inB_iff.1 k2⟩
  have hmem : ∀ x ∈ S, ∃ i, S[i]? = some x := fun x hx => let ⟨i, hi, e⟩ := List.getElem_of_mem hx; ⟨i, by rw [List.getElem?_eq_getElem hi, e]⟩
  have hpl := hpo.len
  refine ⟨⟨hpo, hw, fun v hv => ?_, hwh, by omega, fun x hx => ?_, fun x hx => ?_⟩, h1, fun v hv => (hh v hv).2, ?_⟩
  · have := hh v hv; omega
  · obtain ⟨i, hi⟩ := hmem x hx
    obtain ⟨-, h5, h6⟩ := hat i x hi
    have h7 : wide.getD x.row.toNat 0 ≤ 30 := by
      rw [List.getD_eq_getElem?_getD]
      cases hg : wide[x.row.toNat]? with
      | none => simp
      | some v => simpa using (hw.2 v (List.mem_of_getElem? hg)).2
    exact ⟨h5.1, by omega, h6.1, by omega⟩
  · obtain ⟨i, hi⟩ := hmem x hx
    obtain ⟨q, hq, e⟩ := hasP_iff.1 (hat i x hi).1
    obtain ⟨k, hk, e2⟩ := List.getElem_of_mem hq
    exact ⟨k, q, by rw [List.getElem?_eq_getElem hk, e2], e⟩
  · exact Classical.not_not.1 fun hn => by rw [dupB_iff.2 hn] at hd; cases hd
end Go.Proofs.YtdehmioobkneiaaGreatDoor
