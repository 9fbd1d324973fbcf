/- A person found by name: the binary search. Conditions: the people are right. Where a stand is from the middle on; whether two stands are near. Conditions: the stands are on the stage. Whether a singer has two stands. Conditions: names of at most 1000 bytes. -/
import Derived.Test.YtfcoeikekbjgpaaGreatDoorSxStD
import Derived.Test.YtfcoeikekbjgpaaGreatDoorSxWayM
import Derived.Test.YtfcoeikekbjgpaaGreatDoorSxJ9
import Derived.Test.YtfcoeikekbjgpaaGreatDoorSxJ3
import Derived.Outline
set_option linter.unusedSimpArgs false
set_option linter.unusedVariables false
namespace Go.Proofs.YtfcoeikekbjgpaaGreatDoor
open Go Go.RowKit

theorem less_cb : ∀ a b : List UInt8, Op.bytesLess a b = decide (Lib.compareBytes a b = -1)
  | [], [] => by simp [Op.bytesLess, Lib.compareBytes]
  | [], _ :: _ => by simp [Op.bytesLess, Lib.compareBytes]
  | _ :: _, [] => by simp [Op.bytesLess, Lib.compareBytes]
  | a :: x, b :: y => by
    have ih := less_cb x y
    unfold Lib.compareBytes
    simp only [Op.bytesLess]
    rw [ih]
    by_cases h1 : a < b
    · have h1' : a.toNat < b.toNat := h1
      simp [h1, h1']
    · have h1' : ¬ a.toNat < b.toNat := h1
      by_cases h2 : b < a
      · have h2' : b.toNat < a.toNat := h2
        have h3 : ¬ a = b := fun e => by subst e; exact h1 h2
        simp [h1, h2, h3]
      · have h3 : a = b := u8_tri h1 h2
        subst h3
        simp [h1]
theorem cb_anti : ∀ {a b : List UInt8}, Lib.compareBytes a b = 1 → Lib.compareBytes b a = -1
  | [], [], h => by cases h
  | [], _ :: _, h => by cases h
  | _ :: _, [], _ => rfl
  | a :: x, b :: y, h => by
    unfold Lib.compareBytes at h ⊢
    by_cases h1 : a < b
    · rw [if_pos h1] at h; cases h
    · rw [if_neg h1] at h
      by_cases h2 : b < a
      · rw [if_pos h2]
      · rw [if_neg h2] at h
        rw [if_neg h2, if_neg h1]
        exact cb_anti h
/-- Later names are greater. -/
theorem cmp_of_le2 {a b : ByteArray} (h : le2 a.toList b.toList = false) : cmpS b a = -1 := by
  unfold le2 at h
  rw [less_cb] at h
  simp only [Bool.or_eq_false_iff, decide_eq_false_iff_not, beq_eq_false_iff_ne, ne_eq] at h
  obtain ⟨h1, h2⟩ := h
  rw [ByteArray.toList_eq, ByteArray.toList_eq] at h1 h2
  unfold cmpS
  rcases cb_three b.data.toList a.data.toList with e | e | e
  · exact e
  · exact absurd (cb_zero e).symm h2
  · rcases cb_three a.data.toList b.data.toList with e2 | e2 | e2
    · exact absurd e2 h1
    · exact absurd (cb_zero e2) h2
    · have := cb_anti e2
      rw [e] at this
      cases this
theorem cmpS_trans {a b c : ByteArray} (h1 : cmpS a b = -1) (h2 : cmpS b c = -1) : cmpS a c = -1 := cb_trans h1 h2
theorem PeopleOk.less {L : List PersonV} (h : PeopleOk L) {i j : Nat} {x y : PersonV} (hx : L[i]? = some x) (hy : L[j]? = some y) (hij : i < j) : cmpS x.name y.name = -1 := by
  obtain ⟨d, rfl⟩ : ∃ d, j = i + 1 + d := ⟨j - (i + 1), by omega⟩
  exact cmp_of_le2 (h.order d i x y hx hy)
set_option maxRecDepth 100000 in
theorem atPred (x : PersonV) (s : ByteArray) (w : World) :
    Calls Tryz.prog 126 #[.agg #[.string x.name, .int .i64 x.high, .string x.sect], .string s] w fun e w' => e = .returned (.int .i64 (cmpS x.name s)) ∧ Ext w w' := by
  have hcmp := fun u => (Tryz.strings_Compare x.name s u)
  replace hcmp := Lib.hid hcmp
  go_enter Tryz.func126, Tryz.ntmps126
  go_wp2_with (go_at_call 79; refine (hcmp.out _).mono ?_; rintro e w1 ⟨rfl, rfl⟩)
  go_ret
  exact ⟨rfl, (Ext.refl _).alloc _⟩
/-- What the search answers. -/
def FindRes (L : List PersonV) (s : ByteArray) (w : World) (e : Ending) (w' : World) : Prop :=
  ∃ (k : Nat) (is : Bool), e = .returned (.tuple #[.int .i64 k, .bool is]) ∧ Ext w w' ∧ (is = true → ∃ x, L[k]? = some x ∧ x.name = s) ∧ (is = false → ∀ x ∈ L, x.name ≠ s)

set_option maxRecDepth 100000 in
set_option maxHeartbeats 3200000 in
theorem bsearch_any (p : Option Addr) (n c : Nat) (L : List PersonV) (s : ByteArray) (w : World) (hS : Slc 3 perC w p n c L) (hok : PeopleOk L) :
    Calls Tryz.prog 125 #[.slice p n c, .string s, .func (.func 126) #[] #[]] w (FindRes L s w) := by
  obtain ⟨hn, hp⟩ := slcC hS
  subst hn
  have hl := hok.len
  replace hp := Lib.hid hp
  replace hok := Lib.hid hok
  clear hS
  go_enter Tryz.func125, Tryz.ntmps125
  go_wp2
  go_loopw [9, 10] (fun vi vj wr => ∃ i j : Nat, vi = .int .i64 i ∧ vj = .int .i64 j ∧ i ≤ j ∧ j ≤ L.length ∧ (∀ q x, q < i → L[q]? = some x → cmpS x.name s = -1) ∧ (∀ q x, j ≤ q → L[q]? = some x → cmpS x.name s ≠ -1) ∧ Ext w wr) (fun vi vj _ => (intOf vj).toNat - (intOf vi).toNat)
  case atStart => exact ⟨0, L.length, rfl, rfl, Nat.zero_le _, Nat.le_refl _, (fun q x hq => absurd hq (Nat.not_lt_zero _)), (fun q x hq hx => absurd (List.getElem?_eq_some_iff.1 hx).1 (by omega)), Ext.refl _⟩
  case round =>
    obtain ⟨i, j, rfl, rfl, hij, hjl, hlo, hhi, hE⟩ := hrel
    replace hlo := Lib.hid hlo
    replace hhi := Lib.hid hhi
    by_cases hlt : i < j
    · have hm1 : i ≤ (i + j) / 2 := by omega
      have hm2 : (i + j) / 2 < j := by omega
      obtain ⟨x, hx⟩ := getD_some (rfl : L.length = L.length) (show (i + j) / 2 < L.length by omega)
      rcases hp.out with ⟨-, e⟩ | ⟨b, off, rfl, hb, hEl⟩
      · rw [e] at hx; cases hx
      obtain ⟨c0, c1, c2⟩ := (hEl.ext hE hb).per hx
      have hbw := Nat.lt_of_lt_of_le hb hE.size
      have hat := atPred x s wr
      replace hx := Lib.hid hx
      clear hEl
      go_upto_region 5 with fail
      rw [show ((i : Int) + (j : Int)) / 2 = (((i + j) / 2 : Nat) : Int) by omega]
      generalize hh : (i + j) / 2 = h at *
      have hhI : (h : Int) < L.length := by omega
      clear hh
      rcases cmpS_three x.name s with hc | hc | hc
      · rw [hc] at hat
        replace hat := Lib.hid hat
        replace hc := Lib.hid hc
        go_wp2_with (go_at_call 126; (with_reducible refine Calls.mono hat.out ?_); rintro e w2 ⟨rfl, hb2⟩)
        go_roundw
        case rel => exact ⟨h + 1, j, by go_num, rfl, by omega, hjl, (fun q y hq hy => by
          rcases Nat.lt_or_ge q h with h1 | h1
          · exact cmpS_trans (hok.out.less hy hx.out h1) hc.out
          · obtain rfl : q = h := by omega
            have := hx.out.symm.trans hy
            cases this
            exact hc.out), hhi.out, hE.trans hb2⟩
        case measure => simp [intOf]; omega
      all_goals
        rw [hc] at hat
        replace hat := Lib.hid hat
        replace hc := Lib.hid hc
        go_wp2_with (go_at_call 126; (with_reducible refine Calls.mono hat.out ?_); rintro e w2 ⟨rfl, hb2⟩)
        go_roundw
        case rel => exact ⟨i, h, rfl, rfl, hm1, by omega, hlo.out, (fun q y hq hy e9 => by
          rcases Nat.lt_or_ge h q with h1 | h1
          · have := cmpS_trans (hok.out.less hx.out hy h1) e9
            rw [hc.out] at this
            cases this
          · obtain rfl : q = h := by omega
            have := hx.out.symm.trans hy
            cases this
            rw [hc.out] at e9
            cases e9), hE.trans hb2⟩
        case measure => simp [intOf]; omega
    · obtain rfl : i = j := by omega
      by_cases hin : i < L.length
      · obtain ⟨x, hx⟩ := getD_some (rfl : L.length = L.length) hin
        rcases hp.out with ⟨-, e⟩ | ⟨b, off, rfl, hb, hEl⟩
        · rw [e] at hx; cases hx
        obtain ⟨c0, c1, c2⟩ := (hEl.ext hE hb).per hx
        have hbw := Nat.lt_of_lt_of_le hb hE.size
        have hat := atPred x s wr
        have hiI : (i : Int) < L.length := by omega
        replace hx := Lib.hid hx
        clear hEl
        rcases cmpS_three x.name s with hc | hc | hc
        · exact absurd hc (hhi.out i x (Nat.le_refl _) hx.out)
        · rw [hc] at hat
          replace hat := Lib.hid hat
          replace hc := Lib.hid hc
          go_wp2_with (go_at_call 126; (with_reducible refine Calls.mono hat.out ?_); rintro e w2 ⟨rfl, hb2⟩)
          go_ret2
          exact ⟨i, true, rfl, hE.trans hb2, (fun _ => ⟨x, hx.out, cmpS_zero hc.out⟩), fun h => by cases h⟩
        · rw [hc] at hat
          replace hat := Lib.hid hat
          replace hc := Lib.hid hc
          go_wp2_with (go_at_call 126; (with_reducible refine Calls.mono hat.out ?_); rintro e w2 ⟨rfl, hb2⟩)
          go_ret2
          refine ⟨i, false, rfl, hE.trans hb2, (fun h => by cases h), fun _ y hy e9 => ?_⟩
          obtain ⟨q, hq, hqe⟩ := List.getElem_of_mem hy
          have hyq : L[q]? = some y := by rw [List.getElem?_eq_getElem hq, hqe]
          rcases Nat.lt_trichotomy q i with h1 | h1 | h1
          · have := hlo.out q y h1 hyq
            rw [e9, cmpS_refl] at this
            cases this
          · subst h1
            have := hx.out.symm.trans hyq
            cases this
            have := hc.out
            rw [e9, cmpS_refl] at this
            cases this
          · have h2 := hok.out.less hx.out hyq h1
            rw [e9, hc.out] at h2
            cases h2
      · obtain rfl : i = L.length := by omega
        have hiI : ¬ (L.length : Int) < L.length := by omega
        go_wp2
        go_ret2
        refine ⟨L.length, false, rfl, hE, (fun h => by cases h), fun _ y hy e9 => ?_⟩
        obtain ⟨q, hq, hqe⟩ := List.getElem_of_mem hy
        have := hlo.out q y hq (by rw [List.getElem?_eq_getElem hq, hqe])
        rw [e9, cmpS_refl] at this
        cases this
set_option maxRecDepth 100000 in
theorem personAt_any (p : Option Addr) (n c : Nat) (L : List PersonV) (s : ByteArray) (w : World) (hS : Slc 3 perC w p n c L) (hok : PeopleOk L) :
    Calls Tryz.prog 97 #[.slice p n c, .string s] w (FindRes L s w) := by
  have hb := bsearch_any p n c L s w hS hok
  replace hb := Lib.hid hb
  go_enter Tryz.func97, Tryz.ntmps97
  go_wp2_with (go_at_call 125; (with_reducible refine Calls.mono hb.out ?_); rintro e w1 ⟨k, is, rfl, hb1, h1, h2⟩; replace h1 := Lib.hid h1; replace h2 := Lib.hid h2)
  go_ret2
  exact ⟨k, is, rfl, hb1, h1.out, h2.out⟩
end Go.Proofs.YtfcoeikekbjgpaaGreatDoor

namespace Go.Proofs.YtfcoeikekbjgpaaGreatDoor
open Go Go.RowKit

def staC (x : StandV) : List Value := [.string x.name, .int .i64 x.row, .int .i64 x.place]
theorem staC_len (x : StandV) : (staC x).length = 3 := rfl
theorem Elems.sta {w : World} {b off : Nat} {xs : List StandV} (h : Elems 3 staC w b off xs) {i : Nat} {x : StandV} (hx : xs[i]? = some x) :
    w.cell? ⟨b, off + i * 3, none⟩ = some (.string x.name) ∧ w.cell? ⟨b, off + i * 3 + 1, none⟩ = some (.int .i64 x.row) ∧ w.cell? ⟨b, off + i * 3 + 2, none⟩ = some (.int .i64 x.place) :=
  ⟨h i x hx 0 _ rfl, h i x hx 1 _ rfl, h i x hx 2 _ rfl⟩
/-- A stand that is on the stage. -/
def OnStage (wide : List Int) (x : StandV) : Prop := 0 ≤ x.row ∧ x.row < wide.length ∧ 0 ≤ x.place ∧ x.place ≤ 1000
def WideOk (wide : List Int) : Prop := wide.length ≤ 10 ∧ ∀ v ∈ wide, 1 ≤ v ∧ v ≤ 30

theorem pos_bound {wide : List Int} {x : StandV} (hw : WideOk wide) (hx : OnStage wide x) : -1000 ≤ posS wide x ∧ posS wide x ≤ 3000 := by
  obtain ⟨h1, h2, h3, h4⟩ := hx
  have hg : wide[x.row.toNat]? = some wide[x.row.toNat] := List.getElem?_eq_getElem (by omega)
  have := hw.2 _ (List.mem_of_getElem? hg)
  unfold posS
  rw [List.getD_eq_getElem?_getD, hg]
  simp only [Option.getD_some]
  omega

set_option maxRecDepth 100000 in
set_option maxHeartbeats 1600000 in
theorem position_any (wp : Option Addr) (wc : Nat) (hp : Option Addr) (hn hc : Nat) (wide : List Int) (x : StandV) (w : World) (hw : Slc 1 intC w wp wide.length wc wide) (hok : WideOk wide) (hx : OnStage wide x) :
    Calls Tryz.prog 137 #[.agg #[.slice wp wide.length wc, .slice hp hn hc], .agg #[.string x.name, .int .i64 x.row, .int .i64 x.place]] w fun e w' => e = .returned (.int .i64 (posS wide x)) ∧ Ext w w' := by
  obtain ⟨x1, x2, x3, x4⟩ := hx
  obtain ⟨r, hr⟩ : ∃ r : Nat, x.row = r := ⟨x.row.toNat, by omega⟩
  obtain ⟨v, hv⟩ := getD_some (rfl : wide.length = wide.length) (show r < wide.length by omega)
  have hpos : posS wide x = 2 * x.place + 1 - v := by
    unfold posS
    rw [hr, Int.toNat_natCast, List.getD_eq_getElem?_getD, hv]
    rfl
  have hvb := hok.2 v (List.mem_of_getElem? hv)
  rcases (slcC hw).2 with ⟨-, e⟩ | ⟨wb, wo, rfl, hwb, hwE⟩
  · rw [e] at hv; cases hv
  have c1 := hwE.int hv
  rw [hpos, hr]
  have hrI : (r : Int) < wide.length := by omega
  have hX : Blk ((w.alloc (.cells #[.slice (some ⟨wb, wo, none⟩) wide.length wc, .slice hp hn hc] 29)).alloc (.cells #[.string x.name, .int .i64 r, .int .i64 x.place] 48)) w.heap.size 29 #[.slice (some ⟨wb, wo, none⟩) wide.length wc, .slice hp hn hc] := (Blk.new' rfl).alloc _
  have hY : Blk ((w.alloc (.cells #[.slice (some ⟨wb, wo, none⟩) wide.length wc, .slice hp hn hc] 29)).alloc (.cells #[.string x.name, .int .i64 r, .int .i64 x.place] 48)) (w.heap.size + 1) 48 #[.string x.name, .int .i64 r, .int .i64 x.place] := Blk.new' (by simp)
  have hE : Ext w ((w.alloc (.cells #[.slice (some ⟨wb, wo, none⟩) wide.length wc, .slice hp hn hc] 29)).alloc (.cells #[.string x.name, .int .i64 r, .int .i64 x.place] 48)) := ((Ext.refl _).alloc _).alloc _
  clear hw hok hwE hv hpos x1 x2 hr
  go_enter Tryz.func137, Tryz.ntmps137
  go_upto_region 1 with fail
  generalize (w.alloc (.cells #[.slice (some ⟨wb, wo, none⟩) wide.length wc, .slice hp hn hc] 29)).alloc (.cells #[.string x.name, .int .i64 r, .int .i64 x.place] 48) = W at *
  refine wp_region_facts [] [([], false, false), ([0], false, false), ([0, 1], false, false), ([0, 1, 2], false, false), ([], false, false), ([4], false, false), ([], false, false), ([6], false, false), ([4, 5, 6, 7], false, false), ([4, 5, 6, 7, 8], false, false), ([0, 1, 2, 3, 4, 5, 6, 7, 8, 9], false, false)] (Ext) Ext (fun _ => True) (by kernel_rfl) (by kernel_rfl) Ext.refl (fun _ _ _ => Ext.trans) (fun _ _ h => h) (fun _ _ h => h.size) (fun _ _ h _ => h) trivial ?_
  dsimp only [List.length_cons, List.length_nil, List.drop_succ_cons, List.drop_zero, List.drop_nil]
  refine fac_quiet 0 rfl rfl rfl (fun _ _ h _ => h) rfl rfl ?_
  apply Exists.intro
  refine ⟨fun sv w' hw' hfa => ?_, ?_⟩
  · refine ⟨rfl, ?_⟩
    simp only [putsL]
    change quietTo _ _ _ _ (Sem.run _ (execOp (Act.eval _) _) _)
    try simp only [Act.put, List.setIfInBounds_toArray, List.set_cons_succ, List.set_cons_zero]
    simp [go_sem, quietTo, Ext.refl]
    all_goals first
      | rfl
  refine fac_quiet 1 rfl rfl rfl (fun _ _ h _ => h) rfl rfl ?_
  apply Exists.intro
  refine ⟨fun sv w' hw' hfa => ?_, ?_⟩
  · obtain ⟨f0, -⟩ := hfa
    replace f0 : sv 0 = _ := f0
    try dsimp only at f0
    have hk9 := (Ext.refl W).drew.trans hw'; obtain ⟨y1, -⟩ := (hX.ext hk9).walk; obtain ⟨y2, -⟩ := (hY.ext hk9).walk; obtain ⟨hc9, hff, hz9⟩ := (hE.trans hk9).walk; have y3 := (hc9 _ _ hwb).trans c1
    refine ⟨rfl, ?_⟩
    simp only [putsL]
    change quietTo _ _ _ _ (Sem.run _ (execOp (Act.eval (Act.put _ (some 5) (sv 0))) _) _)
    try simp only [Act.put, List.setIfInBounds_toArray, List.set_cons_succ, List.set_cons_zero]
    simp [go_sem, quietTo, Ext.refl, ↓IntWalk.iteOmega, f0, y2]
    all_goals try simp (disch := omega) only [IntWalk.i64_in]
    all_goals first
      | rfl
  refine fac_quiet 2 rfl rfl rfl (fun _ _ h _ => h) rfl rfl ?_
  apply Exists.intro
  refine ⟨fun sv w' hw' hfa => ?_, ?_⟩
  · obtain ⟨_, f1, -⟩ := hfa
    replace f1 : sv 1 = _ := f1
    try dsimp only at f1
    refine ⟨rfl, ?_⟩
    simp only [putsL]
    change quietTo _ _ _ _ (Sem.run _ (execOp (Act.eval (Act.put (Act.put _ (some 6) (sv 1)) (some 5) (sv 0))) _) _)
    try simp only [Act.put, List.setIfInBounds_toArray, List.set_cons_succ, List.set_cons_zero]
    simp [go_sem, quietTo, Ext.refl, ↓IntWalk.iteOmega, f1]
    all_goals try simp (disch := omega) only [IntWalk.i64_in]
    all_goals first
      | rfl
  refine fac_quiet 3 rfl rfl rfl (fun _ _ h _ => h) rfl rfl ?_
  apply Exists.intro
  refine ⟨fun sv w' hw' hfa => ?_, ?_⟩
  · obtain ⟨_, _, f2, -⟩ := hfa
    replace f2 : sv 2 = _ := f2
    try dsimp only at f2
    refine ⟨rfl, ?_⟩
    simp only [putsL]
    change quietTo _ _ _ _ (Sem.run _ (execOp (Act.eval (Act.put (Act.put (Act.put _ (some 7) (sv 2)) (some 6) (sv 1)) (some 5) (sv 0))) _) _)
    try simp only [Act.put, List.setIfInBounds_toArray, List.set_cons_succ, List.set_cons_zero]
    simp [go_sem, quietTo, Ext.refl, ↓IntWalk.iteOmega, f2]
    all_goals try simp (disch := omega) only [IntWalk.i64_in]
    all_goals first
      | rfl
  refine fac_quiet 4 rfl rfl rfl (fun _ _ h _ => h) rfl rfl ?_
  apply Exists.intro
  refine ⟨fun sv w' hw' hfa => ?_, ?_⟩
  · refine ⟨rfl, ?_⟩
    simp only [putsL]
    change quietTo _ _ _ _ (Sem.run _ (execOp (Act.eval _) _) _)
    try simp only [Act.put, List.setIfInBounds_toArray, List.set_cons_succ, List.set_cons_zero]
    simp [go_sem, quietTo, Ext.refl]
    all_goals first
      | rfl
  refine fac_quiet 5 rfl rfl rfl (fun _ _ h _ => h) rfl rfl ?_
  apply Exists.intro
  refine ⟨fun sv w' hw' hfa => ?_, ?_⟩
  · obtain ⟨f4, -⟩ := hfa
    replace f4 : sv 4 = _ := f4
    try dsimp only at f4
    have hk9 := (Ext.refl W).drew.trans hw'; obtain ⟨y1, -⟩ := (hX.ext hk9).walk; obtain ⟨y2, -⟩ := (hY.ext hk9).walk; obtain ⟨hc9, hff, hz9⟩ := (hE.trans hk9).walk; have y3 := (hc9 _ _ hwb).trans c1
    refine ⟨rfl, ?_⟩
    simp only [putsL]
    change quietTo _ _ _ _ (Sem.run _ (execOp (Act.eval (Act.put _ (some 9) (sv 4))) _) _)
    try simp only [Act.put, List.setIfInBounds_toArray, List.set_cons_succ, List.set_cons_zero]
    simp [go_sem, quietTo, Ext.refl, ↓IntWalk.iteOmega, f4, y1]
    all_goals try simp (disch := omega) only [IntWalk.i64_in]
    all_goals first
      | rfl
  refine fac_quiet 6 rfl rfl rfl (fun _ _ h _ => h) rfl rfl ?_
  apply Exists.intro
  refine ⟨fun sv w' hw' hfa => ?_, ?_⟩
  · refine ⟨rfl, ?_⟩
    simp only [putsL]
    change quietTo _ _ _ _ (Sem.run _ (execOp (Act.eval _) _) _)
    try simp only [Act.put, List.setIfInBounds_toArray, List.set_cons_succ, List.set_cons_zero]
    simp [go_sem, quietTo, Ext.refl]
    all_goals first
      | rfl
  refine fac_quiet 7 rfl rfl rfl (fun _ _ h _ => h) rfl rfl ?_
  apply Exists.intro
  refine ⟨fun sv w' hw' hfa => ?_, ?_⟩
  · obtain ⟨f6, -⟩ := hfa
    replace f6 : sv 6 = _ := f6
    try dsimp only at f6
    have hk9 := (Ext.refl W).drew.trans hw'; obtain ⟨y1, -⟩ := (hX.ext hk9).walk; obtain ⟨y2, -⟩ := (hY.ext hk9).walk; obtain ⟨hc9, hff, hz9⟩ := (hE.trans hk9).walk; have y3 := (hc9 _ _ hwb).trans c1
    refine ⟨rfl, ?_⟩
    simp only [putsL]
    change quietTo _ _ _ _ (Sem.run _ (execOp (Act.eval (Act.put _ (some 11) (sv 6))) _) _)
    try simp only [Act.put, List.setIfInBounds_toArray, List.set_cons_succ, List.set_cons_zero]
    simp [go_sem, quietTo, Ext.refl, ↓IntWalk.iteOmega, f6, y2]
    all_goals try simp (disch := omega) only [IntWalk.i64_in]
    all_goals first
      | rfl
  refine fac_quiet 8 rfl rfl rfl (fun _ _ h _ => h) rfl rfl ?_
  apply Exists.intro
  refine ⟨fun sv w' hw' hfa => ?_, ?_⟩
  · obtain ⟨_, f5, _, f7, -⟩ := hfa
    replace f5 : sv 5 = _ := f5
    try dsimp only at f5
    replace f7 : sv 7 = _ := f7
    try dsimp only at f7
    have hk9 := (Ext.refl W).drew.trans hw'; obtain ⟨y1, -⟩ := (hX.ext hk9).walk; obtain ⟨y2, -⟩ := (hY.ext hk9).walk; obtain ⟨hc9, hff, hz9⟩ := (hE.trans hk9).walk; have y3 := (hc9 _ _ hwb).trans c1
    refine ⟨rfl, ?_⟩
    simp only [putsL]
    change quietTo _ _ _ _ (Sem.run _ (execOp (Act.eval (Act.put (Act.put (Act.put (Act.put _ (some 12) (sv 7)) (some 11) (sv 6)) (some 10) (sv 5)) (some 9) (sv 4))) _) _)
    try simp only [Act.put, List.setIfInBounds_toArray, List.set_cons_succ, List.set_cons_zero]
    simp [go_sem, quietTo, Ext.refl, ↓IntWalk.iteOmega, f5, f7, hrI]
    all_goals try simp (disch := omega) only [IntWalk.i64_in]
    all_goals first
      | rfl
  refine fac_quiet 9 rfl rfl rfl (fun _ _ h _ => h) rfl rfl ?_
  apply Exists.intro
  refine ⟨fun sv w' hw' hfa => ?_, ?_⟩
  · obtain ⟨_, _, _, _, f8, -⟩ := hfa
    replace f8 : sv 8 = _ := f8
    try dsimp only at f8
    have hk9 := (Ext.refl W).drew.trans hw'; obtain ⟨y1, -⟩ := (hX.ext hk9).walk; obtain ⟨y2, -⟩ := (hY.ext hk9).walk; obtain ⟨hc9, hff, hz9⟩ := (hE.trans hk9).walk; have y3 := (hc9 _ _ hwb).trans c1
    refine ⟨rfl, ?_⟩
    simp only [putsL]
    change quietTo _ _ _ _ (Sem.run _ (execOp (Act.eval (Act.put (Act.put (Act.put (Act.put (Act.put _ (some 13) (sv 8)) (some 12) (sv 7)) (some 11) (sv 6)) (some 10) (sv 5)) (some 9) (sv 4))) _) _)
    try simp only [Act.put, List.setIfInBounds_toArray, List.set_cons_succ, List.set_cons_zero]
    simp [go_sem, quietTo, Ext.refl, ↓IntWalk.iteOmega, f8, y3]
    all_goals try simp (disch := omega) only [IntWalk.i64_in]
    all_goals first
      | rfl
  refine fac_quiet 10 rfl rfl rfl (fun _ _ h _ => h) rfl rfl ?_
  apply Exists.intro
  refine ⟨fun sv w' hw' hfa => ?_, ?_⟩
  · obtain ⟨_, _, _, f3, _, _, _, _, _, f9, -⟩ := hfa
    replace f3 : sv 3 = _ := f3
    try dsimp only at f3
    replace f9 : sv 9 = _ := f9
    try dsimp only at f9
    refine ⟨rfl, ?_⟩
    simp only [putsL]
    change quietTo _ _ _ _ (Sem.run _ (execOp (Act.eval (Act.put (Act.put (Act.put (Act.put (Act.put (Act.put (Act.put (Act.put (Act.put (Act.put _ (some 14) (sv 9)) (some 13) (sv 8)) (some 12) (sv 7)) (some 11) (sv 6)) (some 10) (sv 5)) (some 9) (sv 4)) (some 8) (sv 3)) (some 7) (sv 2)) (some 6) (sv 1)) (some 5) (sv 0))) _) _)
    try simp only [Act.put, List.setIfInBounds_toArray, List.set_cons_succ, List.set_cons_zero]
    simp [go_sem, quietTo, Ext.refl, ↓IntWalk.iteOmega, f3, f9]
    all_goals try simp (disch := omega) only [IntWalk.i64_in]
    all_goals first
      | rfl
  refine fac_nil fun xq wrq herq hfrq hcrq holdq hapq => ?_
  obtain ⟨f0, f1, f2, f3, f4, f5, f6, f7, f8, f9, f10, -⟩ := hfrq
  replace f0 : xq 0 = _ := f0
  try dsimp only at f0
  replace f1 : xq 1 = _ := f1
  try dsimp only at f1
  replace f2 : xq 2 = _ := f2
  try dsimp only at f2
  replace f3 : xq 3 = _ := f3
  try dsimp only at f3
  replace f4 : xq 4 = _ := f4
  try dsimp only at f4
  replace f5 : xq 5 = _ := f5
  try dsimp only at f5
  replace f6 : xq 6 = _ := f6
  try dsimp only at f6
  replace f7 : xq 7 = _ := f7
  try dsimp only at f7
  replace f8 : xq 8 = _ := f8
  try dsimp only at f8
  replace f9 : xq 9 = _ := f9
  try dsimp only at f9
  replace f10 : xq 10 = _ := f10
  try dsimp only at f10
  change wpList _ _ _ _ (Act.put (Act.put (Act.put (Act.put (Act.put (Act.put (Act.put (Act.put (Act.put (Act.put (Act.put _ (some 5) (xq 0)) (some 6) (xq 1)) (some 7) (xq 2)) (some 8) (xq 3)) (some 9) (xq 4)) (some 10) (xq 5)) (some 11) (xq 6)) (some 12) (xq 7)) (some 13) (xq 8)) (some 14) (xq 9)) (some 15) (xq 10)) _
  simp only [putsL, Nat.reduceAdd, List.drop_succ_cons, List.drop_zero, List.drop_nil, Act.put, List.setIfInBounds_toArray, List.set_cons_succ, List.set_cons_zero]
  try simp only [f0, f1, f2, f3, f4, f5, f6, f7, f8, f9, f10]
  clear f0 f1 f2 f3 f4 f5 f6 f7 f8 f9 f10
  clear holdq hapq
  go_wp2
  go_ret
  exact ⟨rfl, hE.trans ((Ext.refl _).drew.trans herq)⟩
end Go.Proofs.YtfcoeikekbjgpaaGreatDoor

namespace Go.Proofs.YtfcoeikekbjgpaaGreatDoor
open Go Go.RowKit

section
variable {P : Program} {ops : Array Oper} {rest : List Oper} {o : Oper} {a : Act} {w : World} {Q : Exit → Act → World → Prop}
theorem wpList_lookB (hg : o.guard = none) (m x : Operand) (t : TypeId) (ok : Bool) (hop : o.op = Op.lookup t m x ok) (mv kv v : Value) (hm : a.eval m = mv) (hx : a.eval x = kv) (hrun : (Instr.lookup t mv kv ok).run P w = .ok v w)
    (hK : wpList P ops Q rest (a.put o.dst v) w) : wpList P ops Q (o :: rest) a w := by
  refine wpList_plain hg fun K' hK' => ?_
  unfold Oper.wp
  simp [execOp, hop, hm, hx, hrun, Result.andThen]
  exact hK' _ _ hK
theorem wpList_putB (hg : o.guard = none) (m x y : Operand) (t : TypeId) (hop : o.op = Op.mapUpdate t m x y) (mv kv v : Value) (hm : a.eval m = mv) (hx : a.eval x = kv) (hy : a.eval y = v) (w' : World) (hrun : (Instr.mapUpdate t mv kv v).run P w = .ok () w')
    (hK : wpList P ops Q rest (a.put o.dst undef) w') : wpList P ops Q (o :: rest) a w := by
  refine wpList_plain hg fun K' hK' => ?_
  unfold Oper.wp
  simp [execOp, hop, hm, hx, hy, hrun, Result.andThen]
  exact hK' _ _ hK
end
def namesS (S : List StandV) : List ByteArray := S.map (·.name)
theorem namesS_take {S : List StandV} {k : Nat} {x : StandV} (h : S[k]? = some x) : namesS (S.take (k + 1)) = namesS (S.take k) ++ [x.name] := by
  unfold namesS; rw [take_snocL h]; simp
theorem nodup_snoc {T : List ByteArray} {p : ByteArray} (h : T.Nodup) (hp : p ∉ T) : (T ++ [p]).Nodup := by
  rw [List.nodup_append]
  refine ⟨h, by simp, fun a ha b hb e => ?_⟩
  rw [List.mem_singleton] at hb
  subst hb; subst e
  exact hp ha
theorem not_nodup_take {S : List StandV} {k : Nat} {x : StandV} (h : S[k]? = some x) (hm : x.name ∈ namesS (S.take k)) : ¬ (namesS S).Nodup := by
  intro hn
  have e : namesS S = namesS (S.take k) ++ namesS (S.drop k) := by unfold namesS; rw [← List.map_append, List.take_append_drop]
  rw [e, List.nodup_append] at hn
  obtain ⟨hk, hx⟩ := List.getElem?_eq_some_iff.1 h
  refine hn.2.2 _ hm x.name ?_ rfl
  unfold namesS
  rw [List.drop_eq_getElem_cons hk, List.map_cons, hx]
  exact List.mem_cons_self

set_option maxRecDepth 100000 in
set_option maxHeartbeats 3200000 in
theorem standTwice_any (p : Option Addr) (n c : Nat) (S : List StandV) (w : World) (hS : Slc 3 staC w p n c S) (hn : n ≤ 1000) (hs : ∀ x ∈ S, x.name.size ≤ 1000) :
    Calls Tryz.prog 98 #[.slice p n c] w fun e w' => ∃ t : Bool, e = .returned (.bool t) ∧ (t = true ↔ ¬ (namesS S).Nodup) ∧ Ext w w' := by
  have hmm := @run_makeMap Tryz.prog
  have hO0 := OwnB.made w
  have hE0 : Ext w (w.alloc (.map #[] 0)) := (Ext.refl _).alloc _
  have hl := (slcC hS).1
  subst hl
  go_enter Tryz.func98, Tryz.ntmps98
  go_upto_region 2 with fail
  clear hmm
  generalize (w.alloc (.map #[] 0)) = W at *
  go_wp2
  go_loopw [9] (fun v9 wr => ∃ k : Nat, v9 = .int .i64 k ∧ k ≤ S.length ∧ OwnB wr w.heap.size (namesS (S.take k)) ∧ (namesS (S.take k)).Nodup ∧ Ext w wr) (fun v9 _ => S.length - (intOf v9).toNat)
  case atStart => exact ⟨0, rfl, Nat.zero_le _, by simpa [namesS] using hO0, by simp [namesS], hE0⟩
  case round =>
    clear hO0 hE0
    obtain ⟨k, rfl, hk, hO, hnd, hE⟩ := hrel
    by_cases hlt : k < S.length
    · obtain ⟨x, hx⟩ := getD_some (rfl : S.length = S.length) hlt
      have hxs := hs x (List.mem_of_getElem? hx)
      rcases (slcC hS).2 with ⟨-, e⟩ | ⟨b, off, rfl, hb, hEl⟩
      · rw [e] at hx; cases hx
      obtain ⟨c0, c1, c2⟩ := (hEl.ext hE hb).sta hx
      have hbl : b < wr.heap.size := Nat.lt_of_lt_of_le hb hE.size
      have hkI : (k : Int) < S.length := by omega
      have hE1 : Ext wr (wr.alloc (.cells #[.string x.name, .int .i64 x.row, .int .i64 x.place] 48)) := (Ext.refl _).alloc _
      have hO1 := hO.ext hE1
      obtain ⟨cc, hrun, hcc⟩ := hO1.look hxs
      have htl : (namesS (S.take k)).length ≤ 1000 := by unfold namesS; rw [List.length_map, List.length_take]; omega
      have hnt := namesS_take hx
      have hnn := @not_nodup_take S k x hx
      replace hnt := Lib.hid hnt
      replace hnn := Lib.hid hnn
      replace hx := Lib.hid hx
      cases cc
      · have hnm : x.name ∉ namesS (S.take k) := fun h => by have := hcc.2 h; cases this
        obtain ⟨w5, hput, hO5, hg5⟩ := hO1.put hxs htl
        have hE5 : Ext w w5 := (hE.trans hE1).grown hg5 (fun j e => by cases e; exact Nat.le_refl _)
        clear hEl
        go_wp2_with (first
          | (refine wpList_lookB rfl _ _ 109 false rfl (.map (some w.heap.size)) (.string x.name) _ rfl rfl hrun ?_)
          | (refine wpList_putB rfl _ _ _ 109 rfl (.map (some w.heap.size)) (.string x.name) (.bool true) rfl rfl rfl w5 hput ?_))
        go_roundw
        case rel => exact ⟨k + 1, by go_num, by omega, by rw [hnt.out]; exact hO5, by rw [hnt.out]; exact nodup_snoc hnd hnm, hE5⟩
        case measure => simp [intOf]; omega
      · have hm := hcc.1 rfl
        clear hEl
        go_wp2_with (refine wpList_lookB rfl _ _ 109 false rfl (.map (some w.heap.size)) (.string x.name) _ rfl rfl hrun ?_)
        go_ret
        exact ⟨true, rfl, ⟨fun _ => hnn.out hm, fun _ => rfl⟩, hE.trans hE1⟩
    · obtain rfl : k = S.length := by omega
      rw [List.take_length] at hnd
      replace hnd := Lib.hid hnd
      go_wp2
      go_ret
      exact ⟨false, rfl, ⟨(fun h => by cases h), fun h => absurd hnd.out h⟩, hE⟩
end Go.Proofs.YtfcoeikekbjgpaaGreatDoor
