/- People struck from a row (slices.DeleteFunc at people). Conditions: a row of the call's own; the name lies in memory. -/
import Derived.Test.YtfcoeikekbjgpaaGreatDoorRxJ41
import Derived.Test.YtfcoeikekbjgpaaGreatDoorRxRoC
import Derived.Test.YtfcoeikekbjgpaaGreatDoorRxJ40
import Derived.Laws.CopyRow
set_option linter.unusedSimpArgs false
set_option linter.unusedVariables false
namespace Go.Proofs.YtfcoeikekbjgpaaGreatDoor
open Go Go.RowKit

theorem idxFirst {α : Type} (p : α → Bool) (d : α) : ∀ (l : List α) (i : Nat), (Lib.idxByFrom (fun _ y => p y) d l i = -1 ∧ ∀ x ∈ l, p x = false) ∨ ∃ k x, l[k]? = some x ∧ p x = true ∧ Lib.idxByFrom (fun _ y => p y) d l i = ((i + k : Nat) : Int) ∧ ∀ y ∈ l.take k, p y = false
  | [], _ => .inl ⟨rfl, fun x hx => by cases hx⟩
  | y :: r, i => by
    unfold Lib.idxByFrom
    cases h : p y
    · rcases idxFirst p d r (i + 1) with ⟨h1, h2⟩ | ⟨k, x, hx, hp, e, ha⟩
      · refine .inl ⟨by simpa using h1, fun x hx => ?_⟩
        rcases List.mem_cons.1 hx with e | hx
        · subst e; exact h
        · exact h2 x hx
      · refine .inr ⟨k + 1, x, hx, hp, ?_, fun z hz => ?_⟩
        · simp only [Bool.false_eq_true, if_false]
          rw [e]
          congr 1
          omega
        · rw [List.take_succ_cons] at hz
          rcases List.mem_cons.1 hz with e | hz
          · subst e; exact h
          · exact ha z hz
    · exact .inr ⟨0, y, rfl, h, by simp, fun z hz => by simp at hz⟩

/-! ### plain -/
def keepS (nm : ByteArray) (x : PersonV) : Bool := x.sect.toList == nm.toList
theorem grpS_eq (nm : ByteArray) (M : List PersonV) : grpS nm M = M.filter (keepS nm) := rfl
section
variable {nm : ByteArray} {M : List PersonV} {x : PersonV}
theorem del_start {k : Nat} (hx : M[k]? = some x) (h : keepS nm x = false) (ha : ∀ y ∈ M.take k, (!keepS nm y) = false) : M.take k = (M.take (k + 1)).filter (keepS nm) := by
  rw [take_snocL hx, List.filter_append, List.filter_eq_self.2 (fun y hy => by have := ha y hy; simpa using this)]
  simp [h]
theorem del_keep {i j : Nat} {R : List PersonV} (hx : M[j]? = some x) (h : keepS nm x = true) (hR : R.take i = (M.take j).filter (keepS nm)) (hi : i < j) (hl : R.length = M.length) (hd : R.drop j = M.drop j) :
    (R.set i x).take (i + 1) = (M.take (j + 1)).filter (keepS nm) ∧ (R.set i x).drop (j + 1) = M.drop (j + 1) := by
  have hj := (List.getElem?_eq_some_iff.1 hx).1
  have h1 : (R.set i x)[i]? = some x := List.getElem?_set_self (by omega)
  refine ⟨?_, ?_⟩
  · rw [take_snocL h1, List.take_set_of_le (by omega), hR, take_snocL hx, List.filter_append]
    simp [h]
  · rw [List.drop_set_of_lt (by omega), ← List.drop_drop, ← List.drop_drop, hd]
theorem del_skip {j : Nat} (hx : M[j]? = some x) (h : keepS nm x = false) : (M.take (j + 1)).filter (keepS nm) = (M.take j).filter (keepS nm) := by
  rw [take_snocL hx, List.filter_append]
  simp [h]
theorem drop_at {α : Type} {R M : List α} {j : Nat} (h : R.drop j = M.drop j) : R[j]? = M[j]? := by
  have := congrArg (fun l : List α => l[0]?) h
  simpa using this
end

/-! ### clear -/
theorem flat_takeK {α : Type} {k : Nat} {enc : α → List Value} (hk : ∀ x, (enc x).length = k) : ∀ (xs : List α) (m : Nat), (xs.flatMap enc).take (m * k) = (xs.take m).flatMap enc
  | xs, 0 => by simp
  | [], m + 1 => by simp
  | x :: xs, m + 1 => by
    have e : (m + 1) * k - (enc x).length = m * k := by rw [hk, Nat.succ_mul, Nat.add_sub_cancel]
    rw [List.flatMap_cons, List.take_succ_cons, List.flatMap_cons, List.take_append, e, flat_takeK hk xs m, List.take_of_length_le (by rw [hk, Nat.succ_mul]; omega)]
theorem zeroP (w : World) : (zeroValue 59).run Tryz.prog w = .ok (.agg #[.string ⟨#[]⟩, .int .i64 0, .string ⟨#[]⟩]) w := by
  simp [go_sem]
theorem own_clear {w : World} {base g n m cap : Nat} {xs : List Value} (h : w.ownsRow base 59 3 (.slice (some ⟨g, 0, none⟩) n cap) n xs) (hm : m < n) : ∃ cs, (∀ ty, (Builtin.clear_ #[26] ty #[.slice (some ⟨g, m * 3, none⟩) (n - m) (cap - m)]).run Tryz.prog w = .ok (.tuple #[]) (w.setRow g cs)) ∧ (w.setRow g cs).ownsRow base 59 3 (.slice (some ⟨g, 0, none⟩) m cap) m (xs.take (m * 3)) ∧ ExtS g w (w.setRow g cs) := by
  obtain ⟨h1, h2⟩ := h
  rcases h2 with ⟨h3, -⟩ | ⟨g', cap', cur, hv, hb, hg, hnc, hcm, hcs, ht⟩
  · cases h3
  cases hv
  have hz : (Builtin.zeroCells #[.string ⟨#[]⟩, .int .i64 0, .string ⟨#[]⟩] (n - m)).toList.length = (n - m) * 3 := by simp [Builtin.zeroCells]
  have ho : ∀ v ∈ (Builtin.zeroCells #[.string ⟨#[]⟩, .int .i64 0, .string ⟨#[]⟩] (n - m)).toList, v.oneCell' = true := fun v hv => by
    simp only [Builtin.zeroCells, Array.toList_map, List.mem_map] at hv
    obtain ⟨i, -, rfl⟩ := hv
    have hi : i % 3 < 3 := Nat.mod_lt _ (by decide)
    have e : (#[Value.string ⟨#[]⟩, .int .i64 0, .string ⟨#[]⟩] : Array Value).size = 3 := rfl
    rw [e]
    generalize i % 3 = q at *
    match q, hi with
    | 0, _ => rfl
    | 1, _ => rfl
    | 2, _ => rfl
  have hst := run_storeCells_at (P := Tryz.prog) g (m * 3) 59 (Builtin.zeroCells #[.string ⟨#[]⟩, .int .i64 0, .string ⟨#[]⟩] (n - m)).toList 0 cur w hg (by rw [hz]; omega) ho
  obtain ⟨d, hd⟩ : ∃ d, n - m = d + 1 := ⟨n - m - 1, by omega⟩
  have e3 : (cur.toList.take (m * 3 + 0)).length = m * 3 := by rw [List.length_take, Array.length_toList, hcs]; omega
  simp only [Nat.add_zero] at hst e3
  obtain ⟨vs, hvs⟩ : ∃ vs, vs = (Builtin.zeroCells #[.string ⟨#[]⟩, .int .i64 0, .string ⟨#[]⟩] (n - m)).toList := ⟨_, rfl⟩
  rw [← hvs] at hz hst ho
  rw [hd] at hvs
  have hcl : ∀ ty, (Builtin.clear_ #[26] ty #[.slice (some ⟨g, m * 3, none⟩) (n - m) (cap - m)]).run Tryz.prog w = .ok (.tuple #[]) (w.setRow g (cur.toList.take (m * 3) ++ vs ++ cur.toList.drop (m * 3 + vs.length)).toArray) := fun ty => by
    rw [hd]
    simp [Builtin.clear_, run_underlying Tryz.underlying26, zeroP, Value.cells, ← hvs, hst]
  refine ⟨_, hcl, ⟨by rw [List.length_take, h1]; omega, .inr ⟨g, cap, _, rfl, hb, setRow_heap w g cur _ _ _ hg, by omega, hcm, ?_, ?_⟩⟩, ⟨rfl, rfl, rfl, by simp, fun k hk hn => setRow_other w g k _ hn⟩⟩
  · simp only [List.size_toArray, List.length_append, e3, hz, List.length_drop, Array.length_toList, hcs]
    omega
  · have e4 : xs.take (m * 3) = cur.toList.take (m * 3) := by rw [← ht, List.take_take, Nat.min_eq_left (by omega)]
    rw [e4, List.append_assoc]
    exact List.take_left' e3

/-! ### the walk -/
set_option maxRecDepth 100000 in
theorem secCall (nm : ByteArray) (g : Nat) (w : World) (y : PersonV) (hB : Blk w g 9 #[.string nm]) :
    Calls Tryz.prog 51 #[.agg #[.string y.name, .int .i64 y.high, .string y.sect], .pointer (some ⟨g, 0, none⟩)] w fun e w' => e = .returned (.bool (!keepS nm y)) ∧ Ext w w' := by
  obtain ⟨b1, -⟩ := hB.walk
  have bl := hB.lt
  clear hB
  unfold keepS
  cases h1 : (y.sect.toList == nm.toList)
  all_goals
    go_enter Tryz.func51, Tryz.ntmps51
    go_wp2
    go_ret
    exact ⟨by simp only [h1]; rfl, (Ext.refl _).alloc _⟩
theorem secPred (nm : ByteArray) (g : Nat) (w : World) (hB : Blk w g 9 #[.string nm]) :
    PredBelow Tryz.prog 51 #[.pointer (some ⟨g, 0, none⟩)] (fun y : PersonV => .agg (perC y).toArray) (fun y => !keepS nm y) w := fun W y hb => by
  have hE : Ext w W := hb
  exact (secCall nm g W y (hB.ext hE)).mono fun e w' h => ⟨h.1, hE.trans h.2⟩

set_option maxRecDepth 100000 in
set_option maxHeartbeats 6400000 in
theorem delete_any {base g cap gs : Nat} {M : List PersonV} {nm : ByteArray} {w : World} (ho : w.ownsRow base 59 3 (.slice (some ⟨g, 0, none⟩) M.length cap) M.length (M.flatMap perC)) (hn1 : M.length ≤ 19) (hn0 : 0 < M.length) (hB : Blk w gs 9 #[.string nm]) :
    Calls Tryz.prog 50 #[.slice (some ⟨g, 0, none⟩) M.length cap, .func (.func 51) #[] #[.pointer (some ⟨gs, 0, none⟩)]] w fun e w' => e = .returned (.slice (some ⟨g, 0, none⟩) (grpS nm M).length cap) ∧ w'.ownsRow base 59 3 (.slice (some ⟨g, 0, none⟩) (grpS nm M).length cap) (grpS nm M).length ((grpS nm M).flatMap perC) ∧ ExtS g w w' := by
  have hng : gs ≠ g := fun e => own_no ho hB (by decide) (by rw [e]; rfl)
  obtain ⟨p', c', e9, hSl⟩ := slc_of_own perC_len ho (by decide) (by omega)
  cases e9
  have hmc := hSl.2.1
  have hgl := (ho.lt g rfl).2
  have hcm : cap ≤ 9223372036854775807 := by
    rcases ho.2 with ⟨h1, -⟩ | ⟨g', cap', cur, h1, h2, h3, h4, h5, -⟩
    · cases h1
    · cases h1; exact Nat.le_trans h5 (by decide)
  have eg : ∀ args w, (callFunc 51 args).run Tryz.prog w = .ok (.enter 51 args) w := enters_of Tryz.func51 (by kernel_rfl) rfl
  rcases (slcC hSl).2 with ⟨h9, -⟩ | ⟨sb, so, e9, hsb, hEl⟩
  · cases h9
  cases e9
  have hfi := AnyQ.slices_IndexFunc Tryz.lqiPer 3 Tryz.isAgg59 Tryz.sizeOf59 perC perC_len (fun y => !keepS nm y) 51 #[.pointer (some ⟨gs, 0, none⟩)] eg g 0 M.length cap M _
        (secPred nm gs _ hB) (Nat.le_refl _) (by omega) hsb (fun j hj i v hi => hEl j _ (by rw [List.getElem?_eq_getElem hj, getElem!_pos M j hj]) i v hi)
  rw [List.take_length] at hfi
  unfold Lib.idxBy at hfi
  rcases idxFirst (fun y : PersonV => !keepS nm y) default M 0 with ⟨h1, h2⟩ | ⟨k, x0, hx0, hp0, hk0, ha⟩
  · rw [h1] at hfi
    have hall : grpS nm M = M := by
      rw [grpS_eq]
      exact List.filter_eq_self.2 fun y hy => by have := h2 y hy; simpa using this
    rw [hall]
    replace hfi := Lib.hid hfi
    replace ho := Lib.hid ho
    clear hEl hSl h2 h1 hall hB
    go_enter Tryz.func50, Tryz.ntmps50
    go_wp2_with (go_at_call 83; refine hfi.out.mono ?_; rintro e w1 ⟨rfl, hb1⟩)
    go_ret
    have hE1 : Ext w w1 := hb1
    exact ⟨rfl, own_ext hE1 ho.out, hE1.extS⟩
  · rw [hk0, Nat.zero_add] at hfi
    have hkl := (List.getElem?_eq_some_iff.1 hx0).1
    have hst := del_start hx0 (by simpa using hp0) ha
    replace hfi := Lib.hid hfi
    replace hst := Lib.hid hst
    replace ho := Lib.hid ho
    have hne : (((k : Nat) : Int) == -1) = false := beq_eq_false_iff_ne.2 (by omega)
    clear hEl hSl hx0 hp0 hk0 ha
    go_enter Tryz.func50, Tryz.ntmps50
    go_wp2_with (go_at_call 83; refine hfi.out.mono ?_; rintro e w1 ⟨rfl, hb1⟩)
    have hE1 : Ext w w1 := hb1
    clear hb1
    go_loopw [5, 6] (fun v5 v6 wr => ∃ (i j : Nat) (R : List PersonV), v5 = .int .i64 i ∧ v6 = .int .i64 j ∧ i < j ∧ j ≤ M.length ∧ R.length = M.length ∧ R.take i = (M.take j).filter (keepS nm) ∧ R.drop j = M.drop j ∧ wr.ownsRow base 59 3 (.slice (some ⟨g, 0, none⟩) M.length cap) M.length (R.flatMap perC) ∧ ExtS g w wr) (fun _ v6 _ => M.length - (intOf v6).toNat)
    case atStart => exact ⟨k, k + 1, M, rfl, by go_num, by omega, by omega, rfl, hst.out, rfl, own_ext hE1 ho.out, hE1.extS⟩
    case round =>
      obtain ⟨i, j, R, rfl, rfl, hij, hj, hRl, hRt, hRd, hown, hE⟩ := hrel
      by_cases hlt : j < M.length
      · obtain ⟨x, hx⟩ := getD_some (rfl : M.length = M.length) hlt
        have hjI : (j : Int) < M.length := by omega
        have hiI : (i : Int) < M.length := by omega
        have hxR := (drop_at hRd).trans hx
        obtain ⟨y, hy⟩ := getD_some hRl (show i < M.length by omega)
        have c0 : wr.cell? ⟨g, j * 3, none⟩ = some (.string x.name) := own_cell perC_len hown hxR 0 (v := .string x.name) rfl hlt
        have c1 := own_cell perC_len hown hxR 1 (v := .int .i64 x.high) rfl hlt
        have c2 := own_cell perC_len hown hxR 2 (v := .string x.sect) rfl hlt
        have hgw := (hown.lt g rfl).2
        have hBw := hB.extS hng hE
        have hE1' : Ext wr (wr.alloc (.cells #[.string x.name, .int .i64 x.high, .string x.sect] 59)) := (Ext.refl _).alloc _
        have hY : Blk (wr.alloc (.cells #[.string x.name, .int .i64 x.high, .string x.sect] 59)) wr.heap.size 59 #[.string x.name, .int .i64 x.high, .string x.sect] := Blk.new' rfl
        have hsc := secCall nm gs _ x (hBw.ext hE1')
        have hown1 := own_ext hE1' hown
        have hkp := fun h => del_keep (nm := nm) hx h hRt hij hRl hRd
        have hsk := fun h => del_skip (nm := nm) (M := M) hx h
        have hd1 : R.drop (j + 1) = M.drop (j + 1) := by rw [← List.drop_drop, ← List.drop_drop, hRd]
        replace hsc := Lib.hid hsc
        replace hkp := Lib.hid hkp
        replace hsk := Lib.hid hsk
        replace hown1 := Lib.hid hown1
        replace hRt := Lib.hid hRt
        replace hd1 := Lib.hid hd1
        replace hy := Lib.hid hy
        clear hx hxR hown hRd hBw
        cases hk : keepS nm x
        · rw [hk] at hsc
          go_wp2_with (go_at_call 51; (with_reducible refine Calls.mono hsc.out ?_); rintro e w2 ⟨rfl, hb2⟩)
          have hE2 := hE1'.trans hb2
          go_roundw
          case rel => exact ⟨i, j + 1, R, rfl, by go_num, by omega, by omega, hRl, by rw [hsk.out hk]; exact hRt.out, hd1.out, own_ext hb2 hown1.out, hE.ext hE2⟩
          case measure => simp [intOf]; omega
        · rw [hk] at hsc
          go_wp2_with (go_at_call 51; (with_reducible refine Calls.mono hsc.out ?_); rintro e w2 ⟨rfl, hb2⟩; obtain ⟨y1, -⟩ := (hY.ext hb2).walk; have yl := (hY.ext hb2).lt; have hown2 := own_ext hb2 hown1.out; have d0 : w2.cell? ⟨g, i * 3, none⟩ = some (.string y.name) := own_cell perC_len hown2 hy.out 0 rfl (show i < M.length by omega); have d1 := own_cell perC_len hown2 hy.out 1 rfl (show i < M.length by omega); have d2 := own_cell perC_len hown2 hy.out 2 rfl (show i < M.length by omega); have z0 : ∀ o, w2.frozen? ⟨g, o, none⟩ = false := fun o => hown2.frozenAt o; have zl := (hown2.lt g rfl).2; replace hown2 := Lib.hid hown2)
          have hE2 := hE1'.trans hb2
          have h3 := per_mod3 hown2.out hy.out x.name x.sect x.high
          obtain ⟨k1, k2⟩ := hkp.out hk
          go_roundw
          case rel => exact ⟨i + 1, j + 1, R.set i x, by go_num, by go_num, by omega, by omega, by rw [List.length_set]; exact hRl, k1, k2, h3, (((hE.ext hE2).setCell (p := ⟨g, i * 3, none⟩) (.inl rfl) _).setCell (p := ⟨g, i * 3 + 1, none⟩) (.inl rfl) _).setCell (p := ⟨g, i * 3 + 2, none⟩) (.inl rfl) _⟩
          case measure => simp [intOf]; omega
      · obtain rfl : j = M.length := by omega
        rw [List.take_length, ← grpS_eq] at hRt
        have hil : (grpS nm M).length = i := by rw [← hRt, List.length_take]; omega
        have hiI : (i : Int) < M.length := by omega
        obtain ⟨cs, hcl, ho2, hE2⟩ := own_clear hown hij
        have e5 : (R.flatMap perC).take (i * 3) = (grpS nm M).flatMap perC := by
          rw [← hRt]
          exact flat_takeK perC_len R i
        rw [e5] at ho2
        replace ho2 := Lib.hid ho2
        have hic : i < cap := by omega
        have hicI : (i : Int) < cap := by omega
        clear hown hRt hRd hRl hst hfi ho hB e5
        go_wp2
        go_ret
        exact ⟨by rw [hil]; rfl, by rw [hil]; exact ho2.out, hE.trans hE2⟩
end Go.Proofs.YtfcoeikekbjgpaaGreatDoor
