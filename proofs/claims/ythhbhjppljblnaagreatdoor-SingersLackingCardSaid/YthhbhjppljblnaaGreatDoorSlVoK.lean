/- Parts that are higher, by the document's program. Conditions: sizes. -/
import Derived.Test.YthhbhjppljblnaaGreatDoorSlJ31
set_option linter.unusedSimpArgs false
set_option linter.unusedVariables false
namespace Go.Proofs.YthhbhjppljblnaaGreatDoor
open Go Go.RowKit

set_option maxRecDepth 100000 in
set_option maxHeartbeats 3200000 in
theorem shiftedOf_any (p : Option Addr) (n c : Nat) (xs : List PartV) (d : Int) (w : World) (h : Slc 5 partC w p n c xs) (hn : n ≤ 1000) (hs : ∀ x ∈ xs, x.Small) (hd : -1000 ≤ d ∧ d ≤ 1000) :
    Calls Tryz.prog 75 #[.slice p n c, .int .i64 d] w fun e w' => ∃ v : Value, e = .returned (.tuple #[v, .int .i64 (if shB xs d then 0 else 1)]) ∧
      (shB xs d = true → w'.ownsRow w.heap.size 70 5 v n ((xs.map (PartV.up · d)).flatMap partC)) ∧ (shB xs d = false → v = .slice none 0 0) ∧ Ext w w' := by
  have hl := h.1.1
  have hcl := fun W (hW : Ext w W) => clonePart_any p n c xs W (h.ext hW) hn
  have hsB : shB xs d = (inB d (-127) 127 && okUp xs d) := rfl
  have hI : ∀ u, Calls Tryz.prog 55 #[.int .i64 d, .int .i64 (-127), .int .i64 127] u fun e w' => e = .returned (.bool (inB d (-127) 127)) ∧ u = w' := fun u => in_any d (-127) 127 u
  clear h
  cases hi : inB d (-127) 127
  · rw [hi] at hI hsB
    have hsF : shB xs d = false := by rw [hsB]; rfl
    rw [hsF]
    simp only [Bool.false_eq_true, if_false]
    clear hsB hsF hi hcl hl hs
    replace hI := Lib.hid hI
    go_enter Tryz.func75, Tryz.ntmps75
    go_wp2_with (go_at_call 55; (with_reducible refine Calls.mono (hI.out _) ?_); rintro e w' ⟨rfl, rfl⟩)
    go_ret2
    exact ⟨_, rfl, (fun h => by cases h), fun _ => rfl, Ext.refl _⟩
  rw [hi] at hI hsB
  rw [Bool.true_and] at hsB
  rw [hsB]
  clear hsB hi
  obtain ⟨r, hr⟩ : ∃ r : Int, (if okUp xs d then 0 else 1) = r := ⟨_, rfl⟩
  have hr1 : okUp xs d = true → r = 0 := fun h => by rw [← hr, h]; rfl
  have hr0 : okUp xs d = false → r = 1 := fun h => by rw [← hr, h]; rfl
  rw [hr]
  clear hr
  replace hr1 := Lib.hid hr1
  replace hr0 := Lib.hid hr0
  by_cases h0 : n = 0
  · subst h0
    have hx : xs = [] := List.eq_nil_of_length_eq_zero hl
    subst hx
    clear hl hs
    replace hI := Lib.hid hI
    go_enter Tryz.func75, Tryz.ntmps75
    go_wp2_with (first
      | (go_at_call 55; (with_reducible refine Calls.mono (hI.out _) ?_); rintro e w' ⟨rfl, rfl⟩)
      | (go_at_call 110; (with_reducible refine Calls.mono (hcl _ (by exact Ext.refl _)) ?_); rintro e w1 ⟨v, rfl, hown, hb1⟩; obtain ⟨p', c', rfl, hS'⟩ := slc_of_own partC_len hown (by decide) (by omega)))
    refine wp_loop_rounds 1 ?_
    rw [rounds_succ]
    go_wp2
    go_ret2
    have hr2 := hr1.out rfl
    subst hr2
    first
      | exact ⟨_, rfl, (fun _ => hown), (fun h => by cases h), hb1⟩
      | exact ⟨_, rfl, hown, hb1⟩
  · replace hl := Lib.hid hl
    have hn0 : 0 < n := by omega
    replace h0 := Lib.hid h0
    replace hI := Lib.hid hI
    go_enter Tryz.func75, Tryz.ntmps75
    go_wp2_with (first
      | (go_at_call 55; (with_reducible refine Calls.mono (hI.out _) ?_); rintro e w' ⟨rfl, rfl⟩)
      | (go_at_call 110; (with_reducible refine Calls.mono (hcl _ (by exact Ext.refl _)) ?_); rintro e w1 ⟨v, rfl, hown, hb1⟩; obtain ⟨g, cap, rfl, -, -⟩ := hown.form hn0))
    clear hcl hI
    have hgw : w.heap.size ≤ g := (hown.lt g rfl).1
    have hown' := Lib.hid hown
    clear hown
    go_loopw [15] (fun i wr => ∃ k : Nat, k ≤ n ∧ i = .int .i64 k ∧ (∀ x ∈ xs.take k, rightR (x.lo + d) (x.hi + d) = true) ∧ wr.ownsRow w.heap.size 70 5 (.slice (some ⟨g, 0, none⟩) n cap) n (((xs.map (PartV.up · d)).take k ++ xs.drop k).flatMap partC) ∧ Ext w wr) (fun i _ => n - (intOf i).toNat)
    case atStart => exact ⟨0, Nat.zero_le _, rfl, (fun x hx => by simp at hx), by simpa using hown'.out, hb1⟩
    case round =>
      clear hown' hb1
      obtain ⟨k, hk, rfl, hz, hown, he⟩ := hrel
      by_cases hlt : k < n
      · obtain ⟨x, hx⟩ := getD_some hl.out hlt
        obtain ⟨s1, ⟨s2, s3⟩, ⟨s4, s5⟩, s6⟩ := hs x (List.mem_of_getElem? hx)
        have hgl : g < wr.heap.size := (hown.lt g rfl).2
        have hL : ((xs.map (PartV.up · d)).take k ++ xs.drop k)[k]? = some x := by
          rw [List.getElem?_append_right (by rw [List.length_take, List.length_map, hl.out]; omega), List.length_take, List.length_map, hl.out, Nat.min_eq_left (by omega), Nat.sub_self, List.getElem?_drop, Nat.add_zero]
          exact hx
        have k1 : wr.cell? ⟨g, k * 5 + 1, none⟩ = some (.int .i64 x.lo) := (hown.cellAt (k * 5 + 1) (by omega)).trans (flat_at partC_len _ k x hL 1 _ rfl)
        have k2 : wr.cell? ⟨g, k * 5 + 1 + 1, none⟩ = some (.int .i64 x.hi) := (hown.cellAt (k * 5 + 2) (by omega)).trans (flat_at partC_len _ k x hL 2 _ rfl)
        have z1 : wr.frozen? ⟨g, k * 5 + 1, none⟩ = false := hown.frozenAt _
        have z2 : wr.frozen? ⟨g, k * 5 + 1 + 1, none⟩ = false := hown.frozenAt _
        have hown1' := Lib.hid hown
        have hz' := Lib.hid hz
        clear hown hz
        have hset := own_set1 partC_len (own_set1 partC_len hown1'.out ⟨x.name, x.lo + d, x.hi, x.least, x.most⟩ hL 1 (by decide) (.int .i64 (x.lo + d)) rfl) (x.up d) (i := k) (x := ⟨x.name, x.lo + d, x.hi, x.least, x.most⟩) (by rw [List.getElem?_set_self (List.getElem?_eq_some_iff.1 hL).1]) 2 (by decide) (.int .i64 (x.hi + d)) rfl
        have hyk : (xs.map (PartV.up · d))[k]? = some (x.up d) := by rw [List.getElem?_map, hx]; rfl
        rw [List.set_set, set_take_drop (by rw [List.length_map]) hyk] at hset
        replace hx := Lib.hid hx
        replace hL := Lib.hid hL
        go_upto_region 9 with fail
        have he2 : Ext w ((wr.setCell ⟨g, k * 5 + 1, none⟩ (.int .i64 (x.lo + d))).setCell ⟨g, k * 5 + 2, none⟩ (.int .i64 (x.hi + d))) := (he.setCell hgw _).setCell hgw _
        rw [show k * 5 + 1 + 1 = k * 5 + 2 from rfl]
        generalize (wr.setCell ⟨g, k * 5 + 1, none⟩ (.int .i64 (x.lo + d))).setCell ⟨g, k * 5 + 2, none⟩ (.int .i64 (x.hi + d)) = W2 at hset he2 ⊢
        have hLk : ((xs.map (PartV.up · d)).take (k + 1) ++ xs.drop (k + 1))[k]? = some (x.up d) := by
          rw [List.getElem?_append_left (by rw [List.length_take, List.length_map, hl.out]; omega), List.getElem?_take_of_lt (by omega)]
          exact hyk
        have m1 : W2.cell? ⟨g, k * 5 + 1, none⟩ = some (.int .i64 (x.lo + d)) := own_cell partC_len hset hLk 1 rfl hlt
        have m2 : W2.cell? ⟨g, k * 5 + 2, none⟩ = some (.int .i64 (x.hi + d)) := own_cell partC_len hset hLk 2 rfl hlt
        have hset' := Lib.hid hset
        replace hyk := Lib.hid hyk
        clear hset k1 k2 z1 z2 hown1' he hgl hLk
        cases hr : rightR (x.lo + d) (x.hi + d)
        · go_wp2_with (go_at_call 48; (with_reducible refine Calls.mono (rangeRight_any (x.lo + d) (x.hi + d) _) ?_); rintro e w3 ⟨rfl, hb3⟩)
          have hno : okUp xs d = false := by
            unfold okUp
            rw [List.all_eq_false]
            exact ⟨x, List.mem_of_getElem? hx.out, by rw [hr]; decide⟩
          go_ret2
          exact ⟨.slice none 0 0, by rw [hr0.out hno]; rfl, (fun h => by rw [hno] at h; cases h), (fun _ => rfl), he2.trans hb3⟩
        · go_wp2_with (go_at_call 48; (with_reducible refine Calls.mono (rangeRight_any (x.lo + d) (x.hi + d) _) ?_); rintro e w3 ⟨rfl, hb3⟩)
          go_roundw
          case rel => exact ⟨k + 1, by omega, by go_num, (fun y hy => by
            rw [take_snocL hx.out] at hy
            rcases List.mem_append.1 hy with h | h
            · exact hz'.out y h
            · obtain rfl : y = x := by simpa using h
              exact hr), own_ext hb3 hset'.out, he2.trans hb3⟩
          case measure => simp [intOf]; omega
      · obtain rfl : k = n := by omega
        have hall : okUp xs d = true := by
          unfold okUp
          rw [List.all_eq_true]
          intro x hx
          exact hz x (by rw [List.take_of_length_le (by rw [hl.out]; omega)]; exact hx)
        rw [List.take_of_length_le (by rw [List.length_map, hl.out]; omega), List.drop_eq_nil_of_le (by rw [hl.out]; omega), List.append_nil] at hown
        replace hown := Lib.hid hown
        go_wp2
        go_ret2
        exact ⟨.slice (some ⟨g, 0, none⟩) k cap, by rw [hr1.out hall]; rfl, (fun _ => hown.out), (fun h => by rw [hall] at h; cases h), he⟩
end Go.Proofs.YthhbhjppljblnaaGreatDoor
