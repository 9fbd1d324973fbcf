/- Slips that are written are read as they were; what is read is written so: the property answers true. Conditions: the argument is a list of ints that lies in memory; the table of the powers of ten stands; the variable internal/bytealg.MaxLen holds some number. -/
import Derived.Test.YtachmdaiecbenaaGreatDoorSbSlJ
import Derived.Test.YtachmdaiecbenaaGreatDoorSbSlL
import Derived.Test.YtachmdaiecbenaaGreatDoorSbSlM
import Derived.Test.YtachmdaiecbenaaGreatDoorSbJ46
set_option linter.unusedSimpArgs false
set_option linter.unusedVariables false
namespace Go.Proofs.YtachmdaiecbenaaGreatDoor
open Go Go.RowKit

theorem readT_text {V : List SlipV} (h0 : slipsF V = 0) (hl : V.length ≤ 14) : readT (textV V) = (V, 0, 0) ∧ textR V = (⟨(textV V).toArray⟩, 0) ∧ (textV V).length ≤ 4200 := by
  have hok : ∀ x ∈ V, SlipOk x := fun x hx => slip_ok ((slipsF_good h0).2 x hx)
  have hlen := text_len hok
  have hb : badAt (textV V) = none := badAt_none.2 fun i hi => (good_text hok i hi).1
  have hf : (linesF (textV V)).filterMap lineF = V := by
    rw [(lines_text hok).1]
    clear hl h0 hlen hb
    induction V with
    | nil => rfl
    | cons x V ih =>
      rw [List.map_cons, List.filterMap_cons, line_read (hok x List.mem_cons_self)]
      simp only
      rw [ih fun y hy => hok y (List.mem_cons_of_mem _ hy)]
  refine ⟨?_, ?_, by omega⟩
  · unfold readT
    rw [if_neg (by omega), hb]
    simp only [hf]
    rw [if_pos h0]
  · unfold textR
    rw [if_pos h0, if_neg (by omega)]
theorem readT_back {t : List UInt8} (h : (readT t).2.2 = 0) : textR (readT t).1 = (⟨t.toArray⟩, 0) := by
  unfold readT at h ⊢
  split at h
  · cases h
  · rename_i hlen
    rw [if_neg hlen]
    cases hb : badAt t with
    | some k => rw [hb] at h; cases h
    | none =>
      rw [hb] at h
      simp only at h ⊢
      split at h
      · rename_i hq
        rw [if_pos hq]
        have ht := text_of (badAt_none.1 hb)
        unfold textR
        simp only
        rw [if_pos hq, ht, if_neg hlen]
      · rename_i hq
        exact absurd h hq
theorem ReadR.slc {t : List UInt8} {w w' : World} {e : Ending} (h : ReadR t w e w') : ∃ (p : Option Addr) (n c : Nat), e = .returned (.tuple #[.slice p n c, .int .i64 (readT t).2.1, .int .i64 (readT t).2.2]) ∧ (readT t).1.length = n ∧ n ≤ 200001 ∧ Slc 7 slipC w' p n c (readT t).1 ∧ (∀ x ∈ (readT t).1, x.Small) ∧ Ext w w' := by
  obtain ⟨p, n, c, he, hl, hn, ho, hs, hx⟩ := h
  obtain ⟨p', c', e', hS⟩ := slc_of_own slipC_len ho (by decide) (by omega)
  cases e'
  exact ⟨p, n, c, he, hl, hn, hS, hs, hx⟩

set_option maxRecDepth 100000 in
set_option maxHeartbeats 12800000 in
theorem lawSB_any (B : Nat) (w : World) (p : Option Addr) (n c : Nat) (h : Lst w w.heap.size p n) (ht : Tab B w) (hm : MaxL B w) :
    Calls Tryz.prog 3 #[.slice p n c] w fun e w' => e = .returned (.bool true) ∧ Ext w w' := by
  have hS0 : Str (w.alloc (.cells #[.slice p n c, .int .i64 0] 25)) w.heap.size 0 := ⟨p, n, c, 0, Nat.le_refl _, Blk.new' rfl, h.low fun j hj => Below.heap_alloc w _ j hj⟩
  have hB := ht.1
  clear h
  have hback : ∀ u, ExtS w.heap.size (w.alloc (.cells #[.slice p n c, .int .i64 0] 25)) u → Ext w u := fun u hu => ExtS.back ((Ext.refl w).alloc _) (by simp) hu
  replace hback := Lib.hid hback
  go_enter Tryz.func3, Tryz.ntmps3
  go_upto_region 3 with (go_at_call 5; (with_reducible refine Calls.mono (rightSlips_any w.heap.size 0 _ (by omega) (by exact hS0)) ?_); rintro e w1 ⟨p1, n1, c1, V, rfl, hn1, hSl, hpb, hVl, hsm, hq, hS1, hE1⟩)
  have hb1 := hback.out w1 hE1
  obtain ⟨hRT, hTR, hlen⟩ := readT_text hq (by omega)
  have htx := text_any B p1 n1 c1 V w1 hSl.1 hsm (by omega) (ht.ext hb1)
  rw [hTR] at htx
  dsimp only at htx
  have hrd : ∀ w2, Ext w1 w2 → Calls Tryz.prog 7 #[.string ⟨(textV V).toArray⟩] w2 fun e w' => ∃ (p3 : Option Addr) (c3 : Nat), e = .returned (.tuple #[.slice p3 n1 c3, .int .i64 0, .int .i64 0]) ∧ Slc 7 slipC w' p3 n1 c3 V ∧ Ext w2 w' := fun w2 hb2 =>
    (read_any B ⟨(textV V).toArray⟩ w2 (by show (textV V).toArray.size ≤ _; simp; omega) (hm.ext (hb1.trans hb2))).mono fun e w' hh => by
      obtain ⟨p3, n3, c3, he, hl, -, hS3, -, hx⟩ := ReadR.slc (t := textV V) hh
      rw [hRT] at he hl hS3
      dsimp only at he hl hS3
      obtain rfl : n3 = n1 := by omega
      exact ⟨p3, c3, he, hS3, hx⟩
  clear hRT hTR hS0 hlen hq hsm
  replace htx := Lib.hid htx
  replace hrd := Lib.hid hrd
  go_upto_region 4 with (go_at_call 6; (with_reducible refine Calls.mono htx.out ?_); rintro e w2 ⟨rfl, hb2⟩)
  go_upto_if 43 with (first
    | (go_at_call 7; (with_reducible refine Calls.mono (hrd.out w2 hb2) ?_); rintro e w3 ⟨p3, c3, rfl, hSl3, hb3⟩)
    | (go_at_call 8; (with_reducible refine Calls.mono (eqSli_any p3 p1 n1 c3 c1 V w3 hSl3 (hSl.ext (hb2.trans hb3)) (by omega)) ?_); rintro e w4 ⟨rfl, hb4⟩))
  have hE4 := ((hE1.ext hb2).ext hb3).ext hb4
  have hS4 := ((hS1.ext hb2).ext hb3).ext hb4
  clear hSl3 hSl hb2 hb3 hb4 hS1 hE1 htx hrd hb1 hpb
  go_upto_region 8 with (go_at_call 9; (with_reducible refine Calls.mono (slipString_any B w.heap.size (0 + 720) _ (by omega) (by exact hS4) hB (by exact ht.ext (hback.out _ hE4))) ?_); rintro e w5 ⟨y, rfl, hys, hS5, hE5⟩)
  have hb5 := hback.out w5 (hE4.trans hE5)
  have hrd := (read_any B y w5 (by omega) (hm.ext hb5)).mono fun e w' hh => ReadR.slc hh
  have hbk := fun hf => readT_back (t := y.data.toList) hf
  generalize hX : (readT y.data.toList).1 = X at *
  generalize hi : (readT y.data.toList).2.1 = i at *
  generalize hf : (readT y.data.toList).2.2 = f at *
  clear hX hi hf hS4 hE4 hE5 hS5
  replace hrd := Lib.hid hrd
  replace hbk := Lib.hid hbk
  by_cases hf0 : f = 0
  · go_upto_region 10 with (go_at_call 7; (with_reducible refine Calls.mono hrd.out ?_); rintro e w6 ⟨p6, n6, c6, rfl, hl6, hn6, hS6, hsm6, hb6⟩)
    have htx := text_any B p6 n6 c6 X w6 hS6.1 hsm6 (by omega) (ht.ext (hb5.trans hb6))
    rw [hbk.out hf0] at htx
    dsimp only at htx
    have hyy : (⟨y.data.toList.toArray⟩ : ByteArray) = y := ba_eq (by simp)
    rw [hyy] at htx
    have hrdy := fun u (hu : Ext w u) => ready_any B u (ht.ext hu)
    replace htx := Lib.hid htx
    replace hrdy := Lib.hid hrdy
    clear hS6 hsm6
    go_wp2_with (first
      | (go_at_call 6; (with_reducible refine Calls.mono htx.out ?_); rintro e w7 ⟨rfl, hb7⟩; have hb7' := (hb5.trans hb6).trans hb7)
      | (go_at_call 10; (with_reducible refine Calls.mono (hrdy.out _ hb7') ?_); rintro e w8 ⟨rfl, hb8⟩))
    go_ret
    exact ⟨rfl, hb7'.trans hb8⟩
  · have hrdy := fun u (hu : Ext w u) => ready_any B u (ht.ext hu)
    replace hrdy := Lib.hid hrdy
    go_wp2_with (first
      | (go_at_call 7; (with_reducible refine Calls.mono hrd.out ?_); rintro e w6 ⟨p6, n6, c6, rfl, hl6, hn6, hS6, hsm6, hb6⟩; have hb6' := hb5.trans hb6)
      | (go_at_call 10; (with_reducible refine Calls.mono (hrdy.out _ hb6') ?_); rintro e w8 ⟨rfl, hb8⟩))
    go_ret
    exact ⟨rfl, hb6'.trans hb8⟩
end Go.Proofs.YtachmdaiecbenaaGreatDoor
