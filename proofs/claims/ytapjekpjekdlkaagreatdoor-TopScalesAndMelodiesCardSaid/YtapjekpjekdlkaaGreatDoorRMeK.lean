/- The choices of each step of a melody, by tune's text: melodyOf. Conditions: steps and notes lie in memory. -/
import Derived.Test.YtapjekpjekdlkaaGreatDoorRMeJ
set_option linter.unusedSimpArgs false
set_option linter.unusedVariables false
namespace Go.Proofs.YtapjekpjekdlkaaGreatDoor
open Go Go.RowKit

theorem ivSInfo : (Tryz.prog.info? 39).map (fun i => (i.zero, i.size, i.bytes)) = some (some (.slice none 0 0), 1, 24) := by kernel_rfl
/-- An own row of rows of intervals that were there. -/
def OwnC (w0 w : World) (v : Value) (C : List (List I4)) : Prop :=
  ∃ vs : List Value, w.ownsRow w0.heap.size 39 1 v C.length vs ∧ ∀ (i : Nat) (r : List I4), C[i]? = some r → ∃ q d, vs[i]? = some (.slice q r.length d) ∧ Slc 4 i4C w0 q r.length d r
theorem OwnC.ext {w0 w w' : World} {v : Value} {C : List (List I4)} (h : OwnC w0 w v C) (he : Ext w w') : OwnC w0 w' v C := by
  obtain ⟨vs, h1, h2⟩ := h
  exact ⟨vs, own_ext he h1, h2⟩
theorem OwnC.rows {w0 w : World} {v : Value} {C : List (List I4)} (h : OwnC w0 w v C) (he : Ext w0 w) (hn : C.length ≤ 1000000) : ∃ p c, v = .slice p C.length c ∧ RowsI w p C.length c C := by
  obtain ⟨vs, h1, h2⟩ := h
  have hl : vs.length = C.length := by have := h1.1; omega
  have hvs : vs = vs.flatMap (fun v => [v]) := by
    clear h1 h2 hl
    induction vs with
    | nil => rfl
    | cons a vs ih => rw [List.flatMap_cons, ← ih]; rfl
  have h3 := h1
  rw [hvs] at h3
  obtain ⟨p, c, rfl, hS⟩ := slc_of_own (enc := fun v => [v]) (fun _ => rfl) h3 (by decide) (by omega)
  exact ⟨p, c, rfl, vs, hS, hl, fun i r hr => let ⟨q, d, a, b⟩ := h2 i r hr; ⟨q, d, a, b.ext he⟩⟩
theorem kind_none {X : List StepV} {m : List Int} {i : Nat} (h : findX X (gapAt m i) = none) : kindF X m i = 10 := by unfold kindF; rw [h]; rfl
theorem kind_some {X : List StepV} {m : List Int} {i : Nat} {x : StepV} (h : findX X (gapAt m i) = some x) : kindF X m i = 0 := by unfold kindF; rw [h]; rfl
theorem melC_at {X : List StepV} {m : List Int} {i : Nat} {x : StepV} (hi : i < m.length - 1) (h : findX X (gapAt m i) = some x) : (melC X m)[i]? = some x.cs := by
  unfold melC
  rw [List.getElem?_map, List.getElem?_range hi]
  simp [h]
theorem steps_len {X : List StepV} (h : stepsF X = 0) : X.length ≤ 25 := by
  unfold stepsF at h
  split at h
  · cases h
  · omega
/-- What is wrong, or the choices. -/
def MelPost (w : World) (X : List StepV) (m : List Int) (e : Ending) (w' : World) : Prop :=
  Ext w w' ∧ ((melF X m ≠ 0 ∧ e = .returned (.tuple #[.slice none 0 0, .int .i64 (melF X m)])) ∨ (melF X m = 0 ∧ ∃ v, e = .returned (.tuple #[v, .int .i64 0]) ∧ OwnC w w' v (melC X m)))

set_option maxRecDepth 100000 in
set_option maxHeartbeats 6400000 in
theorem melodyOf_any {p : Option Addr} {n c : Nat} {X : List StepV} {w : World} (h : StpM w p n c X) {np : Option Addr} {nn nc : Nat} {m : List Int} (hm : Slc 1 intC w np nn nc m) :
    Calls Tryz.prog 28 #[.slice p n c, .slice np nn nc] w (MelPost w X m) := by
  have hF : melF X m = if stepsF X ≠ 0 then stepsF X else if m.length = 0 then 8 else if 400 < m.length then 2 else if (∃ n ∈ m, outB n 0 127 = true) then 1 else scanF (m.length - 1) (kindF X m) := rfl
  have hXn := h.len
  have hE0 : Ext w (w.alloc (.cells #[.slice np nn nc] 22)) := (Ext.refl _).alloc _
  have hN0 : Blk (w.alloc (.cells #[.slice np nn nc] 22)) w.heap.size 22 #[.slice np nn nc] := Blk.new' rfl
  have hchk := checkSteps_any (h.ext hE0)
  obtain ⟨hml, -⟩ := slcC hm
  subst hml
  by_cases hs : stepsF X ≠ 0
  · rw [if_pos hs] at hF
    have hs' : ¬ stepsF X = 0 := hs
    replace hF := Lib.hid hF
    replace hchk := Lib.hid hchk
    go_enter Tryz.func28, Tryz.ntmps28
    go_wp2_with (go_at_call 50; (with_reducible refine Calls.mono hchk.out ?_); rintro e w1 ⟨rfl, hb1⟩)
    go_ret2
    exact ⟨hE0.trans hb1, .inl ⟨by rw [hF.out]; exact hs, by rw [hF.out]; rfl⟩⟩
  have hs0 : stepsF X = 0 := by omega
  rw [if_neg hs] at hF
  rw [hs0] at hchk
  replace hchk := Lib.hid hchk
  by_cases h0 : m.length = 0
  · rw [if_pos h0] at hF
    replace hF := Lib.hid hF
    obtain rfl : m = [] := List.eq_nil_of_length_eq_zero h0
    simp only [List.length_nil] at hchk hE0 hN0 ⊢
    go_enter Tryz.func28, Tryz.ntmps28
    go_wp2_with (go_at_call 50; (with_reducible refine Calls.mono hchk.out ?_); rintro e w1 ⟨rfl, hb1⟩; obtain ⟨y1, -⟩ := (hN0.ext hb1).walk; have y2 := (hN0.ext hb1).lt)
    go_ret2
    exact ⟨hE0.trans hb1, .inl ⟨by rw [hF.out]; decide, by rw [hF.out]; rfl⟩⟩
  rw [if_neg h0] at hF
  by_cases h4 : 400 < m.length
  · rw [if_pos h4] at hF
    replace hF := Lib.hid hF
    have h4I : (400 : Int) < m.length := by omega
    go_enter Tryz.func28, Tryz.ntmps28
    go_wp2_with (go_at_call 50; (with_reducible refine Calls.mono hchk.out ?_); rintro e w1 ⟨rfl, hb1⟩; obtain ⟨y1, -⟩ := (hN0.ext hb1).walk; have y2 := (hN0.ext hb1).lt)
    go_ret2
    exact ⟨hE0.trans hb1, .inl ⟨by rw [hF.out]; decide, by rw [hF.out]; rfl⟩⟩
  rw [if_neg h4] at hF
  have h4I : ¬ (400 : Int) < m.length := by omega
  have hout := fun u (hu : Ext w u) => outs_any (hm.ext hu) (by omega)
  have hany : (m.any fun x => outB x 0 127) = true ↔ ∃ n ∈ m, outB n 0 127 = true := List.any_eq_true
  by_cases ha : ∃ n ∈ m, outB n 0 127 = true
  · rw [if_pos ha] at hF
    rw [hany.2 ha] at hout
    replace hF := Lib.hid hF
    replace hout := Lib.hid hout
    go_enter Tryz.func28, Tryz.ntmps28
    go_wp2_with (first
      | (go_at_call 50; (with_reducible refine Calls.mono hchk.out ?_); rintro e w1 ⟨rfl, hb1⟩; obtain ⟨y1, -⟩ := (hN0.ext hb1).walk; have y2 := (hN0.ext hb1).lt)
      | (go_at_call 51; (with_reducible refine Calls.mono (hout.out _ (hE0.trans hb1)) ?_); rintro e w2 ⟨rfl, hb2⟩))
    go_ret2
    exact ⟨(hE0.trans hb1).trans hb2, .inl ⟨by rw [hF.out]; decide, by rw [hF.out]; rfl⟩⟩
  rw [if_neg ha] at hF
  have hany2 : (m.any fun x => outB x 0 127) = false := by
    cases hq : m.any fun x => outB x 0 127 with
    | false => rfl
    | true => exact absurd (hany.1 hq) ha
  rw [hany2] at hout
  have hr : ∀ x ∈ m, 0 ≤ x ∧ x ≤ 127 := fun x hx => by
    have h1 : ¬ outB x 0 127 = true := fun h => ha ⟨x, hx, h⟩
    unfold outB at h1
    simp at h1
    omega
  obtain ⟨-, ⟨-, e⟩ | ⟨nb, noff, rfl, hnb, hEl⟩⟩ := slcC hm
  · rw [e] at h0; exact absurd rfl h0
  replace hF := Lib.hid hF
  replace hout := Lib.hid hout
  clear hany hany2 ha hs
  go_enter Tryz.func28, Tryz.ntmps28
  go_wp2_with (first
      | (go_at_call 50; (with_reducible refine Calls.mono hchk.out ?_); rintro e w1 ⟨rfl, hb1⟩; obtain ⟨y1, -⟩ := (hN0.ext hb1).walk; have y2 := (hN0.ext hb1).lt)
      | (go_at_call 51; (with_reducible refine Calls.mono (hout.out _ (hE0.trans hb1)) ?_); rintro e w2 ⟨rfl, hb2⟩))
  have hE3 := ((hE0.trans hb1).trans hb2).alloc (.cells #[.int .i64 1] 3)
  have hN3 := ((hN0.ext hb1).ext hb2).alloc (.cells #[.int .i64 1] 3)
  have hI3 : Blk (w2.alloc (.cells #[.int .i64 1] 3)) w2.heap.size 3 #[.int .i64 1] := Blk.new' rfl
  have hsz3 : w.heap.size < w2.heap.size := by
    have := ((hN0.ext hb1).ext hb2).lt
    exact this
  generalize w2.alloc (.cells #[.int .i64 1] 3) = W3 at *
  generalize w2.heap.size = g3 at *
  have hC0 : OwnC w W3 (.slice none 0 0) ((melC X m).take 0) := ⟨[], World.ownsRow_nil _ _ _ _, fun i r h => by cases h⟩
  replace hC0 := Lib.hid hC0
  clear hN0 hE0 hb1 hb2 y1 y2 hchk hout
  go_loopg [7, 8] m.length (fun gn v7 v8 wr => ∃ (i gi : Nat), v8 = .pointer (some ⟨gi, 0, none⟩) ∧ Blk wr gi 3 #[.int .i64 ((i : Int) + 1)] ∧ w.heap.size < gi ∧ i + 1 ≤ m.length ∧ Blk wr w.heap.size 22 #[.slice (some ⟨nb, noff, none⟩) m.length nc] ∧ OwnC w wr v7 ((melC X m).take i) ∧ Zeros (kindF X m) i ∧ Ext w wr ∧ gn = m.length - i)
  case atStart => exact ⟨0, g3, rfl, hI3, hsz3, by omega, hN3, hC0.out, (fun j hj => by omega), hE3, rfl⟩
  case round =>
    clear hN3 hC0 hI3 hE3 hsz3
    obtain ⟨i, gi, rfl, hI, hgi, him, hN, hC, hz, hE, rfl⟩ := hrel
    obtain ⟨y1, -⟩ := hN.walk
    obtain ⟨y2, -⟩ := hI.walk
    have y1l := hN.lt
    have y2l := hI.lt
    by_cases hlt : i + 1 < m.length
    · have hltI : (i : Int) + 1 < m.length := by omega
      have hq : StpQ wr w.heap.size gi nb noff nc m i := ⟨hN, hI, Nat.lt_of_lt_of_le hnb hE.size, hEl.ext hE hnb, by omega, hr⟩
      have hfi := stepIdx_any (h.ext hE) (by have := steps_len hs0; omega) (gapAt m i) (stepPred hq hlt) (enters_of Tryz.func53 (by kernel_rfl) rfl)
      replace hfi := Lib.hid hfi
      replace hz := Lib.hid hz
      go_upto_region 15 with (go_at_call 9; (with_reducible refine Calls.mono hfi.out ?_); rintro e w5 ⟨hb5, hcs⟩; rcases hcs with ⟨hf, rfl⟩ | ⟨k, x, hxk, hxs, hf, rfl⟩)
      · go_wp2
        go_ret2
        have hzz : melF X m = 10 := by rw [hF.out]; exact (scan_is hz.out (show i < m.length - 1 by omega) (kind_none hf) (by decide)).symm
        exact ⟨hE.trans hb5, .inl ⟨by rw [hzz]; decide, by rw [hzz]; rfl⟩⟩
      · have hC5 := hC.ext hb5
        obtain ⟨vs, ho5, hat5⟩ := hC5
        have hll : ((melC X m).take i).length = i := by rw [List.length_take, melC_len]; omega
        rw [hll] at ho5
        obtain ⟨b, off, q, d, rfl, hb, c1w, c2w, hS⟩ := h.at_ hxk
        have c2 := ((hE.trans hb5).walk.1 _ _ hb).trans c2w
        have hbl := Nat.lt_of_lt_of_le hb (hE.trans hb5).size
        have hkn : k < n := by rw [← hXn]; exact (List.getElem?_eq_some_iff.1 hxk).1
        have hkI : (k : Int) < n := by omega
        have hN5 := hN.ext hb5
        have hI5 := hI.ext hb5
        have hE5 := hE.trans hb5
        have hEa : Ext w5 (w5.alloc (.cells #[.slice q x.cs.length d] 39)) := (Ext.refl _).alloc _
        have ho6 := own_ext hEa ho5
        have hN6 := hN5.ext hEa
        have hI6 := hI5.ext hEa
        have hbz : w.heap.size ≤ w5.heap.size := hE5.size
        have hzn := hz.out.succ (kind_some hf)
        have hmc := melC_at (m := m) (i := i) (by omega) hf
        have htk := take_snocI hmc
        have hvl : vs.length = i := by have := ho5.1; omega
        replace hzn := Lib.hid hzn
        replace htk := Lib.hid htk
        clear hI hN hC hE hq hz hfi y1 y2 hb5
        go_upto_region 18 with (at_builtin; go_loud (refine wp_app1 _ (.tmp 34) (.tmp 40) 69 39 1 24 _ rfl rfl Tryz.underlying69 ivSInfo rfl (by decide) (by decide) w.heap.size _ i _ rfl ho6 w5.heap.size [.slice q x.cs.length d] rfl rfl (Blk.new' rfl) (by simp [Value.oneCell']) (by omega) (by simp; omega) ?_; intro v8 w8 hown8 hgrow8 _))
        have hI8 : Blk w8 gi 3 #[.int .i64 ((i : Int) + 1)] := (hgrow8.block gi hI6.lt fun e => own_no ho6 hI6 (by decide) e.symm).trans hI6
        have hN8 : Blk w8 w.heap.size 22 #[.slice (some ⟨nb, noff, none⟩) m.length nc] := (hgrow8.block _ hN6.lt fun e => own_no ho6 hN6 (by decide) e.symm).trans hN6
        have hE8 : Ext w w8 := (hE5.trans hEa).grown hgrow8 fun j e => (ho6.lt j e).1
        have hC8 : OwnC w w8 v8 ((melC X m).take (i + 1)) := by
          rw [htk.out]
          refine ⟨vs ++ [.slice q x.cs.length d], by rw [List.length_append, hll]; exact hown8, fun j r hj => ?_⟩
          rcases Nat.lt_or_ge j i with hlt2 | hge
          · rw [List.getElem?_append_left (by omega)] at hj
            obtain ⟨q', d', a1, a2⟩ := hat5 j r hj
            exact ⟨q', d', by rw [List.getElem?_append_left (by omega)]; exact a1, a2⟩
          · have hj0 : j - i = 0 := by have := (List.getElem?_eq_some_iff.1 hj).1; rw [List.length_append, hll, List.length_singleton] at this; omega
            rw [List.getElem?_append_right (by omega), hll, hj0] at hj
            obtain rfl : x.cs = r := by simpa using hj
            exact ⟨q, d, by rw [List.getElem?_append_right (by omega), hvl, hj0]; rfl, hS⟩
        obtain ⟨y3, -⟩ := hI8.walk
        have y3l := hI8.lt
        replace hC8 := Lib.hid hC8
        clear ho5 ho6 hN5 hN6 hI5 hI6 hEa hown8 hgrow8 c2 hat5
        go_wp2
        go_roundg (m.length - (i + 1))
        case rel => exact ⟨i + 1, _, rfl, (Blk.new' rfl).cast (by go_num), by omega, by omega, hN8.alloc _, hC8.out.ext ((Ext.refl _).alloc _), hzn.out, hE8.alloc _, rfl⟩
        case measure => omega
    · have hltI : ¬ (i : Int) + 1 < m.length := by omega
      obtain ⟨L, hL⟩ : ∃ L, m.length = L + 1 := ⟨m.length - 1, by omega⟩
      obtain rfl : i = L := by omega
      have htk : (melC X m).take i = melC X m := List.take_of_length_le (by rw [melC_len]; omega)
      rw [htk] at hC
      have hzz : melF X m = 0 := by rw [hF.out, show m.length - 1 = i by omega]; exact scan_zero hz
      replace hL := Lib.hid hL
      go_wp2
      go_ret2
      exact ⟨hE, .inr ⟨hzz, _, rfl, hC⟩⟩
end Go.Proofs.YtapjekpjekdlkaaGreatDoor
