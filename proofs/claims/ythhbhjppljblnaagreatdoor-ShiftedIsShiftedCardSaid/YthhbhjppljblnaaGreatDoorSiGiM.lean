/- By how many half tones parts can be shifted so that nobody is lacking, by the program. Conditions: sizes. -/
import Derived.Test.YthhbhjppljblnaaGreatDoorSiGiL
set_option linter.unusedSimpArgs false
set_option linter.unusedVariables false
namespace Go.Proofs.YthhbhjppljblnaaGreatDoor
open Go Go.RowKit

def upL (P : List PartV) (d : Int) : List PartV := P.map (PartV.up · d)
def fitB (V : List VoiceV) (P : List PartV) (t d : Int) : Bool := okUp P d && (lackV V (upL P d) t == 0)
def spanL (V : List VoiceV) (P : List PartV) (t : Int) (k : Nat) : List Int := ((List.range k).map fun i : Nat => (i : Int) - 12).filter (fitB V P t)
def shiftsV (V : List VoiceV) (P : List PartV) (t : Int) : List Int := spanL V P t 25
theorem spanL_succ (V : List VoiceV) (P : List PartV) (t : Int) (k : Nat) : spanL V P t (k + 1) = spanL V P t k ++ if fitB V P t ((k : Int) - 12) then [(k : Int) - 12] else [] := by
  unfold spanL
  rw [List.range_succ, List.map_append, List.filter_append]
  congr 1
  cases h : fitB V P t ((k : Int) - 12) <;> simp [h]
theorem spanL_len (V : List VoiceV) (P : List PartV) (t : Int) (k : Nat) : (spanL V P t k).length ≤ k := by
  unfold spanL
  exact Nat.le_trans (List.length_filter_le _ _) (by simp)
theorem right_in {a b : Int} (h : rightR a b = true) : 0 ≤ a ∧ a ≤ b ∧ b ≤ 127 := by
  have e : rightR a b = (inB a 0 b && decide (b ≤ 127)) := by unfold rightR; rw [outB_inB]; simp
  rw [e, Bool.and_eq_true] at h
  have h1 := inB_iff.1 h.1
  have h2 := of_decide_eq_true h.2
  omega
theorem up_small {P : List PartV} {d : Int} (hs : ∀ x ∈ P, x.Small) (hok : okUp P d = true) : ∀ y ∈ upL P d, y.Small := fun y hy => by
  obtain ⟨x, hx, rfl⟩ := List.mem_map.1 hy
  have h1 := right_in (List.all_eq_true.1 hok x hx)
  obtain ⟨a, b, c, e, f⟩ := hs x hx
  refine ⟨a, ?_, ?_, e, f⟩ <;> simp only [PartV.up] <;> omega
theorem up_need {P : List PartV} {d : Int} (h : ∀ x ∈ P, 0 ≤ x.least ∧ x.least ≤ 1000) : ∀ y ∈ upL P d, 0 ≤ y.least ∧ y.least ≤ 1000 := fun y hy => by
  obtain ⟨x, hx, rfl⟩ := List.mem_map.1 hy
  exact h x hx
theorem up_len (P : List PartV) (d : Int) : (upL P d).length = P.length := by simp [upL]
def ShiftsR (V : List VoiceV) (P : List PartV) (t : Int) (w : World) (e : Ending) (w' : World) : Prop :=
  ∃ (q : Option Addr) (m d : Nat), e = .returned (.tuple #[.slice q m d, .int .i64 0]) ∧ Slc 1 intC w' q m d (shiftsV V P t) ∧ Ext w w'
set_option maxRecDepth 100000 in
set_option maxHeartbeats 6400000 in
theorem shifts_good {w : World} {vp pp : Option Addr} {vc pc : Nat} {V : List VoiceV} {P : List PartV} (h : VpM w vp vc V pp pc P) (t : Int) (hz : errL V P t = 0) :
    Calls Tryz.prog 25 #[.slice vp V.length vc, .slice pp P.length pc, .int .i64 t] w (ShiftsR V P t w) := by
  obtain ⟨z1, z2, z3⟩ := errL_zero.1 hz
  obtain ⟨hP, hN⟩ := parts_need z2
  have hb0 : bothF V P = 0 := by unfold bothF; rw [if_pos z1, z2]
  have hbo : Calls Tryz.prog 64 #[.slice vp V.length vc, .slice pp P.length pc] w fun e w' => e = .returned (.int .i64 (bothF V P)) ∧ Ext w w' := bothFault_any h
  have hmo := mom_call t
  rw [hb0] at hbo
  rw [z3] at hmo
  have hsh := fun u (hu : Ext w u) d (hd : -1000 ≤ d ∧ d ≤ 1000) => shifted_any pp P.length pc P d u (h.par.ext hu) h.nP h.sP hd
  have hch : ∀ u (hu : Ext w u) (q : Option Addr) (c : Nat) d, okUp P d = true → Slc 5 partC u q P.length c (upL P d) →
      Calls Tryz.prog 66 #[.slice vp V.length vc, .slice q P.length c, .int .i64 t] u fun e w' => ∃ (cb : Nat) (sp : Option Addr) (sc : Nat) (cp : Option Addr) (cc : Nat), e = .returned (.pointer (some ⟨cb, 0, none⟩)) ∧ ChoirM w' cb (upL P d) q c (comL V t (upL P d)) sp sc cp cc ∧ Ext u w' := fun u hu q c d hok hS => by
    have hl := up_len P d
    have := choirOf_any (w := u) (vp := vp) (pp := q) (vc := vc) (pc := c) (V := V) (P := upL P d) ⟨h.voi.ext hu, by rw [hl]; exact hS, h.sV, up_small h.sP hok, h.nV, by rw [hl]; exact h.nP⟩ t (by rw [hl]; exact hP) (up_need hN)
    rw [hl] at this
    exact this
  replace hsh := Lib.hid hsh
  replace hmo := Lib.hid hmo
  replace hbo := Lib.hid hbo
  replace hch := Lib.hid hch
  clear h z1 z2 z3 hb0 hz
  go_enter Tryz.func25, Tryz.ntmps25
  go_upto_region 7 with (first
    | (go_at_call 64; (with_reducible refine Calls.mono hbo.out ?_); rintro e w1 ⟨rfl, hb1⟩)
    | (go_at_call 65; (with_reducible refine Calls.mono (hmo.out _ _ _ _ (by exact Blk.new' rfl)) ?_); rintro e w2 ⟨rfl, hb2⟩; simp only [if_true]; have hE2 := (hb1.alloc _).trans hb2))
  clear hmo hbo hb1 hb2
  go_wp2
  go_loopw [11, 10] (fun v11 v10 wr => ∃ (k : Nat) (d : Int) (v : Value) (T : List Int), v11 = .int .i64 d ∧ v10 = v ∧ d = (k : Int) - 12 ∧ k ≤ 25 ∧ T = spanL V P t k ∧ wr.ownsRow w2.heap.size 3 1 v T.length (T.flatMap intC) ∧ Ext w2 wr) (fun v11 _ _ => (25 - (intOf v11 + 12)).toNat)
  case atStart => exact ⟨0, _, _, _, rfl, rfl, by decide, Nat.zero_le _, rfl, World.ownsRow_nil _ _ _ _, Ext.refl _⟩
  case round =>
    obtain ⟨k, d, v, T, rfl, rfl, hd, hk, hT, hown, hE⟩ := hrel
    have hTl : T.length ≤ k := by rw [hT]; exact spanL_len _ _ _ _
    have hup := spanL_succ V P t k
    rw [← hT, ← hd] at hup
    have hd1 : d + 1 = ((k + 1 : Nat) : Int) - 12 := by omega
    by_cases hk25 : k < 25
    · have hd2 : d ≤ 12 := by omega
      have hd3 : -12 ≤ d := by omega
      have hEw := hE2.trans hE
      have hfb : fitB V P t d = (okUp P d && (lackV V (upL P d) t == 0)) := rfl
      have hlv : lackV V (upL P d) t = lackF (canC (comL V t (upL P d))) (lstP (upL P d)) (upL P d).length (comL V t (upL P d)).length := rfl
      have hsh2 := hsh.out wr hEw d ⟨by omega, by omega⟩
      generalize lackV V (upL P d) t = lv at *
      replace hlv := Lib.hid hlv
      replace hT := Lib.hid hT
      replace hd1 := Lib.hid hd1
      cases hok : okUp P d
      · rw [hok] at hfb hsh2
        rw [hfb] at hup
        simp only [Bool.false_and, Bool.false_eq_true, if_false, List.append_nil] at hup
        replace hup := Lib.hid hup
        replace hsh2 := Lib.hid hsh2
        replace hok := Lib.hid hok
        clear hfb hd
        go_wp2_with (go_at_call 72; (with_reducible refine Calls.mono hsh2.out ?_); rintro e w3 ⟨v3, rfl, -, -, hb3⟩)
        go_roundw
        case rel => exact ⟨k + 1, d + 1, u10, T, by go_num, rfl, hd1.out, by omega, hup.out.symm, own_ext hb3 hown, hE.trans hb3⟩
        case measure => simp [intOf]; omega
      · have hch2 := fun u hu q c => hch.out u hu q c d hok
        rw [hok] at hfb hsh2
        rw [hfb] at hup
        simp only [Bool.true_and] at hup
        replace hsh2 := Lib.hid hsh2
        replace hch2 := Lib.hid hch2
        replace hok := Lib.hid hok
        clear hfb hd
        go_upto_if 44 with (first
          | (go_at_call 72; (with_reducible refine Calls.mono hsh2.out ?_); rintro e w3 ⟨v3, rfl, -, hv3, hb3⟩; obtain ⟨q3, c3, rfl, hS3⟩ := slc_of_own partC_len (hv3 rfl) (by decide) (by omega); have hE3 := hEw.trans hb3; replace hS3 : Slc 5 partC w3 q3 P.length c3 (upL P d) := hS3; replace hS3 := Lib.hid hS3)
          | (go_at_call 66; (with_reducible refine Calls.mono (hch2.out _ hE3 _ _ hS3.out) ?_); rintro e w4 ⟨cb, sp, sc, cp, cc, rfl, hC, hb4⟩; replace hC := Lib.hid hC)
          | (go_at_call 67; (with_reducible refine Calls.mono (lacking_any hC.out) ?_); rintro e w5 ⟨rfl, hb5⟩; rw [← hlv.out]; have hb35 := (hb3.trans hb4).trans hb5))
        have hown5 := own_ext hb35 hown
        have hE5 := hE.trans hb35
        clear hb3 hb4 hb5 hE3 hS3 hC hv3 hown hb35 hch2 hsh2
        have hz5 := hE5.size
        cases hl0 : (lv == 0)
        · rw [hl0] at hup
          simp only [Bool.false_eq_true, if_false, List.append_nil] at hup
          replace hup := Lib.hid hup
          replace hown5 := Lib.hid hown5
          go_wp2
          go_roundw
          case rel => exact ⟨k + 1, d + 1, u10, T, by go_num, rfl, hd1.out, by omega, hup.out.symm, hown5.out, hE5⟩
          case measure => simp [intOf]; omega
        · rw [hl0] at hup
          simp only [if_true] at hup
          replace hup := Lib.hid hup
          go_wp2_with (at_builtin; go_loud (refine wp_app1 _ (.tmp 45) (.tmp 47) 22 3 1 8 _ rfl rfl Tryz.underlying22 intInfo rfl (by decide) (by decide) w2.heap.size _ T.length _ rfl (hown5.alloc _) w5.heap.size (intC d) rfl rfl (Blk.new' rfl) (by simp [intC, Value.oneCell']) (by omega) (by simp; omega) ?_; intro v' w6 hown6 hgrow6 _))
          have hE6 := (hE5.alloc _).app (hown5.alloc _) (Nat.le_refl _) hgrow6
          go_roundw
          case rel => exact ⟨k + 1, d + 1, v', T ++ [d], by go_num, rfl, hd1.out, by omega, hup.out.symm, by rw [List.length_append, List.length_singleton, flat_snoc]; exact hown6, hE6⟩
          case measure => simp [intOf]; omega
    · obtain rfl : k = 25 := by omega
      have hd12 : ¬ d ≤ 12 := by omega
      obtain ⟨q, m, rfl, hS⟩ := slc_of_own intC_len hown (by decide) (by omega)
      rw [show spanL V P t 25 = shiftsV V P t from rfl] at hT
      have hEf := hE2.trans hE
      replace hT := Lib.hid hT
      replace hS := Lib.hid hS
      clear hown hup hd hd1
      go_wp2
      go_ret2
      exact ⟨q, _, m, rfl, by rw [← hT.out]; exact hS.out, hEf⟩
end Go.Proofs.YthhbhjppljblnaaGreatDoor
