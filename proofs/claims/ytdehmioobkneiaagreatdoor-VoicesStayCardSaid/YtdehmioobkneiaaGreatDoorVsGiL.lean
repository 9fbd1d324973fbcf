/- The parts that are short, by the program. Conditions: sizes; at most three parts. -/
import Derived.Test.YtdehmioobkneiaaGreatDoorVsJ36
set_option linter.unusedSimpArgs false
set_option linter.unusedVariables false
namespace Go.Proofs.YtdehmioobkneiaaGreatDoor
open Go Go.RowKit

def shortV (V : List VoiceV) (P : List PartV) (t : Int) : List ByteArray := if lackV V P t = 0 then [] else namesF P (shortF (canC (comL V t P)) (lstP P) P.length (comL V t P).length)
def ShortO (V : List VoiceV) (P : List PartV) (t : Int) (w : World) (e : Ending) (w' : World) : Prop :=
  ∃ (q : Option Addr) (m d : Nat), e = .returned (.tuple #[.slice q m d, .int .i64 0]) ∧ w'.ownsRow w.heap.size 9 1 (.slice q m d) m ((shortV V P t).flatMap strC) ∧ (shortV V P t).length = m ∧ m ≤ 1000 ∧ Ext w w'
theorem strInfo : (Tryz.prog.info? 9).map (fun i => (i.zero, i.size, i.bytes)) = some (some (.string ⟨#[]⟩), 1, 16) := by kernel_rfl
theorem numL_sz (set : Nat) : ∀ x ∈ numL set, x ≤ 1000 := fun x hx => by
  unfold numL at hx
  have := List.mem_range.1 (List.mem_filter.1 hx).1
  omega
theorem pow3 {n : Nat} (h : n ≤ 3) : 2 ^ n ≤ 8 := (Nat.pow_le_pow_right (by decide) h : 2 ^ n ≤ 2 ^ 3)
set_option maxRecDepth 100000 in
set_option maxHeartbeats 6400000 in
theorem short_own {w : World} {vp pp : Option Addr} {vc pc : Nat} {V : List VoiceV} {P : List PartV} (h : VpM w vp vc V pp pc P) (t : Int) (hz : errL V P t = 0) (hP3 : P.length ≤ 3) :
    Calls Tryz.prog 18 #[.slice vp V.length vc, .slice pp P.length pc, .int .i64 t] w (ShortO V P t w) := by
  obtain ⟨z1, z2, z3⟩ := errL_zero.1 hz
  obtain ⟨hP, hN⟩ := parts_need z2
  have hb0 : bothF V P = 0 := by unfold bothF; rw [if_pos z1, z2]
  have hbo : Calls Tryz.prog 57 #[.slice vp V.length vc, .slice pp P.length pc] w fun e w' => e = .returned (.int .i64 (bothF V P)) ∧ Ext w w' := bothFault_any h
  have hmo := mom_call t
  have hch := fun u (hu : Ext w u) => choirOf_any (h.more hu) t hP hN
  rw [hb0] at hbo
  rw [z3] at hmo
  have hlv : lackV V P t = lackF (canC (comL V t P)) (lstP P) P.length (comL V t P).length := rfl
  have hsv : shortV V P t = if lackV V P t = 0 then [] else namesF P (shortF (canC (comL V t P)) (lstP P) P.length (comL V t P).length) := rfl
  have hpar := h.par
  obtain ⟨lv, hlw⟩ : ∃ lv, lackV V P t = lv := ⟨_, rfl⟩
  rw [hlw] at hlv hsv
  replace hlv := Lib.hid hlv
  replace hsv := Lib.hid hsv
  replace hmo := Lib.hid hmo
  replace hbo := Lib.hid hbo
  replace hch := Lib.hid hch
  replace hN := Lib.hid hN
  replace hlw := Lib.hid hlw
  replace hpar := Lib.hid hpar
  clear h z1 z2 z3 hb0 hz
  go_enter Tryz.func18, Tryz.ntmps18
  go_upto_region 9 with (first
    | (go_at_call 57; (with_reducible refine Calls.mono hbo.out ?_); rintro e w1 ⟨rfl, hb1⟩)
    | (go_at_call 58; (with_reducible refine Calls.mono (hmo.out _ _ _ _ (by exact Blk.new' rfl)) ?_); rintro e w2 ⟨rfl, hb2⟩; simp only [if_true]; have hE2 := (hb1.alloc _).trans hb2)
    | (go_at_call 59; (with_reducible refine Calls.mono (hch.out _ hE2) ?_); rintro e w3 ⟨cb, sp, sc, cp, cc, rfl, hC, hb3⟩; have hE3 := hE2.trans hb3; replace hC := Lib.hid hC)
    | (go_at_call 60; (with_reducible refine Calls.mono (lacking_any hC.out) ?_); rintro e w4 ⟨rfl, hb4⟩; rw [← hlv.out]; have hE4 := hE3.trans hb4))
  have hC4 := hC.out.ext hb4
  clear hmo hbo hch hb1 hb2 hb3 hb4 hE2 hE3 hC
  by_cases hl0 : lv = 0
  · subst hl0
    have hsv2 := hsv.out
    rw [if_pos rfl] at hsv2
    replace hsv2 := Lib.hid hsv2
    clear hC4 hsv hlv
    go_wp2
    go_ret2
    exact ⟨none, 0, 0, rfl, by rw [hsv2.out]; exact World.ownsRow_nil _ _ _ _, by rw [hsv2.out]; rfl, Nat.zero_le _, hE4⟩
  · have hsv2 := hsv.out
    rw [if_neg hl0] at hsv2
    obtain ⟨N, hNN⟩ : ∃ N, 2 ^ P.length = N := ⟨_, rfl⟩
    have hN8 : N ≤ 8 := by rw [← hNN]; exact pow3 hP3
    have hN1 : 1 ≤ N := by rw [← hNN]; exact Nat.two_pow_pos _
    have hshl : (1 : Int) * 2 ^ P.length = (N : Int) := by rw [← hNN]; norm_cast; omega
    have hshw : IntKind.i64.wrap ((2 : Int) ^ P.length) = (N : Int) := by
      rw [show (2 : Int) ^ P.length = (N : Int) by rw [← hNN]; norm_cast]
      exact IntWalk.i64_in _ (by omega)
    obtain ⟨hF, hhF⟩ : ∃ f, hitF (canC (comL V t P)) (lstP P) P.length (comL V t P).length = f := ⟨_, rfl⟩
    have hsF : shortF (canC (comL V t P)) (lstP P) P.length (comL V t P).length = bestF hF N := by unfold shortF; rw [hhF, hNN]
    rw [hsF] at hsv2
    have hhit : ∀ k, needF (canC (comL V t P)) (lstP P) P.length (comL V t P).length (bitX k) = lv ↔ hF k = true := fun k => by
      rw [← hhF, hlv.out]
      unfold hitF
      exact beq_iff_eq.symm
    have hlk : ∀ u (hu : Ext w4 u) (k : Nat), 0 < k → k < N → Calls Tryz.prog 64 #[.pointer (some ⟨cb, 0, none⟩), .int .i64 k] u fun e w' => e = .returned (.int .i64 (needF (canC (comL V t P)) (lstP P) P.length (comL V t P).length (bitX k))) ∧ Ext u w' := fun u hu k h0 hk => lacks_any (hC4.ext hu) k h0 (by rw [hNN]; exact hk)
    have hpr := fun u (hu : Ext w4 u) => hpar.out.ext (hE4.trans hu)
    replace hpr := Lib.hid hpr
    replace hNN := Lib.hid hNN
    have hlz : (lv == 0) = false := beq_false_of_ne hl0
    clear hl0
    replace hsv2 := Lib.hid hsv2
    replace hhit := Lib.hid hhit
    replace hlk := Lib.hid hlk
    clear hsv hlv hC4 hhF hsF hpar hN
    go_wp2
    go_loopw [13, 12] (fun v13 v12 wr => ∃ k : Nat, v13 = .int .i64 k ∧ 1 ≤ k ∧ k ≤ N ∧ v12 = .int .i64 (bestF hF k) ∧ Ext w4 wr) (fun v13 _ _ => N - (intOf v13).toNat)
    case atStart => exact ⟨1, rfl, Nat.le_refl _, hN1, by rw [bestF_one]; rfl, Ext.refl _⟩
    case round =>
      obtain ⟨k, rfl, hk1, hk, rfl, hE⟩ := hrel
      by_cases hkN : k < N
      · have hbl := bestF_lt hF k (by omega)
        have hnx : bestF hF (k + 1) = if k ≠ 0 ∧ hF k = true ∧ (bestF hF k = 0 ∨ betB k (bestF hF k) = true) then k else bestF hF k := rfl
        generalize bestF hF k = b at *
        have hkI : (k : Int) < N := by omega
        have hpk := numL_len k
        have hpb := numL_len b
        have ok := fun w => ones_any k (by omega) w
        have ob := fun w => ones_any b (by omega) w
        have nk := fun w => numbers_any k (by omega) w
        have nb := fun w => numbers_any b (by omega) w
        have hlk2 := fun u (hu : Ext wr u) => hlk.out u (hE.trans hu) k (by omega) hkN
        have hh2 := hhit.out k
        have hbt : betB k b = (decide ((numL k).length < (numL b).length) || (decide ((numL k).length = (numL b).length) && decide (lexN (numL k) (numL b) ≤ 0))) := rfl
        have szk := numL_sz k
        have szb := numL_sz b
        generalize needF (canC (comL V t P)) (lstP P) P.length (comL V t P).length (bitX k) = nd at *
        generalize hlk9 : numL k = Lk at *
        generalize hlb9 : numL b = Lb at *
        replace ok := Lib.hid ok
        replace ob := Lib.hid ob
        replace nk := Lib.hid nk
        replace nb := Lib.hid nb
        replace hlk2 := Lib.hid hlk2
        replace hnx := Lib.hid hnx
        replace hh2 := Lib.hid hh2
        replace hlk9 := Lib.hid hlk9
        replace hlb9 := Lib.hid hlb9
        replace szk := Lib.hid szk
        replace szb := Lib.hid szb
        have hcp : ∀ u p7 c7 p8 c8, Slc 1 natC u p7 Lk.length c7 Lk → Slc 1 natC u p8 Lb.length c8 Lb → Calls Tryz.prog 62 #[.slice p7 Lk.length c7, .slice p8 Lb.length c8] u fun e w' => e = .returned (.int .i64 (lexN Lk Lb)) ∧ Ext u w' := fun u p7 c7 p8 c8 h1 h2 => compareN_any Lk Lb p7 p8 c7 c8 u h1 h2 (by omega) (by omega) szk.out szb.out
        replace hcp := Lib.hid hcp
        by_cases hb0 : b = 0
        · have hor : b = 0 ∨ betB k b = true := .inl hb0
          replace hor := Lib.hid hor
          have hbI : ((b : Nat) : Int) = 0 := by omega
          have ob := ob.out
          rw [hbI] at ob
          replace ob := Lib.hid ob
          replace hb0 := Lib.hid hb0
          clear hbt
          go_upto_region 17 with (first
            | (go_at_call 61; (with_reducible refine Calls.mono (ok.out _) ?_); rintro e w6 ⟨rfl, rfl⟩)
            | (go_at_call 61; (with_reducible refine Calls.mono (ob.out _) ?_); rintro e w6 ⟨rfl, rfl⟩)
            | (go_at_call 63; (with_reducible refine Calls.mono (nk.out _) ?_); rintro e w7 ⟨v7, rfl, hown7, hb7⟩; obtain ⟨p7, c7, rfl, hs7⟩ := slc_of_own natC_len hown7 (by decide) (by omega))
            | (go_at_call 63; (with_reducible refine Calls.mono (nb.out _) ?_); rintro e w8 ⟨v8, rfl, hown8, hb8⟩; obtain ⟨p8, c8, rfl, hs8⟩ := slc_of_own natC_len hown8 (by decide) (by omega))
            | (go_at_call 62; (with_reducible refine Calls.mono (hcp.out _ p7 c7 p8 c8 (hs7.ext hb8) hs8) ?_); rintro e w9 ⟨rfl, hb9⟩))
          have hEu := Ext.refl wr
          have hE9 := hE.trans hEu
          cases hfk : hF k
          · have hne : (nd == lv) = false := beq_false_of_ne fun e => by rw [hh2.out.1 e] at hfk; cases hfk
            have hnx2 : bestF hF (k + 1) = b := by rw [hnx.out, if_neg (fun hc => by rw [hfk] at hc; cases hc.2.1)]
            replace hnx2 := Lib.hid hnx2
            replace hfk := Lib.hid hfk
            go_wp2_with (go_at_call 64; (with_reducible refine Calls.mono (hlk2.out _ hEu) ?_); rintro e w10 ⟨rfl, hb10⟩)
            go_roundw
            case rel => exact ⟨k + 1, by go_num, by omega, by omega, by rw [hnx2.out, hbI], hE9.trans hb10⟩
            case measure => simp [intOf]; omega
          · have hne : (nd == lv) = true := by rw [hh2.out.2 hfk]; exact beq_self_eq_true _
            have hnx2 : bestF hF (k + 1) = k := by rw [hnx.out, if_pos ⟨by omega, hfk, hor.out⟩]
            replace hnx2 := Lib.hid hnx2
            replace hfk := Lib.hid hfk
            go_wp2_with (go_at_call 64; (with_reducible refine Calls.mono (hlk2.out _ hEu) ?_); rintro e w10 ⟨rfl, hb10⟩)
            go_roundw
            case rel => exact ⟨k + 1, by go_num, by omega, by omega, by rw [hnx2.out], hE9.trans hb10⟩
            case measure => simp [intOf]; omega
        rcases Nat.lt_trichotomy Lk.length Lb.length with hcl | hcl | hcl
        · have hbt2 : betB k b = true := by rw [hbt]; simp [hcl]
          clear hbt
          replace hbt2 := Lib.hid hbt2
          go_upto_region 17 with (first
            | (go_at_call 61; (with_reducible refine Calls.mono (ok.out _) ?_); rintro e w6 ⟨rfl, rfl⟩)
            | (go_at_call 61; (with_reducible refine Calls.mono (ob.out _) ?_); rintro e w6 ⟨rfl, rfl⟩)
            | (go_at_call 63; (with_reducible refine Calls.mono (nk.out _) ?_); rintro e w7 ⟨v7, rfl, hown7, hb7⟩; obtain ⟨p7, c7, rfl, hs7⟩ := slc_of_own natC_len hown7 (by decide) (by omega))
            | (go_at_call 63; (with_reducible refine Calls.mono (nb.out _) ?_); rintro e w8 ⟨v8, rfl, hown8, hb8⟩; obtain ⟨p8, c8, rfl, hs8⟩ := slc_of_own natC_len hown8 (by decide) (by omega))
            | (go_at_call 62; (with_reducible refine Calls.mono (hcp.out _ p7 c7 p8 c8 (hs7.ext hb8) hs8) ?_); rintro e w9 ⟨rfl, hb9⟩))
          have hEu := Ext.refl wr
          have hE9 := hE.trans hEu
          cases hfk : hF k
          · have hne : (nd == lv) = false := beq_false_of_ne fun e => by rw [hh2.out.1 e] at hfk; cases hfk
            have hnx2 : bestF hF (k + 1) = b := by rw [hnx.out, if_neg (fun hc => by rw [hfk] at hc; cases hc.2.1)]
            replace hnx2 := Lib.hid hnx2
            replace hfk := Lib.hid hfk
            go_wp2_with (go_at_call 64; (with_reducible refine Calls.mono (hlk2.out _ hEu) ?_); rintro e w10 ⟨rfl, hb10⟩)
            go_roundw
            case rel => exact ⟨k + 1, by go_num, by omega, by omega, by rw [hnx2.out], hE9.trans hb10⟩
            case measure => simp [intOf]; omega
          · have hne : (nd == lv) = true := by rw [hh2.out.2 hfk]; exact beq_self_eq_true _
            have hnx2 : bestF hF (k + 1) = k := by rw [hnx.out, if_pos ⟨by omega, hfk, .inr hbt2.out⟩]
            replace hnx2 := Lib.hid hnx2
            replace hfk := Lib.hid hfk
            go_wp2_with (go_at_call 64; (with_reducible refine Calls.mono (hlk2.out _ hEu) ?_); rintro e w10 ⟨rfl, hb10⟩)
            go_roundw
            case rel => exact ⟨k + 1, by go_num, by omega, by omega, by rw [hnx2.out], hE9.trans hb10⟩
            case measure => simp [intOf]; omega
        · have hcp := hcp.out
          have ok := ok.out
          have nk := nk.out
          rw [hcl] at hcp ok nk
          obtain ⟨lx, hlx9⟩ : ∃ lx, lexN Lk Lb = lx := ⟨_, rfl⟩
          rw [hlx9] at hcp hbt
          replace hcp := Lib.hid hcp
          replace ok := Lib.hid ok
          replace nk := Lib.hid nk
          by_cases hlx : lx ≤ 0
          · have hbt2 : betB k b = true := by rw [hbt]; simp [hcl, hlx]
            clear hbt
            replace hbt2 := Lib.hid hbt2
            replace hcl := Lib.hid hcl
            replace hlx9 := Lib.hid hlx9
            go_upto_region 17 with (first
              | (go_at_call 61; (with_reducible refine Calls.mono (ok.out _) ?_); rintro e w6 ⟨rfl, rfl⟩)
              | (go_at_call 61; (with_reducible refine Calls.mono (ob.out _) ?_); rintro e w6 ⟨rfl, rfl⟩)
              | (go_at_call 63; (with_reducible refine Calls.mono (nk.out _) ?_); rintro e w7 ⟨v7, rfl, hown7, hb7⟩; obtain ⟨p7, c7, rfl, hs7⟩ := slc_of_own natC_len hown7 (by decide) (by omega))
              | (go_at_call 63; (with_reducible refine Calls.mono (nb.out _) ?_); rintro e w8 ⟨v8, rfl, hown8, hb8⟩; obtain ⟨p8, c8, rfl, hs8⟩ := slc_of_own natC_len hown8 (by decide) (by omega))
              | (go_at_call 62; (with_reducible refine Calls.mono (hcp.out _ p7 c7 p8 c8 (hs7.ext hb8) hs8) ?_); rintro e w9 ⟨rfl, hb9⟩))
            have hEu := (hb7.trans hb8).trans hb9
            have hE9 := hE.trans hEu
            cases hfk : hF k
            · have hne : (nd == lv) = false := beq_false_of_ne fun e => by rw [hh2.out.1 e] at hfk; cases hfk
              have hnx2 : bestF hF (k + 1) = b := by rw [hnx.out, if_neg (fun hc => by rw [hfk] at hc; cases hc.2.1)]
              replace hnx2 := Lib.hid hnx2
              replace hfk := Lib.hid hfk
              go_wp2_with (go_at_call 64; (with_reducible refine Calls.mono (hlk2.out _ hEu) ?_); rintro e w10 ⟨rfl, hb10⟩)
              go_roundw
              case rel => exact ⟨k + 1, by go_num, by omega, by omega, by rw [hnx2.out], hE9.trans hb10⟩
              case measure => simp [intOf]; omega
            · have hne : (nd == lv) = true := by rw [hh2.out.2 hfk]; exact beq_self_eq_true _
              have hnx2 : bestF hF (k + 1) = k := by rw [hnx.out, if_pos ⟨by omega, hfk, .inr hbt2.out⟩]
              replace hnx2 := Lib.hid hnx2
              replace hfk := Lib.hid hfk
              go_wp2_with (go_at_call 64; (with_reducible refine Calls.mono (hlk2.out _ hEu) ?_); rintro e w10 ⟨rfl, hb10⟩)
              go_roundw
              case rel => exact ⟨k + 1, by go_num, by omega, by omega, by rw [hnx2.out], hE9.trans hb10⟩
              case measure => simp [intOf]; omega
          · have hbt2 : betB k b = false := by rw [hbt]; simp [hcl, hlx]
            replace hbt := hbt2
            replace hcl := Lib.hid hcl
            replace hlx9 := Lib.hid hlx9
            have hnx2 : bestF hF (k + 1) = b := by rw [hnx.out, if_neg (fun hc => hc.2.2.elim hb0 fun e => by rw [hbt] at e; cases e)]
            replace hnx2 := Lib.hid hnx2
            replace hbt := Lib.hid hbt
            go_wp2_with (first
              | (go_at_call 61; (with_reducible refine Calls.mono (ok.out _) ?_); rintro e w6 ⟨rfl, rfl⟩)
              | (go_at_call 61; (with_reducible refine Calls.mono (ob.out _) ?_); rintro e w6 ⟨rfl, rfl⟩)
              | (go_at_call 63; (with_reducible refine Calls.mono (nk.out _) ?_); rintro e w7 ⟨v7, rfl, hown7, hb7⟩; obtain ⟨p7, c7, rfl, hs7⟩ := slc_of_own natC_len hown7 (by decide) (by omega))
              | (go_at_call 63; (with_reducible refine Calls.mono (nb.out _) ?_); rintro e w8 ⟨v8, rfl, hown8, hb8⟩; obtain ⟨p8, c8, rfl, hs8⟩ := slc_of_own natC_len hown8 (by decide) (by omega))
              | (go_at_call 62; (with_reducible refine Calls.mono (hcp.out _ p7 c7 p8 c8 (hs7.ext hb8) hs8) ?_); rintro e w9 ⟨rfl, hb9⟩))
            go_roundw
            case rel => exact ⟨k + 1, by go_num, by omega, by omega, by rw [hnx2.out], ((hE.trans hb7).trans hb8).trans hb9⟩
            case measure => simp [intOf]; omega
        · have hbt2 : betB k b = false := by rw [hbt]; simp; omega
          replace hbt := hbt2
          have hnx2 : bestF hF (k + 1) = b := by rw [hnx.out, if_neg (fun hc => hc.2.2.elim hb0 fun e => by rw [hbt] at e; cases e)]
          replace hnx2 := Lib.hid hnx2
          replace hbt := Lib.hid hbt
          go_wp2_with (first
            | (go_at_call 61; (with_reducible refine Calls.mono (ok.out _) ?_); rintro e w6 ⟨rfl, rfl⟩)
            | (go_at_call 61; (with_reducible refine Calls.mono (ob.out _) ?_); rintro e w6 ⟨rfl, rfl⟩)
            | (go_at_call 63; (with_reducible refine Calls.mono (nk.out _) ?_); rintro e w7 ⟨v7, rfl, hown7, hb7⟩; obtain ⟨p7, c7, rfl, hs7⟩ := slc_of_own natC_len hown7 (by decide) (by omega))
            | (go_at_call 63; (with_reducible refine Calls.mono (nb.out _) ?_); rintro e w8 ⟨v8, rfl, hown8, hb8⟩; obtain ⟨p8, c8, rfl, hs8⟩ := slc_of_own natC_len hown8 (by decide) (by omega))
            | (go_at_call 62; (with_reducible refine Calls.mono (hcp.out _ p7 c7 p8 c8 (hs7.ext hb8) hs8) ?_); rintro e w9 ⟨rfl, hb9⟩))
          go_roundw
          case rel => exact ⟨k + 1, by go_num, by omega, by omega, by rw [hnx2.out], hE⟩
          case measure => simp [intOf]; omega
      · obtain rfl : k = N := by omega
        have hbl := bestF_lt hF k (by omega)
        generalize bestF hF k = b at *
        have nb := fun w => numbers_any b (by omega) w
        have hlt := numL_lt hP (show b < 2 ^ P.length by rw [hNN.out]; exact hbl)
        have hLl := numL_len b
        have hnm : namesF P b = (numL b).map fun i => (P.getD i default).name := rfl
        have hnl : (namesF P b).length = (numL b).length := by rw [hnm, List.length_map]
        generalize numL b = L at *
        have hat : ∀ (j i : Nat) (x : PartV), L[j]? = some i → P[i]? = some x → (namesF P b)[j]? = some x.name := fun j i x hj hx => by
          rw [hnm, List.getElem?_map, hj]
          simp [hx]
        generalize namesF P b = T at *
        replace nb := Lib.hid nb
        replace hlt := Lib.hid hlt
        replace hat := Lib.hid hat
        replace hnl := Lib.hid hnl
        clear hnm hlk hhit
        go_upto_region 19 with fail
        have hnb2 := nb.out wr
        replace hnb2 := Lib.hid hnb2
        generalize wr = W10 at *
        go_wp2_with (go_at_call 63; (with_reducible refine Calls.mono (hnb2.out) ?_); rintro e w7 ⟨v7, rfl, hown7, hb7⟩; obtain ⟨p7, c7, rfl, hs7⟩ := slc_of_own natC_len hown7 (by decide) (by omega))
        have hE7 := hE.trans hb7
        clear hown7 hb7 hnb2 nb
        go_loopw [79, 15] (fun v79 v15 wr => ∃ (j : Nat) (v : Value), v79 = .int .i64 j ∧ v15 = v ∧ j ≤ L.length ∧ wr.ownsRow w7.heap.size 9 1 v j ((T.take j).flatMap strC) ∧ Ext w7 wr) (fun v79 _ _ => L.length - (intOf v79).toNat)
        case atStart => exact ⟨0, _, rfl, rfl, Nat.zero_le _, World.ownsRow_nil _ _ _ _, Ext.refl _⟩
        case round =>
          obtain ⟨j, v, rfl, rfl, hj, hown, hE8⟩ := hrel
          by_cases hjl : j < L.length
          · obtain ⟨i, hi⟩ := getD_some (rfl : L.length = L.length) hjl
            have hil := hlt.out i (List.mem_of_getElem? hi)
            obtain ⟨x, hx⟩ := getD_some (rfl : P.length = P.length) hil
            obtain ⟨-, ⟨_, rfl⟩ | ⟨nb2, noff, rfl, hnb2, hnE⟩⟩ := slcC (hs7.ext hE8)
            · cases hi
            obtain ⟨-, ⟨_, rfl⟩ | ⟨pb, poff, rfl, hpb, hpE⟩⟩ := slcC (hpr.out _ (hE7.trans hE8))
            · cases hx
            have d0 := hnE j i hi 0 _ rfl
            simp only [Nat.mul_one, Nat.add_zero] at d0
            obtain ⟨c0, -, -, -, -⟩ := hpE.part hx
            have hT := hat.out j i x hi hx
            have hnx : (T.take (j + 1)).flatMap strC = (T.take j).flatMap strC ++ strC x.name := by rw [take_snocL hT, flat_snoc]
            have hjI : (j : Int) < L.length := by omega
            have hiI : (i : Int) < P.length := by omega
            replace hnx := Lib.hid hnx
            replace hi := Lib.hid hi
            replace hx := Lib.hid hx
            replace hT := Lib.hid hT
            clear hnE hpE
            go_wp2_with (at_builtin; go_loud (refine wp_app1 _ (.tmp 83) (.tmp 89) 37 9 1 16 _ rfl rfl Tryz.underlying37 strInfo rfl (by decide) (by decide) w7.heap.size _ j _ rfl (hown.alloc _) wr.heap.size (strC x.name) rfl rfl (Blk.new' rfl) (by simp [strC, Value.oneCell']) (by omega) (by have := hE8.size; simp; omega) ?_; intro v' w6 hown6 hgrow6 _))
            have hE6 := (hE8.alloc _).app (hown.alloc _) (Nat.le_refl _) hgrow6
            go_roundw
            case rel => exact ⟨j + 1, v', by go_num, rfl, by omega, by rw [hnx.out]; exact hown6, hE6⟩
            case measure => simp [intOf]; omega
          · obtain rfl : j = L.length := by omega
            have hTf : T.take L.length = T := List.take_of_length_le (by rw [hnl.out]; exact Nat.le_refl _)
            rw [hTf] at hown
            obtain ⟨q, d, rfl, -⟩ := slc_of_own (enc := strC) (fun _ => rfl) hown (by decide) (by omega)
            have hEf := hE4.trans (hE7.trans hE8)
            have hS := own_low hown (hE4.trans hE7).size
            replace hS := Lib.hid hS
            clear hown
            go_wp2
            go_ret2
            exact ⟨q, L.length, d, rfl, by rw [hsv2.out]; exact hS.out, by rw [hsv2.out]; exact hnl.out, by omega, hEf⟩
end Go.Proofs.YtdehmioobkneiaaGreatDoor
