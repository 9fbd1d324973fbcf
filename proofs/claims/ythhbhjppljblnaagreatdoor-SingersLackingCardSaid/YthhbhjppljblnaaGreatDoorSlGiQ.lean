/- The parts that are short, by the document. Conditions: sizes; at most three parts. -/
import Derived.Test.YthhbhjppljblnaaGreatDoorSlGiP
set_option linter.unusedSimpArgs false
set_option linter.unusedVariables false
namespace Go.Proofs.YthhbhjppljblnaaGreatDoor
open Go Go.RowKit

theorem orInt2 (g cap : Nat) (x y : Int) (w : World) (hb : Blk w g 3 #[.int .i64 x, .int .i64 y]) :
    Calls Tryz.prog 49 #[.slice (some ⟨g, 0, none⟩) 2 cap] w fun e w' => e = .returned (.int .i64 (orF [x, y])) ∧ w = w' := orInt_blk g _ cap [x, y] w (by simp) hb
set_option maxRecDepth 100000 in
set_option maxHeartbeats 6400000 in
theorem shortOf_any {w : World} {vp pp : Option Addr} {vc pc : Nat} {V : List VoiceV} {P : List PartV} (h : VpM w vp vc V pp pc P) (t : Int) (hP3 : P.length ≤ 3) (hN : ∀ x ∈ P, 0 ≤ x.least ∧ x.least ≤ 1000) :
    Calls Tryz.prog 27 #[.slice vp V.length vc, .slice pp P.length pc, .int .i64 t] w fun e w' => ∃ (q : Option Addr) (m d : Nat), e = .returned (.slice q m d) ∧ Slc 1 strC w' q m d (shortV V P t) ∧ Ext w w' := by
  have hP : P.length ≤ 12 := by omega
  have hab := able_any h t
  have hlo := fun u (hu : Ext w u) => lackingOf_any (h.more hu) t hP hN
  have hsv : shortV V P t = if lackV V P t = 0 then [] else namesF P (shortF (canC (comL V t P)) (lstP P) P.length (comL V t P).length) := rfl
  have hnV := h.nV
  have hnd := fun u (hu : Ext w u) (cp : Option Addr) (cc : Nat) (hR : RowsR boolC u cp (canBL V t P).length cc (canBL V t P)) set hset => neededV_any (V := V) (t := t) (h.par.ext hu) hR hP hnV hN set hset
  have hlv : lackV V P t = lackF (canC (comL V t P)) (lstP P) P.length (comL V t P).length := rfl
  have hpar := h.par
  obtain ⟨lv, hlw⟩ : ∃ lv, lackV V P t = lv := ⟨_, rfl⟩
  rw [hlw] at hlv hsv hlo
  replace hab := Lib.hid hab
  replace hlo := Lib.hid hlo
  replace hsv := Lib.hid hsv
  replace hlw := Lib.hid hlw
  replace hnd := Lib.hid hnd
  replace hpar := Lib.hid hpar
  go_enter Tryz.func27, Tryz.ntmps27
  by_cases hl0 : lv = 0
  · subst hl0
    have hsv2 := hsv.out
    rw [if_pos rfl] at hsv2
    replace hsv2 := Lib.hid hsv2
    clear hnd hsv hlv hN h
    go_wp2_with (first
      | (go_at_call 73; (with_reducible refine Calls.mono hab.out ?_); rintro e w1 ⟨cp, cc, rfl, hR, hb1⟩; replace hR := Lib.hid hR)
      | (go_at_call 26; (with_reducible refine Calls.mono (hlo.out _ hb1) ?_); rintro e w2 ⟨rfl, hb2⟩))
    go_ret
    exact ⟨none, 0, 0, rfl, by rw [hsv2.out]; exact Slc.nil _ _ _, hb1.trans hb2⟩
  · have hsv2 := hsv.out
    rw [if_neg hl0] at hsv2
    obtain ⟨N, hNN⟩ : ∃ N, 2 ^ P.length = N := ⟨_, rfl⟩
    have hN8 : N ≤ 8 := by rw [← hNN]; exact pow3 hP3
    have hN1 : 1 ≤ N := by rw [← hNN]; exact Nat.two_pow_pos _
    have hshw : IntKind.i64.wrap ((2 : Int) ^ P.length) = (N : Int) := by
      rw [show (2 : Int) ^ P.length = (N : Int) by rw [← hNN]; norm_cast]
      exact IntWalk.i64_in _ (by omega)
    obtain ⟨hF, hhF⟩ : ∃ f, hitF (canC (comL V t P)) (lstP P) P.length (comL V t P).length = f := ⟨_, rfl⟩
    have hF0 : hF 0 = false := by rw [← hhF]; exact hit_none (by rw [← hlv]; exact hl0)
    have hsF : shortF (canC (comL V t P)) (lstP P) P.length (comL V t P).length = bestR hF N := by unfold shortF; rw [hhF, hNN, bestR_is hF0 N hN8]
    rw [hsF] at hsv2
    have hhit : ∀ k, needV V t P k = lv ↔ hF k = true := fun k => by
      rw [← hhF, hlv]
      unfold hitF needV
      exact beq_iff_eq.symm
    have hlz : (lv == 0) = false := beq_false_of_ne hl0
    clear hl0 hhF hsF hsv hN h hlv
    generalize needV V t P = nv at *
    generalize hBL : canBL V t P = BL at *
    replace hsv2 := Lib.hid hsv2
    replace hhit := Lib.hid hhit
    replace hNN := Lib.hid hNN
    replace hF0 := Lib.hid hF0
    replace hBL := Lib.hid hBL
    go_upto_region 4 with (first
      | (go_at_call 73; (with_reducible refine Calls.mono hab.out ?_); rintro e w1 ⟨cp, cc, rfl, hR, hb1⟩; replace hR := Lib.hid hR)
      | (go_at_call 26; (with_reducible refine Calls.mono (hlo.out _ hb1) ?_); rintro e w2 ⟨rfl, hb2⟩))
    have hE2 := hb1.trans hb2
    have hR2 := hR.out.ext hb2
    have hnd2 := fun u (hu : Ext w2 u) set hset => hnd.out u (hE2.trans hu) cp cc (hR2.ext hu) set hset
    replace hnd2 := Lib.hid hnd2
    clear hab hlo hnd hR hR2 hb1 hb2
    go_wp2
    go_loopw [29, 9] (fun v29 v9 wr => ∃ (k : Nat) (v : Value), v29 = .int .i64 k ∧ v9 = v ∧ k ≤ N ∧ wr.ownsRow w2.heap.size 3 1 v (numL (bestR hF k)).length ((numL (bestR hF k)).flatMap natC) ∧ (bestR hF k = 0 → v = .slice none 0 0) ∧ Ext w2 wr) (fun v29 _ _ => N - (intOf v29).toNat)
    case atStart =>
      have hn0 : numL (bestR hF 0) = [] := by show numL 0 = []; decide +kernel
      exact ⟨0, _, rfl, rfl, Nat.zero_le _, by rw [hn0]; exact World.ownsRow_nil _ _ _ _, fun _ => rfl, Ext.refl _⟩
    case round =>
      obtain ⟨k, v, rfl, rfl, hk, hown, hnil, hE⟩ := hrel
      by_cases hkN : k < N
      · have hnx : bestR hF (k + 1) = if hF k = true ∧ (bestR hF k = 0 ∨ betR k (bestR hF k) = true) then k else bestR hF k := rfl
        have hbl : bestR hF k ≤ k := by
          rcases Nat.eq_zero_or_pos k with rfl | h0
          · exact Nat.le_refl _
          · exact Nat.le_of_lt (bestR_lt k h0)
        generalize bestR hF k = b at *
        have hkI : (k : Int) < N := by omega
        have hpk := numL_len k
        have hpb := numL_len b
        have hin := numL_in (n := P.length) (set := k) hP (by rw [hNN.out]; exact hkN)
        have hbe := betR_or k b
        have szk := numL_sz k
        have szb := numL_sz b
        have hnb0 : b ≠ 0 → numL b ≠ [] := fun h0 => numL_ne hP (by omega) (by rw [hNN.out]; omega)
        have hh2 := hhit.out k
        have hlx := lexN_in (numL k) (numL b)
        generalize hlk9 : numL k = Lk at *
        generalize hlb9 : numL b = Lb at *
        generalize wr = W10 at *
        replace hnx := Lib.hid hnx
        replace hh2 := Lib.hid hh2
        replace hlk9 := Lib.hid hlk9
        replace hlb9 := Lib.hid hlb9
        replace szk := Lib.hid szk
        replace szb := Lib.hid szb
        replace hin := Lib.hid hin
        replace hbe := Lib.hid hbe
        replace hown := Lib.hid hown
        replace hnil := Lib.hid hnil
        replace hnb0 := Lib.hid hnb0
        go_wp2
        go_loopw [34, 11] (fun v34 v11 wr => ∃ (j : Nat) (u : Value) (T : List Nat), v34 = .int .i64 j ∧ v11 = u ∧ j ≤ P.length ∧ T = (List.range j).filter (bitX k) ∧ wr.ownsRow W10.heap.size 3 1 u T.length (T.flatMap natC) ∧ Ext W10 wr) (fun v34 _ _ => P.length - (intOf v34).toNat)
        case atStart => exact ⟨0, _, _, rfl, rfl, Nat.zero_le _, rfl, World.ownsRow_nil _ _ _ _, Ext.refl _⟩
        case round =>
          obtain ⟨j, u, T, rfl, rfl, hj, hT, hownT, hE10⟩ := hrel
          have hTl : T.length ≤ j := by rw [hT]; exact bits_len _ _
          by_cases hjl : j < P.length
          · obtain ⟨q, hq⟩ : ∃ q, k / 2 ^ j = q := ⟨_, rfl⟩
            have hsh : (k : Int) / 2 ^ j = (q : Int) := by rw [← hq]; norm_cast
            have hq8 : q ≤ 4096 := by rw [← hq]; exact Nat.le_trans (Nat.div_le_self _ _) (by omega)
            have hup := bits_up k j
            have hbd := bit_div k j
            rw [hq] at hbd
            rw [← hT] at hup
            have htm : (q : Int).tmod 2 = (q : Int) % 2 := Int.tmod_eq_emod_of_nonneg (by omega)
            have hjI : (j : Int) < P.length := by omega
            replace hq := Lib.hid hq
            replace hT := Lib.hid hT
            cases hbb : bitX k j
            · rw [hbb] at hup hbd
              have hq2 : (q : Int) % 2 = 0 := by
                have : ¬ q % 2 = 1 := fun e => by rw [e] at hbd; simp at hbd
                omega
              rw [hq2] at htm
              simp only [Bool.false_eq_true, if_false, List.append_nil] at hup
              replace hownT := Lib.hid hownT
              replace hup := Lib.hid hup
              replace hbb := Lib.hid hbb
              clear hbd
              go_wp2
              go_roundw
              case rel => exact ⟨j + 1, u11, T, by go_num, rfl, by omega, hup.out.symm, hownT.out, hE10⟩
              case measure => simp [intOf]; omega
            · rw [hbb] at hup hbd
              have hq2 : (q : Int) % 2 = 1 := by
                have := of_decide_eq_true hbd.symm
                omega
              rw [hq2] at htm
              simp only [if_true] at hup
              replace hup := Lib.hid hup
              replace hbb := Lib.hid hbb
              clear hbd
              go_wp2_with (at_builtin; go_loud (refine wp_app1 _ (.tmp 42) (.tmp 44) 22 3 1 8 _ rfl rfl Tryz.underlying22 intInfo rfl (by decide) (by decide) W10.heap.size _ _ _ rfl (hownT.alloc _) wr.heap.size (natC j) rfl rfl (Blk.new' rfl) (by simp [natC, Value.oneCell']) (by omega) (by have := hE10.size; simp; omega) ?_; intro v' w6 hown6 hgrow6 _))
              have hE6 := (hE10.alloc _).app (hownT.alloc _) (Nat.le_refl _) hgrow6
              go_roundw
              case rel => exact ⟨j + 1, v', T ++ [j], by go_num, rfl, by omega, hup.out.symm, by rw [List.length_append, List.length_singleton, flat_snoc]; exact hown6, hE6⟩
              case measure => simp [intOf]; omega
          · obtain rfl : j = P.length := by omega
            rw [← hin.out] at hT
            subst hT
            have hE11 := hE.trans hE10
            have hnd3 := hnd2.out wr hE11 k (by omega)
            have hown11 := own_ext hE10 hown.out
            obtain ⟨q11, c11, rfl, hs11⟩ := slc_of_own natC_len hownT (by decide) (by omega)
            have hownK := own_lowV (base := w2.heap.size) hownT hE.size
            generalize nv k = nk at *
            replace hnd3 := Lib.hid hnd3
            replace hown11 := Lib.hid hown11
            replace hownK := Lib.hid hownK
            replace hs11 := Lib.hid hs11
            clear hownT hown
            cases hfk : hF k
            · have hne : (nk == lv) = false := beq_false_of_ne fun e => by rw [hh2.out.1 e] at hfk; cases hfk
              have hnx2 : bestR hF (k + 1) = b := by rw [hnx.out, if_neg (fun hc => by rw [hfk] at hc; cases hc.1)]
              replace hnx2 := Lib.hid hnx2
              replace hfk := Lib.hid hfk
              go_wp2_with (go_at_call 74; (with_reducible refine Calls.mono hnd3.out ?_); rintro e w8 ⟨rfl, hb8⟩)
              go_roundw
              case rel => exact ⟨k + 1, u9, by go_num, rfl, by omega, by rw [hnx2.out, hlb9.out]; exact own_ext hb8 hown11.out, by rw [hnx2.out]; exact hnil.out, hE11.trans hb8⟩
              case measure => simp [intOf]; omega
            · have hne : (nk == lv) = true := by rw [hh2.out.2 hfk]; exact beq_self_eq_true _
              have hk0 : k ≠ 0 := fun e => by subst e; rw [hF0.out] at hfk; cases hfk
              by_cases hb0 : b = 0
              · have hnx2 : bestR hF (k + 1) = k := by rw [hnx.out, if_pos ⟨hfk, .inl hb0⟩]
                obtain rfl := hnil.out hb0
                have hnn : ∀ w, (binOp .eql 22 (.slice none 0 0) (.slice none 0 0)).run Tryz.prog w = .ok (.bool true) w := fun w => Lib.run_eql_slice_nil w _ _ none 0 0 0 0 Tryz.underlying22
                replace hnx2 := Lib.hid hnx2
                replace hfk := Lib.hid hfk
                replace hb0 := Lib.hid hb0
                replace hk0 := Lib.hid hk0
                go_wp2_with (go_at_call 74; (with_reducible refine Calls.mono hnd3.out ?_); rintro e w8 ⟨rfl, hb8⟩)
                go_roundw
                case rel => exact ⟨k + 1, _, by go_num, rfl, by omega, by rw [hnx2.out, hlk9.out]; exact own_ext hb8 hownK.out, by rw [hnx2.out]; exact fun e => absurd e hk0.out, hE11.trans hb8⟩
                case measure => simp [intOf]; omega
              · have hLb0 : 0 < Lb.length := List.length_pos_iff.2 (hnb0.out hb0)
                obtain ⟨b9, c9, rfl, hb9, hb9w⟩ := hown11.out.form hLb0
                obtain ⟨q9, d9, e9, hs9⟩ := slc_of_own natC_len hown11.out (by decide) (by omega)
                cases e9
                have hnn : ∀ w, (binOp .eql 22 (.slice (some ⟨b9, 0, none⟩) Lb.length c9) (.slice none 0 0)).run Tryz.prog w = .ok (.bool false) w := fun w => Lib.run_eql_slice_nil w _ _ (some ⟨b9, 0, none⟩) Lb.length c9 0 0 Tryz.underlying22
                have hcmz := fun u => vcmpI_any (T.length : Int) (Lb.length : Int) u
                have hcpn := fun u (hu : Ext wr u) => compareN_any T Lb q11 (some ⟨b9, 0, none⟩) c11 c9 u (hs11.out.ext hu) (hs9.ext hu) (by omega) (by omega) szk.out szb.out
                generalize cmpZ (T.length : Int) (Lb.length : Int) = x1 at *
                generalize lexN T Lb = x2 at *
                have hor := fun u g cap hB => orInt2 g cap x1 x2 u hB
                generalize hrv : orF [x1, x2] = rv at *
                have hbe2 := hbe.out
                replace hrv := Lib.hid hrv
                replace hcmz := Lib.hid hcmz
                replace hcpn := Lib.hid hcpn
                replace hor := Lib.hid hor
                replace hk0 := Lib.hid hk0
                clear hbe hs9
                cases hbt : betR k b
                · have hnx2 : bestR hF (k + 1) = b := by rw [hnx.out, if_neg (fun hc => hc.2.elim hb0 fun e => by rw [hbt] at e; cases e)]
                  rw [hbt] at hbe2
                  have hrn : ¬ rv < 0 := of_decide_eq_false hbe2
                  replace hnx2 := Lib.hid hnx2
                  replace hfk := Lib.hid hfk
                  replace hbt := Lib.hid hbt
                  clear hbe2
                  go_wp2_with (first
                    | (go_at_call 74; (with_reducible refine Calls.mono hnd3.out ?_); rintro e w8 ⟨rfl, hb8⟩)
                    | (go_at_call 51; (with_reducible refine Calls.mono (hcmz.out _) ?_); rintro e w9 ⟨rfl, hb9x⟩)
                    | (go_at_call 69; (with_reducible refine Calls.mono (hcpn.out _ (hb8.trans hb9x)) ?_); rintro e w10 ⟨rfl, hb10⟩)
                    | (go_at_call 49; refine Calls.mono (hor.out _ _ _ (by exact Blk.new' rfl)) ?_; rintro e w11 ⟨rfl, rfl⟩))
                  have hEz := ((hb8.trans hb9x).trans hb10).alloc (.cells #[.int .i64 x1, .int .i64 x2] 3)
                  go_roundw
                  case rel => exact ⟨k + 1, _, by go_num, rfl, by omega, by rw [hnx2.out, hlb9.out]; exact own_ext hEz hown11.out, by rw [hnx2.out]; exact fun e => absurd e hb0, hE11.trans hEz⟩
                  case measure => simp [intOf]; omega
                · have hnx2 : bestR hF (k + 1) = k := by rw [hnx.out, if_pos ⟨hfk, .inr hbt⟩]
                  rw [hbt] at hbe2
                  have hrn : rv < 0 := of_decide_eq_true hbe2
                  replace hnx2 := Lib.hid hnx2
                  replace hfk := Lib.hid hfk
                  replace hbt := Lib.hid hbt
                  clear hbe2
                  go_wp2_with (first
                    | (go_at_call 74; (with_reducible refine Calls.mono hnd3.out ?_); rintro e w8 ⟨rfl, hb8⟩)
                    | (go_at_call 51; (with_reducible refine Calls.mono (hcmz.out _) ?_); rintro e w9 ⟨rfl, hb9x⟩)
                    | (go_at_call 69; (with_reducible refine Calls.mono (hcpn.out _ (hb8.trans hb9x)) ?_); rintro e w10 ⟨rfl, hb10⟩)
                    | (go_at_call 49; refine Calls.mono (hor.out _ _ _ (by exact Blk.new' rfl)) ?_; rintro e w11 ⟨rfl, rfl⟩))
                  have hEz := ((hb8.trans hb9x).trans hb10).alloc (.cells #[.int .i64 x1, .int .i64 x2] 3)
                  go_roundw
                  case rel => exact ⟨k + 1, _, by go_num, rfl, by omega, by rw [hnx2.out, hlk9.out]; exact own_ext hEz hownK.out, by rw [hnx2.out]; exact fun e => absurd e hk0.out, hE11.trans hEz⟩
                  case measure => simp [intOf]; omega
      · obtain rfl : k = N := by omega
        have hbl := bestR_lt (h := hF) k (by omega)
        generalize bestR hF k = b at *
        have hlt := numL_lt hP (show b < 2 ^ P.length by rw [hNN.out]; exact hbl)
        have hLl := numL_len b
        have hnm : namesF P b = (numL b).map fun i => (P.getD i default).name := rfl
        have hnl : (namesF P b).length = (numL b).length := by rw [hnm, List.length_map]
        generalize numL b = L at *
        have hat : ∀ (j i : Nat) (x : PartV), L[j]? = some i → P[i]? = some x → (namesF P b)[j]? = some x.name := fun j i x hj hx => by
          rw [hnm, List.getElem?_map, hj]
          simp [hx]
        generalize namesF P b = T at *
        obtain ⟨p7, c7, rfl, hs7⟩ := slc_of_own natC_len hown (by decide) (by omega)
        replace hlt := Lib.hid hlt
        replace hat := Lib.hid hat
        replace hnl := Lib.hid hnl
        replace hs7 := Lib.hid hs7
        clear hnm hown hnil hnd2
        generalize wr = W10 at *
        go_wp2
        go_loopw [74, 13] (fun v74 v13 wr => ∃ (j : Nat) (v : Value), v74 = .int .i64 j ∧ v13 = v ∧ j ≤ L.length ∧ wr.ownsRow W10.heap.size 9 1 v j ((T.take j).flatMap strC) ∧ Ext W10 wr) (fun v74 _ _ => L.length - (intOf v74).toNat)
        case atStart => exact ⟨0, _, rfl, rfl, Nat.zero_le _, World.ownsRow_nil _ _ _ _, Ext.refl _⟩
        case round =>
          obtain ⟨j, v, rfl, rfl, hj, hown, hE8⟩ := hrel
          by_cases hjl : j < L.length
          · obtain ⟨i, hi⟩ := getD_some (rfl : L.length = L.length) hjl
            have hil := hlt.out i (List.mem_of_getElem? hi)
            obtain ⟨x, hx⟩ := getD_some (rfl : P.length = P.length) hil
            obtain ⟨-, ⟨_, rfl⟩ | ⟨nb2, noff, rfl, hnb2, hnE⟩⟩ := slcC (hs7.out.ext hE8)
            · cases hi
            obtain ⟨-, ⟨_, rfl⟩ | ⟨pb, poff, rfl, hpb, hpE⟩⟩ := slcC ((((hpar.out.ext hE2).ext hE)).ext hE8)
            · cases hx
            have d0 := hnE j i hi 0 _ rfl
            simp only [Nat.mul_one, Nat.add_zero] at d0
            obtain ⟨c0, -, -, -, -⟩ := hpE.part hx
            have hT := hat.out j i x hi hx
            have hnx : (T.take (j + 1)).flatMap strC = (T.take j).flatMap strC ++ strC x.name := by rw [take_snocL hT, flat_snoc]
            have hjI : (j : Int) < L.length := by omega
            have hiI : (i : Int) < P.length := by omega
            replace hnx := Lib.hid hnx
            replace hi := Lib.hid hi
            replace hx := Lib.hid hx
            replace hT := Lib.hid hT
            clear hnE hpE
            go_wp2_with (at_builtin; go_loud (refine wp_app1 _ (.tmp 78) (.tmp 84) 39 9 1 16 _ rfl rfl Tryz.underlying39 strInfo rfl (by decide) (by decide) W10.heap.size _ j _ rfl (hown.alloc _) wr.heap.size (strC x.name) rfl rfl (Blk.new' rfl) (by simp [strC, Value.oneCell']) (by omega) (by have := hE8.size; simp; omega) ?_; intro v' w6 hown6 hgrow6 _))
            have hE6 := (hE8.alloc _).app (hown.alloc _) (Nat.le_refl _) hgrow6
            go_roundw
            case rel => exact ⟨j + 1, v', by go_num, rfl, by omega, by rw [hnx.out]; exact hown6, hE6⟩
            case measure => simp [intOf]; omega
          · obtain rfl : j = L.length := by omega
            have hTf : T.take L.length = T := List.take_of_length_le (by rw [hnl.out]; exact Nat.le_refl _)
            rw [hTf] at hown
            obtain ⟨q, d, rfl, hS⟩ := slc_of_own (enc := strC) (fun _ => rfl) hown (by decide) (by omega)
            have hEf := hE2.trans (hE.trans hE8)
            replace hS := Lib.hid hS
            clear hown
            go_wp2
            go_ret
            exact ⟨q, L.length, d, rfl, by rw [hsv2.out]; exact hS.out, hEf⟩
end Go.Proofs.YthhbhjppljblnaaGreatDoor
