/- Who can sing which part, by the document. Conditions: sizes. -/
import Derived.Test.YthhbhjppljblnaaGreatDoorSlGiM
set_option linter.unusedSimpArgs false
set_option linter.unusedVariables false
namespace Go.Proofs.YthhbhjppljblnaaGreatDoor
open Go Go.RowKit

def boolC (b : Bool) : List Value := [.bool b]
theorem boolC_len (b : Bool) : (boolC b).length = 1 := rfl
theorem boolsInfo : (Tryz.prog.info? 161).map (fun i => (i.zero, i.size, i.bytes)) = some (some (.slice none 0 0), 1, 24) := by kernel_rfl
def canRow (V : List VoiceV) (t : Int) (P : List PartV) (s : ByteArray) : List Bool := (comRow V t P s).map fun c => decide (0 ≤ c)
def canBL (V : List VoiceV) (t : Int) (P : List PartV) : List (List Bool) := (singersL V t).map (canRow V t P)
theorem canRow_len (V : List VoiceV) (t : Int) (P : List PartV) (s : ByteArray) : (canRow V t P s).length = P.length := by unfold canRow; rw [List.length_map, comRow_len]
theorem canRow_at {V : List VoiceV} {t : Int} {P : List PartV} {s : ByteArray} {k : Nat} {x : PartV} (h : P[k]? = some x) : (canRow V t P s)[k]? = some (decide (0 ≤ comF ((rgS V t V.length s).getD (0, 0)) (x.lo, x.hi))) := by
  unfold canRow; rw [List.getElem?_map, comRow_at h]; rfl
theorem canBL_len (V : List VoiceV) (t : Int) (P : List PartV) : (canBL V t P).length = (comL V t P).length := by simp [canBL, comL]
def canD (B : List (List Bool)) (s p : Nat) : Bool := (B.getD s []).getD p false
theorem canD_is {V : List VoiceV} {t : Int} {P : List PartV} {s p : Nat} (hs : s < (comL V t P).length) (hp : p < P.length) : canD (canBL V t P) s p = canC (comL V t P) s p := by
  rw [comL_len] at hs
  obtain ⟨nm, hn⟩ := getD_some (rfl : (singersL V t).length = (singersL V t).length) hs
  obtain ⟨x, hx⟩ := getD_some (rfl : P.length = P.length) hp
  rw [canC_at (comL_at hn) (comRow_at hx)]
  unfold canD
  have h1 : (canBL V t P)[s]? = some (canRow V t P nm) := by unfold canBL; rw [List.getElem?_map, hn]; rfl
  have h2 := canRow_at (V := V) (t := t) (s := nm) hx
  simp [List.getD_eq_getElem?_getD, h1, h2]

set_option maxRecDepth 100000 in
set_option maxHeartbeats 3200000 in
theorem able_any {w : World} {vp pp : Option Addr} {vc pc : Nat} {V : List VoiceV} {P : List PartV} (h : VpM w vp vc V pp pc P) (t : Int) :
    Calls Tryz.prog 73 #[.slice vp V.length vc, .slice pp P.length pc, .int .i64 t] w fun e w' => ∃ (p : Option Addr) (c : Nat), e = .returned (.slice p (canBL V t P).length c) ∧ RowsR boolC w' p (canBL V t P).length c (canBL V t P) ∧ Ext w w' := by
  have hsi := singersOf_any vp V.length vc V t w h.voi.1 h.sV h.nV
  have hnV := h.nV
  obtain ⟨S, hS⟩ : ∃ S, singersL V t = S := ⟨_, rfl⟩
  have hSlen : S.length ≤ V.length := by rw [← hS]; exact singers_len V t
  have hSsm : ∀ p ∈ S, p.size ≤ 1000 := by rw [← hS]; exact singers_small h.sV t
  have hcl : canBL V t P = S.map (canRow V t P) := by unfold canBL; rw [hS]
  rw [hS] at hsi
  replace hsi := Lib.hid hsi
  replace hcl := Lib.hid hcl
  replace hSsm := Lib.hid hSsm
  replace h := Lib.hid h
  clear hS
  go_enter Tryz.func73, Tryz.ntmps73
  go_wp2_with (go_at_call 56; (with_reducible refine Calls.mono hsi.out ?_); rintro e w2 ⟨sp, sc, rfl, hown2, hb2⟩)
  obtain ⟨sp', sc', e9, hS2⟩ := slc_of_own (enc := strC) (fun _ => rfl) hown2 (by decide) (by omega)
  cases e9
  clear hown2
  replace hS2 := Lib.hid hS2
  go_loopw [19, 7] (fun v19 v7 wr => ∃ (k : Nat) (v : Value), v19 = .int .i64 k ∧ v7 = v ∧ k ≤ S.length ∧ OwnRows 161 4 boolC wr w2.heap.size v ((S.map (canRow V t P)).take k) ∧ Ext w2 wr) (fun v19 _ _ => S.length - (intOf v19).toNat)
  case atStart => exact ⟨0, _, rfl, rfl, Nat.zero_le _, by rw [List.take_zero]; exact OwnRows.nil, Ext.refl _⟩
  case round =>
    obtain ⟨k, v, rfl, rfl, hk, hR, hE⟩ := hrel
    by_cases hlt : k < S.length
    · obtain ⟨s, hs⟩ := getD_some (rfl : S.length = S.length) hlt
      have hss := hSsm.out s (List.mem_of_getElem? hs)
      obtain ⟨-, ⟨_, rfl⟩ | ⟨b, off, rfl, hb, hEl⟩⟩ := slcC (hS2.out.ext hE)
      · cases hs
      have e1 := hEl.str hs
      have hkI : (k : Int) < S.length := by omega
      obtain ⟨hr1, hr2⟩ := rg_bounds h.out.sV t s
      obtain ⟨rr, hrr⟩ : ∃ r, (rgS V t V.length s).getD (0, 0) = r := ⟨_, rfl⟩
      obtain ⟨bb, hbb⟩ : ∃ r, (rgS V t V.length s).isSome = r := ⟨_, rfl⟩
      have hrow : ∀ j (x : PartV), P[j]? = some x → (canRow V t P s)[j]? = some (decide (0 ≤ comF rr (x.lo, x.hi))) := fun j x h => by rw [canRow_at h, hrr]
      have hrg := rangeOf_any vp V.length vc V s t wr (((h.out.voi.ext hb2).ext hE).1) h.out.sV (by omega) hss
      rw [hrr] at hr1 hr2 hrg
      rw [hbb] at hrg
      have hsn : (S.map (canRow V t P)).take (k + 1) = (S.map (canRow V t P)).take k ++ [canRow V t P s] := take_snocL (by rw [List.getElem?_map, hs]; rfl)
      have hkl : ((S.map (canRow V t P)).take k).length = k := by rw [List.length_take, List.length_map]; omega
      have hrl := canRow_len V t P s
      generalize canRow V t P s = row at *
      have hpar := (h.out.par.ext hb2).ext hE
      have hsP := h.out.sP
      have hnP := h.out.nP
      obtain ⟨ra, rb⟩ := rr
      simp only at hr1 hr2
      replace hrg : Calls Tryz.prog 97 #[.slice vp V.length vc, .string s, .int .i64 t] wr fun e w' => e = .returned (.tuple #[.agg #[.int .i64 ra, .int .i64 rb], .bool bb]) ∧ Ext wr w' := hrg
      replace hs := Lib.hid hs
      replace hrow := Lib.hid hrow
      replace hsn := Lib.hid hsn
      replace hkl := Lib.hid hkl
      replace hrl := Lib.hid hrl
      replace hR := Lib.hid hR
      replace hrr := Lib.hid hrr
      replace hbb := Lib.hid hbb
      replace hrg := Lib.hid hrg
      replace hsP := Lib.hid hsP
      replace hpar := Lib.hid hpar
      clear hEl
      go_upto_region 7 with (go_at_call 97; (with_reducible refine Calls.mono hrg.out ?_); rintro e w3 ⟨rfl, hb3⟩)
      have hG : Blk (w3.alloc (.cells #[.int .i64 ra, .int .i64 rb] 68)) w3.heap.size 68 #[.int .i64 ra, .int .i64 rb] := Blk.new' rfl
      have hE3 : Ext wr (w3.alloc (.cells #[.int .i64 ra, .int .i64 rb] 68)) := hb3.alloc _
      have hb3w := hb3.size
      clear hb3 hrg e1
      generalize w3.alloc (.cells #[.int .i64 ra, .int .i64 rb] 68) = W4 at *
      generalize w3.heap.size = gR at *
      replace hE3 := Lib.hid hE3
      generalize wr = W10 at *
      have hGl := hG.lt
      go_wp2
      go_loopw [32, 12] (fun v32 v12 wr => ∃ (j : Nat) (u : Value), v32 = .int .i64 j ∧ v12 = u ∧ j ≤ P.length ∧ wr.ownsRow W4.heap.size 4 1 u j ((row.take j).flatMap boolC) ∧ Ext W4 wr) (fun v32 _ _ => P.length - (intOf v32).toNat)
      case atStart => exact ⟨0, _, rfl, rfl, Nat.zero_le _, World.ownsRow_nil _ _ _ _, Ext.refl _⟩
      case round =>
        obtain ⟨j, u, rfl, rfl, hj, hown, hE10⟩ := hrel
        by_cases hjl : j < P.length
        · obtain ⟨x, hx⟩ := getD_some (rfl : P.length = P.length) hjl
          obtain ⟨-, ⟨_, rfl⟩ | ⟨pb, poff, rfl, hpb, hEl⟩⟩ := slcC ((hpar.out.ext hE3.out).ext hE10)
          · cases hx
          obtain ⟨c0, c1, c2, c3, c4⟩ := hEl.part hx
          have hxs := hsP.out x (List.mem_of_getElem? hx)
          have hrj := hrow.out j x hx
          have hnx : (row.take (j + 1)).flatMap boolC = (row.take j).flatMap boolC ++ boolC (decide (0 ≤ comF (ra, rb) (x.lo, x.hi))) := by rw [take_snocL hrj, flat_snoc]
          have hjI : (j : Int) < P.length := by omega
          have hwX : Ext W4 (wr.alloc (.cells #[.string x.name, .int .i64 x.lo, .int .i64 x.hi, .int .i64 x.least, .int .i64 x.most] 70)) := hE10.alloc _
          have hXb : Blk (wr.alloc (.cells #[.string x.name, .int .i64 x.lo, .int .i64 x.hi, .int .i64 x.least, .int .i64 x.most] 70)) wr.heap.size 70 _ := Blk.new' rfl
          have hown1 := hown.alloc (.cells #[.string x.name, .int .i64 x.lo, .int .i64 x.hi, .int .i64 x.least, .int .i64 x.most] 70)
          replace hnx := Lib.hid hnx
          replace hx := Lib.hid hx
          replace hrj := Lib.hid hrj
          go_upto_region 10 with fail
          clear hEl hpb c0 c1 c2 c3 c4 hE10 hown
          have hgx := hXb.lt
          generalize wr.heap.size = gx at *
          generalize wr.alloc (.cells #[.string x.name, .int .i64 x.lo, .int .i64 x.hi, .int .i64 x.least, .int .i64 x.most] 70) = W11 at *
          clear wr
          have hcm : ∀ w, Calls Tryz.prog 98 #[.agg #[.int .i64 ra, .int .i64 rb], .agg #[.int .i64 x.lo, .int .i64 x.hi]] w fun e w' => e = .returned (.int .i64 (comF (ra, rb) (x.lo, x.hi))) ∧ Ext w w' := fun w => comfortOf_any (ra, rb) (x.lo, x.hi) w hr1 hr2 (by have := hxs.2.1; simp only; omega) (by have := hxs.2.2; simp only; omega)
          obtain ⟨cf, hcf⟩ : ∃ cf, comF (ra, rb) (x.lo, x.hi) = cf := ⟨_, rfl⟩
          have hdec : decide (0 ≤ comF (ra, rb) (x.lo, x.hi)) = decide (0 ≤ cf) := by rw [hcf]
          simp only [hcf] at hcm
          obtain ⟨y1, -⟩ := hXb.walk
          obtain ⟨y3, -⟩ := (hG.ext hwX).walk
          have hgl9 := (hG.ext hwX).lt
          replace hcf := Lib.hid hcf
          replace hdec := Lib.hid hdec
          replace hcm := Lib.hid hcm
          replace hown1 := Lib.hid hown1
          go_upto_region 11 with (first
            | (go_at_call 98; (with_reducible refine Calls.mono (hcm.out _) ?_); rintro e w12 ⟨rfl, hb12⟩; have hown2 := own_ext hb12 hown1.out; have hl12 := hb12.size; have hE12 := hwX.trans hb12)
            | (at_builtin; go_loud (refine wp_app1 _ (.tmp 36) (.tmp 42) 161 4 1 1 _ rfl rfl Tryz.underlying161 boolInfo rfl (by decide) (by decide) W4.heap.size _ j _ rfl (hown2.alloc _) w12.heap.size (boolC (decide (0 ≤ cf))) rfl rfl (Blk.new' rfl) (by simp [boolC, Value.oneCell']) (by omega) (by have := hE12.size; simp; omega) ?_; intro v' w6 hown6 hgrow6 _)))
          have hE6 := (hE12.alloc _).app (hown2.alloc _) (Nat.le_refl _) hgrow6
          go_wp2
          go_roundw
          case rel => exact ⟨j + 1, v', by go_num, rfl, by omega, by rw [hnx.out, hdec.out]; exact hown6, hE6⟩
          case measure => simp [intOf]; omega
        · obtain rfl : j = P.length := by omega
          have hfull : row.take P.length = row := List.take_of_length_le (by rw [hrl.out]; exact Nat.le_refl _)
          rw [hfull] at hown
          have hEE := hE3.out.trans hE10
          obtain ⟨vs, hv1, hv2⟩ := hR.out.ext hEE
          rw [hkl.out] at hv1
          have hzc := hEE.size
          have hzW := hE.size
          have hE4s := hE3.out.size
          obtain ⟨up, uc, rfl, -⟩ := slc_of_own boolC_len hown (by decide) (by omega)
          replace hv1 := Lib.hid hv1
          clear hpar hR
          go_wp2_with (at_builtin; go_loud (refine wp_app1 _ (.tmp 45) (.tmp 47) 126 161 1 24 _ rfl rfl Tryz.underlying126 boolsInfo rfl (by decide) (by decide) w2.heap.size _ k vs rfl (hv1.out.alloc _) wr.heap.size [.slice up P.length uc] rfl rfl (Blk.new' rfl) (by simp [Value.oneCell']) (by omega) (by simp; omega) ?_; intro v' w6 hown6 hgrow6 _))
          have hR6 : OwnRows 161 4 boolC w6 w2.heap.size v' ((S.map (canRow V t P)).take k ++ [row]) := by
            have hk9 := hkl.out
            refine OwnRows.app (w := wr.alloc (.cells #[.slice up P.length uc] 161)) (v := u7) (vs := vs) ⟨vs, by rw [hk9]; exact hv1.out.alloc _, fun j r hr => let ⟨x, a, b⟩ := hv2 j r hr; ⟨x, a, b.alloc _⟩⟩ (by decide) (fun j r hr => let ⟨x, a, b⟩ := hv2 j r hr; ⟨x, a, b.alloc _⟩) (by rw [hk9]; exact hv1.out.alloc _) (u := .slice up P.length uc) ?_ (by rw [hk9]; exact hown6) hgrow6
            rw [hrl.out]
            exact (own_lowV hown (by omega)).alloc _
          have hE6 : Ext w2 w6 := ((hE.trans hEE).alloc _).app (hv1.out.alloc _) (Nat.le_refl _) hgrow6
          rw [← hsn.out] at hR6
          replace hR6 := Lib.hid hR6
          go_roundw
          case rel => exact ⟨k + 1, v', by go_num, rfl, by omega, hR6.out, hE6⟩
          case measure => simp [intOf]; omega
    · obtain rfl : k = S.length := by omega
      have hfull : (S.map (canRow V t P)).take S.length = S.map (canRow V t P) := List.take_of_length_le (by simp)
      rw [hfull] at hR
      have hnP := h.out.nP
      obtain ⟨cp, cc, rfl, hRR⟩ := hR.rows boolC_len (by simp; omega) (fun r hr => by
        obtain ⟨s, _, rfl⟩ := List.mem_map.1 hr
        rw [canRow_len]; omega)
      have hEf := hb2.trans hE
      rw [← hcl.out] at hRR
      have hln : (canBL V t P).length = S.length := by rw [hcl.out, List.length_map]
      replace hRR := Lib.hid hRR
      replace hln := Lib.hid hln
      clear hR
      go_wp2
      go_ret
      exact ⟨cp, cc, by rw [hln.out]; rfl, hRR.out, hEf⟩
end Go.Proofs.YthhbhjppljblnaaGreatDoor
