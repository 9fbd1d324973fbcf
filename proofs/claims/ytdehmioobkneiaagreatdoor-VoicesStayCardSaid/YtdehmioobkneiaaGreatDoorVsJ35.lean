/- Sets of parts as numbers: their members, in order; how many singers they lack, by the program. Conditions: sizes. By how many fewer singers can sing one of some parts than they need, by the program. Conditions: the choir lies in memory. -/
import Derived.Test.YtdehmioobkneiaaGreatDoorVsGiF
set_option linter.unusedSimpArgs false
set_option linter.unusedVariables false
namespace Go.Proofs.YtdehmioobkneiaaGreatDoor
open Go Go.RowKit

def numL (set : Nat) : List Nat := (List.range 12).filter (bitX set)
theorem bit_div (set p : Nat) : bitX set p = decide (set / 2 ^ p % 2 = 1) := by
  unfold bitX
  rw [Nat.testBit_eq_decide_div_mod_eq]
theorem i64_and1 (n : Int) : bits .and .i64 n 1 = n % 2 := by
  have h1 : (BitVec.ofInt 64 1).toNat = 2 ^ 1 - 1 := by decide
  have key : (BitVec.ofInt 64 n &&& BitVec.ofInt 64 1).toNat = (n % ((2 ^ 64 : Nat) : Int)).toNat % 2 ^ 1 := by
    rw [BitVec.toNat_and, BitVec.toNat_ofInt, h1, Nat.and_two_pow_sub_one_eq_mod]
  show IntKind.i64.wrap ((BitVec.ofInt 64 n &&& BitVec.ofInt 64 1).toNat : Nat) = n % 2
  rw [key, IntKind.wrap_i64]
  omega
theorem bits_up (set p : Nat) : (List.range (p + 1)).filter (bitX set) = (List.range p).filter (bitX set) ++ if bitX set p then [p] else [] := by
  rw [List.range_succ, List.filter_append]
  congr 1
  cases h : bitX set p <;> simp [h]
theorem bits_end {set p : Nat} (hp : p ≤ 12) (hz : set / 2 ^ p = 0) : (List.range p).filter (bitX set) = numL set := by
  unfold numL
  have h : ∀ k, (List.range (p + k)).filter (bitX set) = (List.range p).filter (bitX set) := by
    intro k
    induction k with
    | zero => rfl
    | succ k ih =>
      rw [← Nat.add_assoc, bits_up, ih]
      have : bitX set (p + k) = false := by
        rw [bit_div]
        have e : set / 2 ^ (p + k) = 0 := by rw [Nat.pow_add, ← Nat.div_div_eq_div_mul, hz, Nat.zero_div]
        rw [e]; rfl
      rw [this]; simp
  rw [← h (12 - p), show p + (12 - p) = 12 by omega]
theorem bits_len (set p : Nat) : ((List.range p).filter (bitX set)).length ≤ p := Nat.le_trans (List.length_filter_le _ _) (by simp)
set_option maxRecDepth 100000 in
set_option maxHeartbeats 1600000 in
theorem numbers_any (set : Nat) (h : set < 4096) (w : World) :
    Calls Tryz.prog 63 #[.int .i64 set] w fun e w' => ∃ v, e = .returned v ∧ w'.ownsRow w.heap.size 3 1 v (numL set).length ((numL set).flatMap natC) ∧ Ext w w' := by
  go_enter Tryz.func63, Tryz.ntmps63
  go_wp2
  go_loopw [4, 3] (fun v4 v3 wr => ∃ (p : Nat) (v : Value) (T : List Nat), v4 = .int .i64 p ∧ v3 = v ∧ p ≤ 12 ∧ T = (List.range p).filter (bitX set) ∧ wr.ownsRow w.heap.size 3 1 v T.length (T.flatMap natC) ∧ Ext w wr) (fun v4 _ _ => 14 - (intOf v4).toNat)
  case atStart => exact ⟨0, _, _, rfl, rfl, Nat.zero_le _, rfl, World.ownsRow_nil _ _ _ _, Ext.refl _⟩
  case round =>
    obtain ⟨p, v, T, rfl, rfl, hp, hT, hown, hE⟩ := hrel
    obtain ⟨q, hq⟩ : ∃ q, set / 2 ^ p = q := ⟨_, rfl⟩
    have hsh : (set : Int) / 2 ^ p = (q : Int) := by rw [← hq]; norm_cast
    have hq8 : q ≤ 4096 := by rw [← hq]; exact Nat.le_trans (Nat.div_le_self _ _) (by omega)
    have hTl : T.length ≤ p := by rw [hT]; exact bits_len _ _
    by_cases hlt : 0 < q
    · have hp12 : p < 12 := by
        rcases Nat.lt_or_ge p 12 with h1 | h1
        · exact h1
        · have e : p = 12 := by omega
          subst e
          rw [Nat.div_eq_of_lt (by omega)] at hq
          omega
      have hup := bits_up set p
      have hbd := bit_div set p
      rw [hq] at hbd
      rw [← hT] at hup
      have hand := i64_and1 (q : Int)
      replace hq := Lib.hid hq
      replace hT := Lib.hid hT
      cases hb : bitX set p
      · rw [hb] at hup hbd
        have hq2 : q % 2 = 0 := by
          have : ¬ q % 2 = 1 := fun e => by rw [e] at hbd; simp at hbd
          omega
        rw [show (q : Int) % 2 = 0 by omega] at hand
        simp only [Bool.false_eq_true, if_false, List.append_nil] at hup
        replace hown := Lib.hid hown
        replace hup := Lib.hid hup
        clear hbd
        go_wp2
        go_roundw
        case rel => exact ⟨p + 1, u3, T, by go_num, rfl, by omega, hup.out.symm, hown.out, hE⟩
        case measure => simp [intOf]; omega
      · rw [hb] at hup hbd
        have hq2 : q % 2 = 1 := by
          have := hbd.symm
          exact of_decide_eq_true this
        rw [show (q : Int) % 2 = 1 by omega] at hand
        simp only [if_true] at hup
        replace hup := Lib.hid hup
        clear hbd
        go_wp2_with (at_builtin; go_loud (refine wp_app1 _ (.tmp 16) (.tmp 18) 22 3 1 8 _ rfl rfl Tryz.underlying22 intInfo rfl (by decide) (by decide) w.heap.size _ _ _ rfl (hown.alloc _) wr.heap.size (natC p) rfl rfl (Blk.new' rfl) (by simp [natC, Value.oneCell']) (by omega) (by have := hE.size; simp; omega) ?_; intro v' w6 hown6 hgrow6 _))
        have hE6 := (hE.alloc _).app (hown.alloc _) (Nat.le_refl _) hgrow6
        go_roundw
        case rel => exact ⟨p + 1, v', T ++ [p], by go_num, rfl, by omega, hup.out.symm, by rw [List.length_append, List.length_singleton, flat_snoc]; exact hown6, hE6⟩
        case measure => simp [intOf]; omega
    · obtain rfl : q = 0 := by omega
      have hend := bits_end hp hq
      rw [hend] at hT
      subst hT
      replace hown := Lib.hid hown
      clear hend hTl
      go_wp2
      go_ret
      exact ⟨u3, rfl, hown.out, hE⟩
end Go.Proofs.YtdehmioobkneiaaGreatDoor

namespace Go.Proofs.YtdehmioobkneiaaGreatDoor
open Go Go.RowKit

theorem numL_in {n set : Nat} (hn : n ≤ 12) (h : set < 2 ^ n) : numL set = (List.range n).filter (bitX set) := (bits_end hn (Nat.div_eq_of_lt h)).symm
theorem numL_lt {n set : Nat} (hn : n ≤ 12) (h : set < 2 ^ n) : ∀ p ∈ numL set, p < n := fun p hp => by
  rw [numL_in hn h] at hp
  exact List.mem_range.1 (List.mem_filter.1 hp).1
theorem bit_some : ∀ {n set : Nat}, 0 < set → set < 2 ^ n → ∃ p, p < n ∧ bitX set p = true
  | 0, set, h, hl => by simp at hl; omega
  | n + 1, set, h, hl => by
    by_cases hb : set < 2 ^ n
    · obtain ⟨p, hp, e⟩ := bit_some h hb
      exact ⟨p, by omega, e⟩
    · refine ⟨n, by omega, ?_⟩
      rw [bit_div]
      have h2 : 2 ^ (n + 1) = 2 * 2 ^ n := by rw [Nat.pow_succ, Nat.mul_comm]
      have e1 : set / 2 ^ n = 1 := by
        have h3 : set / 2 ^ n < 2 := Nat.div_lt_of_lt_mul (by rw [Nat.mul_comm, ← h2]; exact hl)
        have h4 : 0 < set / 2 ^ n := Nat.div_pos (by omega) (Nat.two_pow_pos n)
        omega
      rw [e1]; rfl
theorem numL_ne {n set : Nat} (hn : n ≤ 12) (h0 : 0 < set) (h : set < 2 ^ n) : numL set ≠ [] := fun e => by
  obtain ⟨p, hp, hb⟩ := bit_some h0 h
  have : p ∈ numL set := by rw [numL_in hn h]; exact List.mem_filter.2 ⟨List.mem_range.2 hp, hb⟩
  rw [e] at this; cases this
theorem numL_len (set : Nat) : (numL set).length ≤ 12 := bits_len set 12
def rowB (row : List Int) (p : Nat) : Bool := decide (0 ≤ row.getD p (-1))
set_option maxRecDepth 100000 in
theorem lacksPred (row : List Int) (q : Option Addr) (d g9 : Nat) (S : List Nat) (hS : ∀ p ∈ S, p < row.length) (hr : row.length ≤ 1000) (w : World) (hR : Slc 1 intC w q row.length d row) (hB : Blk w g9 22 #[.slice q row.length d]) :
    PredAt Tryz.prog 106 #[.pointer (some ⟨g9, 0, none⟩)] (fun x : {x // x ∈ S} => .int .i64 (x.1 : Int)) (fun x => rowB row x.1) w := fun W x hb => by
  show Calls Tryz.prog 106 #[.int .i64 (x.1 : Int), .pointer (some ⟨g9, 0, none⟩)] W _
  have hE : Ext w W := hb
  have hp := hS x.1 x.2
  obtain ⟨p, hpS⟩ := x
  simp only at hp ⊢
  obtain ⟨c, hc⟩ := getD_some (rfl : row.length = row.length) hp
  have hv : rowB row p = decide (0 ≤ c) := by unfold rowB; rw [List.getD_eq_getElem?_getD, hc]; rfl
  obtain ⟨a1, -⟩ := (hB.ext hE).walk
  obtain ⟨-, ⟨_, rfl⟩ | ⟨b, off, rfl, hbb, hEl⟩⟩ := slcC (hR.ext hE)
  · cases hc
  have e1 := hEl p c hc 0 (.int .i64 c) rfl
  simp only [Nat.mul_one, Nat.add_zero] at e1
  have hpI : (p : Int) < row.length := by omega
  replace hc := Lib.hid hc
  replace hv := Lib.hid hv
  clear hb hE hB hR hEl hS hpS hbb
  cases h0 : decide (0 ≤ c)
  all_goals
    have h1 : rowB row p = _ := hv.out.trans h0
    replace h1 := Lib.hid h1
    go_enter Tryz.func106, Tryz.ntmps106
    go_wp2
    go_ret
    exact ⟨by rw [h1.out]; simp [h0], 0, rfl⟩
theorem lacksHas (row : List Int) (q : Option Addr) (d g9 : Nat) (S : List Nat) (v : Value) (base : Nat) (hS : ∀ p ∈ S, p < row.length) (hne : S ≠ []) (hr : row.length ≤ 1000) (hSl : S.length ≤ 1000) (w : World) (hR : Slc 1 intC w q row.length d row) (hB : Blk w g9 22 #[.slice q row.length d]) (hv : w.ownsRow base 3 1 v S.length (S.flatMap natC)) :
    Calls Tryz.prog 98 #[v, .func (.func 106) #[] #[.pointer (some ⟨g9, 0, none⟩)]] w fun e w' => e = .returned (.bool (S.any (rowB row))) ∧ Ext w w' := by
  obtain ⟨sp, sc, rfl, hs⟩ := slc_of_own natC_len hv (by decide) (by omega)
  obtain ⟨x, hx⟩ := List.exists_mem_of_ne_nil S hne
  haveI : Inhabited {x // x ∈ S} := ⟨⟨x, hx⟩⟩
  rcases (slcC hs).2 with ⟨-, e⟩ | ⟨b, off, rfl, hb, hEl⟩
  · exact absurd e hne
  have eg : ∀ args w, (callFunc 106 args).run Tryz.prog w = .ok (.enter 106 args) w := enters_of Tryz.func106 (by kernel_rfl) rfl
  have hat : ∀ j, j < S.attach.length → S[j]? = some (S.attach[j]!).1 := fun j hj => by
    rw [getElem!_pos S.attach j hj]
    simp at hj
    rw [List.getElem?_eq_getElem hj]
    simp
  have := AnyE.slices_ContainsFunc (α := {x // x ∈ S}) Tryz.lqcInt (fun x => .int .i64 (x.1 : Int)) (fun x => rowB row x.1) 106 _ eg b off S.length sc S.attach w (lacksPred row q d g9 S hS hr w hR hB) (by simp) (by omega) (fun j hj => by
    have := hEl j _ (hat j hj) 0 _ rfl
    simpa using this)
  rw [List.take_of_length_le (by simp)] at this
  have e2 : (S.attach.any fun x => rowB row x.1) = S.any (rowB row) := by
    show S.attach.any (rowB row ∘ Subtype.val) = _
    rw [← List.any_map, List.attach_map_subtype_val]
  rw [e2] at this
  exact this.mono fun e w' ⟨he, r, hw⟩ => ⟨he, by rw [hw]; exact below_drewN' (Below.refl _ w) r⟩
theorem touch_any {C : List (List Int)} {n set j : Nat} {row : List Int} (hn : n ≤ 12) (h : set < 2 ^ n) (hr : C[j]? = some row) : touchB (canC C) n (bitX set) j = (numL set).any (rowB row) := by
  rw [numL_in hn h, List.any_filter]
  unfold touchB
  congr 1
  funext p
  unfold canC rowB
  rw [show C.getD j [] = row by rw [List.getD_eq_getElem?_getD, hr]; rfl]
theorem canN_succ {can : Nat → Nat → Bool} {n : Nat} {X : Nat → Bool} {j : Nat} : canN can n X (j + 1) = canN can n X j + if touchB can n X j then 1 else 0 := by
  unfold canN
  rw [List.range_succ, List.filter_append, List.length_append]
  cases h : touchB can n X j <;> simp [h]
theorem canN_le (can : Nat → Nat → Bool) (n : Nat) (X : Nat → Bool) (j : Nat) : canN can n X j ≤ j := by
  unfold canN
  exact Nat.le_trans (List.length_filter_le _ _) (by simp)

set_option maxRecDepth 100000 in
set_option maxHeartbeats 3200000 in
theorem lacks_any {w : World} {cb : Nat} {P : List PartV} {pp : Option Addr} {pc : Nat} {C : List (List Int)} {sp : Option Addr} {sc : Nat} {cp : Option Addr} {cc : Nat} (hC : ChoirM w cb P pp pc C sp sc cp cc) (set : Nat) (h0 : 0 < set) (hset : set < 2 ^ P.length) :
    Calls Tryz.prog 64 #[.pointer (some ⟨cb, 0, none⟩), .int .i64 set] w fun e w' => e = .returned (.int .i64 (needF (canC C) (lstP P) P.length C.length (bitX set))) ∧ Ext w w' := by
  have hnP := hC.nP
  have hnC := hC.nC
  have hset2 : set < 4096 := Nat.lt_of_lt_of_le hset (Nat.pow_le_pow_right (by decide) hnP : 2 ^ P.length ≤ 2 ^ 12)
  have hcl := hC.blk.lt
  obtain ⟨z1, -⟩ := hC.blk.walk
  have hne := numL_ne hnP h0 hset
  have hlt := numL_lt hnP hset
  replace hC := Lib.hid hC
  replace hset := Lib.hid hset
  replace hne := Lib.hid hne
  replace hlt := Lib.hid hlt
  go_enter Tryz.func64, Tryz.ntmps64
  go_wp2
  go_loopw [15, 5] (fun v15 v5 wr => ∃ k : Nat, v15 = .int .i64 k ∧ k ≤ P.length ∧ v5 = .int .i64 (needN (lstP P) (bitX set) k) ∧ Ext w wr) (fun v15 _ _ => P.length - (intOf v15).toNat)
  case atStart => exact ⟨0, rfl, Nat.zero_le _, rfl, Ext.refl _⟩
  case round =>
    clear z1
    obtain ⟨k, rfl, hk, rfl, hE⟩ := hrel
    have hle := needN_le hC.out.need (bitX set) k hk
    obtain ⟨s, hs⟩ : ∃ s, needN (lstP P) (bitX set) k = s := ⟨_, rfl⟩
    by_cases hkl : k < P.length
    · obtain ⟨x, hx⟩ := getD_some (rfl : P.length = P.length) hkl
      have hCr := hC.out.ext hE
      obtain ⟨-, ⟨_, rfl⟩ | ⟨b, off, rfl, hb, hEl⟩⟩ := slcC hCr.par
      · cases hx
      obtain ⟨c0, c1, c2, c3, c4⟩ := hEl.part hx
      have hxb := hC.out.need x (List.mem_of_getElem? hx)
      have hls := lstP_at hx
      have hkI : (k : Int) < P.length := by omega
      have hE2 := hE.trans ((Ext.refl wr).alloc (.cells #[.string x.name, .int .i64 x.lo, .int .i64 x.hi, .int .i64 x.least, .int .i64 x.most] 46))
      obtain ⟨q, hq⟩ : ∃ q, set / 2 ^ k = q := ⟨_, rfl⟩
      have hsh : (set : Int) / 2 ^ k = (q : Int) := by rw [← hq]; norm_cast
      have hbd := bit_div set k
      rw [hq] at hbd
      have hand := i64_and1 (q : Int)
      have hq8 : q ≤ 4096 := by rw [← hq]; exact Nat.le_trans (Nat.div_le_self _ _) (by omega)
      have hnx : needN (lstP P) (bitX set) (k + 1) = s + if bitX set k then lstP P k else 0 := by rw [← hs]; rfl
      rw [hs] at hle ⊢
      replace hx := Lib.hid hx
      replace hq := Lib.hid hq
      replace hs := Lib.hid hs
      cases hbb : bitX set k
      · rw [hbb] at hbd hnx
        have hq2 : q % 2 = 0 := by
          have : ¬ q % 2 = 1 := fun e => by rw [e] at hbd; simp at hbd
          omega
        rw [show (q : Int) % 2 = 0 by omega] at hand
        have hnx2 : (needN (lstP P) (bitX set) (k + 1) : Int) = (s : Int) := by rw [hnx]; simp
        replace hnx2 := Lib.hid hnx2
        clear hbd hCr hnx hls
        go_wp2
        go_roundw
        case rel => exact ⟨k + 1, by go_num, by omega, by rw [hnx2.out], hE2⟩
        case measure => simp [intOf]; omega
      · rw [hbb] at hbd hnx
        have hq2 : q % 2 = 1 := of_decide_eq_true hbd.symm
        rw [show (q : Int) % 2 = 1 by omega] at hand
        have hnx2 : (needN (lstP P) (bitX set) (k + 1) : Int) = (s : Int) + x.least := by rw [hnx]; simp only [if_true]; omega
        replace hnx2 := Lib.hid hnx2
        clear hbd hCr hnx hls
        go_wp2
        go_roundw
        case rel => exact ⟨k + 1, by go_num, by omega, by rw [hnx2.out], hE2⟩
        case measure => simp [intOf]; omega
    · obtain rfl : k = P.length := by omega
      have hCr := hC.out.ext hE
      obtain ⟨z1, -⟩ := hCr.blk.walk
      rw [hs] at hle ⊢
      have hnf : needF (canC C) (lstP P) P.length C.length (bitX set) = (s : Int) - (canN (canC C) P.length (bitX set) C.length : Int) := by unfold needF; rw [hs]
      replace hnf := Lib.hid hnf
      replace hs := Lib.hid hs
      clear hCr
      generalize wr = W5 at *
      go_wp2
      go_loopw [35, 5] (fun v35 v5 wr => ∃ j : Nat, v35 = .int .i64 j ∧ j ≤ C.length ∧ v5 = .int .i64 ((s : Int) - (canN (canC C) P.length (bitX set) j : Int)) ∧ Ext w wr) (fun v35 _ _ => C.length - (intOf v35).toNat)
      case atStart => exact ⟨0, rfl, Nat.zero_le _, by simp [canN], hE⟩
      case round =>
        clear z1 hE
        obtain ⟨j, rfl, hj, rfl, hE⟩ := hrel
        have hcn := canN_le (canC C) P.length (bitX set) j
        by_cases hjl : j < C.length
        · obtain ⟨row, hrow⟩ := getD_some (rfl : C.length = C.length) hjl
          have hCr := hC.out.ext hE
          obtain ⟨rb, roff, rq, rd, rfl, hrb, hcr, hrS⟩ := hCr.com.at_ hrow
          have hrl := hC.out.row row (List.mem_of_getElem? hrow)
          have htc := touch_any hnP hset.out hrow
          have hsucc := canN_succ (can := canC C) (n := P.length) (X := bitX set) (j := j)
          rw [htc] at hsucc
          have hjI : (j : Int) < C.length := by omega
          have hE9 : Ext w (wr.alloc (.cells #[.slice rq row.length rd] 22)) := hE.alloc _
          have hB9 : Blk (wr.alloc (.cells #[.slice rq row.length rd] 22)) wr.heap.size 22 #[.slice rq row.length rd] := Blk.new' rfl
          have hS9 := hrS.ext ((Ext.refl wr).alloc (.cells #[.slice rq row.length rd] 22))
          have hnum := fun w => numbers_any set hset2 w
          generalize canN (canC C) P.length (bitX set) j = cn at *
          replace hnum := Lib.hid hnum
          replace hrow := Lib.hid hrow
          replace hsucc := Lib.hid hsucc
          have hrl2 : row.length ≤ 12 := by omega
          replace hrl := Lib.hid hrl
          replace hB9 := Lib.hid hB9
          replace hS9 := Lib.hid hS9
          clear hCr hrS htc
          go_upto_if 42 with (first
            | (go_at_call 63; (with_reducible refine Calls.mono (hnum.out _) ?_); rintro e w3 ⟨v3, rfl, hown3, hb3⟩)
            | (go_at_call 98; (with_reducible refine Calls.mono (lacksHas row rq rd wr.heap.size (numL set) v3 _ (fun p hp => by rw [hrl.out]; exact hlt.out p hp) hne.out (by omega) (by have := numL_len set; omega) w3 (hS9.out.ext hb3) (hB9.out.ext hb3) hown3) ?_); rintro e w4 ⟨rfl, hb4⟩))
          have hE4 := (hE9.trans hb3).trans hb4
          clear hown3 hnum hB9 hS9
          cases hbv : (numL set).any (rowB row)
          · have hs2 : canN (canC C) P.length (bitX set) (j + 1) = cn := by rw [hsucc.out, hbv]; simp
            replace hs2 := Lib.hid hs2
            replace hbv := Lib.hid hbv
            go_wp2
            go_roundw
            case rel => exact ⟨j + 1, by go_num, by omega, by rw [hs2.out], hE4⟩
            case measure => simp [intOf]; omega
          · have hs2 : canN (canC C) P.length (bitX set) (j + 1) = cn + 1 := by rw [hsucc.out, hbv]; simp
            have hs3 : (s : Int) - ((cn + 1 : Nat) : Int) = (s : Int) - (cn : Int) - 1 := by omega
            replace hs2 := Lib.hid hs2
            replace hs3 := Lib.hid hs3
            replace hbv := Lib.hid hbv
            go_wp2
            go_roundw
            case rel => exact ⟨j + 1, by go_num, by omega, by rw [hs2.out, hs3.out], hE4⟩
            case measure => simp [intOf]; omega
        · obtain rfl : j = C.length := by omega
          go_wp2
          go_ret
          exact ⟨ret_int hnf.out.symm, hE⟩
end Go.Proofs.YtdehmioobkneiaaGreatDoor
