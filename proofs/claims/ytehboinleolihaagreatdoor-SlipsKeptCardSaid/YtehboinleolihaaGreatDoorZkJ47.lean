/- Right slips that the stream makes; texts of slips that it changes. Conditions: sizes. Slips are kept as specified: the property answers true. Conditions: the argument is a list of ints that lies in memory; the table of the powers of ten stands; the variable internal/bytealg.MaxLen holds some number. -/
import Derived.Test.YtehboinleolihaaGreatDoorZkSlK
import Derived.Test.YtehboinleolihaaGreatDoorZkTxF
import Derived.Test.YtehboinleolihaaGreatDoorZkSkC
import Derived.Test.YtehboinleolihaaGreatDoorZkSkD
import Derived.Test.YtehboinleolihaaGreatDoorZkLbS
import Derived.Test.YtehboinleolihaaGreatDoorZkLbK
import Derived.Test.YtehboinleolihaaGreatDoorZkLcE
import Derived.Test.YtehboinleolihaaGreatDoorZkJ22
import Derived.Deep.CutBlock
set_option linter.unusedSimpArgs false
set_option linter.unusedVariables false
namespace Go.Proofs.YtehboinleolihaaGreatDoor
open Go Go.RowKit
/-- What the maker of right slips answers. -/
def RightR (s k : Nat) (w : World) (e : Ending) (w' : World) : Prop := ∃ (p : Option Addr) (n c : Nat) (V : List SlipV), e = .returned (.slice p n c) ∧ n ≤ 14 ∧ Slc 7 slipC w' p n c V ∧ (∀ a, p = some a → w.heap.size ≤ a.block) ∧ V.length = n ∧ (∀ x ∈ V, x.Small) ∧ slipsF V = 0 ∧ Str w' s (k + 720) ∧ ExtS s w w'
set_option maxRecDepth 100000 in
set_option maxHeartbeats 3200000 in
theorem rightSlips_any (s k : Nat) (w : World) (hk : k ≤ 800000) (h : Str w s k) :
 Calls Tryz.prog 41 #[.pointer (some ⟨s, 0, none⟩)] w (RightR s k w) := by
 go_enter Tryz.func41, Tryz.ntmps41
 go_wp2
 go_loopw [4] (fun v4 wr => ∃ j : Nat, j ≤ 6 ∧ v4 = .int .i64 j ∧ Str wr s (k + 120 * j) ∧ ExtS s w wr) (fun v4 _ => 6 - (intOf v4).toNat)
 case atStart => exact ⟨0, Nat.zero_le _, rfl, h, ExtS.refl _ _⟩
 case round =>
  obtain ⟨j, hj, rfl, hS, hE⟩ := hrel
  by_cases hlt : j < 6
  ·have hjI : (j : Int) < 6 := by omega
   have hsl := slips_any s (k + 120 * j) wr (by omega) hS
   have hwr := hE.2.2.2.1
   have hlow : ∀ (w' : World) (p : Option Addr) (n c : Nat) (V : List SlipV), w'.ownsRow (wr.heap.size + 1) 79 7 (.slice p n c) n (V.flatMap slipC) → n ≤ 14 → Slc 7 slipC w' p n c V ∧ ∀ a, p = some a → w.heap.size ≤ a.block := fun w' p n c V ho hn => by
    obtain ⟨p', c', e', hS'⟩ := slc_of_own slipC_len ho (by decide) (by omega)
    cases e'
    refine ⟨hS', fun a ha => ?_⟩
    subst ha
    have := (ho.lt a.block rfl).1
    omega
   replace hsl := Lib.hid hsl; replace hlow := Lib.hid hlow
   go_upto_if 10 with (first
    | (go_at_call 10; (with_reducible refine Calls.mono hsl.out ?_); rintro e w2 ⟨p, n, c, V, rfl, hn, hown, hVl, hsm, hS2, hE2⟩; obtain ⟨hSl, hpb⟩ := hlow.out w2 p n c V hown hn; clear hown; replace hpb := Lib.hid hpb)
    | (go_at_call 68; refine (slipsFault_any p n c V w2 hSl.1 hsm (by omega)).mono ?_; rintro e w3 ⟨rfl, hb3⟩))
   have hE3 : ExtS s w w3 := (hE.trans hE2).ext hb3
   have hS3 := hS2.ext hb3
   have hSl3 := hSl.ext hb3
   clear hSl hE hS hE2 hS2
   by_cases hq : slipsF V = 0
   ·have hres : RightR s k w (.returned (.slice p n c)) w3 := ⟨p, n, c, V, rfl, hn, hSl3, hpb.out, hVl, hsm, hq, hS3.more (by omega), hE3⟩
    replace hres := Lib.hid hres; replace hSl3 := Lib.hid hSl3; replace hsm := Lib.hid hsm
    generalize slipsF V = f at *
    go_wp2
    go_ret
    exact hres.out
   ·replace hSl3 := Lib.hid hSl3
    replace hsm := Lib.hid hsm
    generalize slipsF V = f at *
    go_wp2
    go_roundw
    case rel => exact ⟨j + 1, by omega, by go_num, hS3.more (by omega), hE3⟩
    case measure => simp [intOf]; omega
  ·obtain rfl : j = 6 := by omega
   go_wp2
   go_ret
   exact ⟨none, 0,0,[], rfl, by omega, Slc.nil _ _ _, (fun a ha => by cases ha), rfl, (fun x hx => by cases hx), rfl, hS.more (by omega), hE⟩
def chB : ByteArray := ⟨#[32,10,48,49,97,98,45]⟩
set_option maxRecDepth 100000 in
set_option maxHeartbeats 3200000 in
theorem slipString_any (B s k : Nat) (w : World) (hk : k ≤ 700000) (h : Str w s k) (hB : B ≤ s) (ht : Tab B w) :
 Calls Tryz.prog 77 #[.pointer (some ⟨s, 0, none⟩)] w fun e w' => ∃ y : ByteArray, e = .returned (.string y) ∧ y.size ≤ 5000 ∧ Str w' s (k + 800) ∧ ExtS s w w' := by
 have hrs := rightSlips_any s k w (by omega) h
 replace hrs := Lib.hid hrs
 go_enter Tryz.func77, Tryz.ntmps77
 go_wp2_with (first
  | (go_at_call 41; (with_reducible refine Calls.mono hrs.out ?_); rintro e w1 ⟨p, n, c, V, rfl, hn, hSl, hpb, hVl, hsm, hq, hS1, hE1⟩; have hSs := hSl.1; clear hSl; have hok : ∀ x ∈ V, SlipOk x := fun x hx => slip_ok ((slipsF_good hq).2 x hx); have htl := text_len hok; replace hok := Lib.hid hok; replace hsm := Lib.hid hsm; replace hpb := Lib.hid hpb; replace hq := Lib.hid hq)
  | (go_at_call 76; (with_reducible refine Calls.mono (slipLines_any B p n c V w1 hSs hok.out (by omega) (ht.extS hB hE1)) ?_); rintro e w2 ⟨rfl, hb2⟩; have hS2 := hS1.ext hb2; have hE2 := hE1.ext hb2; clear hS1 hE1 hSs)
  | (go_at_call 13; have l2 := hS2.lt; refine (pick_in s (k + 720) _ _ 4 [0,0,1,2] 0 2 _ (by omega) (by simp) (by simp) (by exact hS2.ext (Ext.alloc (Ext.refl _) _)) (by exact Nat.ne_of_gt l2) (by exact Blk.new' rfl) (by decide)).mono ?_; rintro e w3 ⟨m0, hm0, hm2, rfl, hS3, hE3⟩; have hE3' := (hE2.alloc _).trans hE3; clear hS2 hE2 hE3))
 obtain ⟨m, rfl⟩ : ∃ m : Nat, m0 = m := ⟨m0.toNat, by omega⟩
 have hy0 : (⟨(textV V).toArray⟩ : ByteArray).size ≤ 4200 := by show (textV V).toArray.size ≤ _; simp; omega
 generalize (⟨(textV V).toArray⟩ : ByteArray) = y0 at *
 go_loopw [3,10] (fun v3 v10 wr => ∃ (j : Nat) (y : ByteArray), j ≤ m ∧ v10 = .int .i64 j ∧ v3 = .string y ∧ y.size ≤ 4200 + 11 * j ∧ Str wr s (k + 721 + 3 * j) ∧ ExtS s w wr) (fun _ v10 _ => m - (intOf v10).toNat)
 case atStart => exact ⟨0, y0, Nat.zero_le _, rfl, rfl, hy0, hS3, hE3'⟩
 case round =>
  clear hS3 hE3' hy0
  obtain ⟨j, y, hj, rfl, rfl, hy, hS, hE⟩ := hrel
  by_cases hlt : j < m
  ·have hcg := changed_any s (k + 721 + 3 * j) y chB wr (by omega) (by omega) (by decide) (by decide) hS
   unfold chB at hcg
   replace hcg := Lib.hid hcg
   go_wp2_with (go_at_call 157; (with_reducible refine Calls.mono hcg.out ?_); rintro e w4 ⟨z, rfl, hz, hS4, hE4⟩; replace hz : z.size ≤ y.size + 7 + 4 := hz)
   go_roundw
   case rel => exact ⟨j + 1, z, by omega, by go_num, rfl, by omega, hS4.more (by omega), hE.trans hE4⟩
   case measure => simp [intOf]; omega
  ·obtain rfl : j = m := by omega
   go_wp2
   go_ret
   exact ⟨y, rfl, by omega, hS.more (by omega), hE⟩
end Go.Proofs.YtehboinleolihaaGreatDoor
namespace Go.Proofs.YtehboinleolihaaGreatDoor
open Go Go.RowKit
/-- Two lists of slips, titles and rules of lending in memory. -/
def TwoS (s g5 : Nat) (p1 : Option Addr) (c1 : Nat) (T : List TitleV) (r : LendR) (z : Nat) (W0 wc : World) (pa : Option Addr) (ca : Nat) (A : List SlipV) (pb : Option Addr) (cb : Nat) (Bl : List SlipV) : Prop :=
 Slc 7 slipC wc pa A.length ca A ∧ wc.ownsRow z 79 7 (.slice pb Bl.length cb) Bl.length (Bl.flatMap slipC) ∧ (∀ a b, pa = some a → pb = some b → a.block ≠ b.block) ∧ (∀ x ∈ A, x.Small) ∧ (∀ x ∈ Bl, x.Small) ∧ A.length ≤ 14 ∧ Bl.length ≤ 14 ∧
  Slc 3 titleC wc p1 T.length c1 T ∧ (∀ a, p1 = some a → s < a.block ∧ a.block < z) ∧ (∀ a, pa = some a → s < a.block) ∧ Blk wc g5 28 #[.int .i64 r.days, .int .i64 r.late, .int .i64 r.most, .int .i64 r.each] ∧ g5 < z ∧ s < g5 ∧ Str wc s 400 ∧ ExtS s W0 wc
set_option maxRecDepth 100000 in
set_option maxHeartbeats 25600000 in
theorem lawSK_any (B : Nat) (w : World) (p : Option Addr) (n c : Nat) (h : Lst w w.heap.size p n) (ht : Tab B w) (hm : MaxL B w) :
 Calls Tryz.prog 8 #[.slice p n c] w fun e w' => e = .returned (.bool true) ∧ Ext w w' := by
 have hS0 : Str (w.alloc (.cells #[.slice p n c, .int .i64 0] 25)) w.heap.size 0 := ⟨p, n, c, 0, Nat.le_refl _, Blk.new' rfl, h.low fun j hj => Below.heap_alloc w _ j hj⟩
 have hB := ht.1
 clear h
 have hback : ∀ u, ExtS w.heap.size (w.alloc (.cells #[.slice p n c, .int .i64 0] 25)) u → Ext w u := fun u hu => ExtS.back ((Ext.refl w).alloc _) (by simp) hu
 have hW0s : (w.alloc (.cells #[.slice p n c, .int .i64 0] 25)).heap.size = w.heap.size + 1 := by simp
 have hlb := library_any w.heap.size 0 _ (by omega) hS0
 replace hback := Lib.hid hback; replace hlb := Lib.hid hlb; replace hW0s := Lib.hid hW0s
 go_enter Tryz.func8, Tryz.ntmps8
 go_upto_region 3 with (go_at_call 9; (with_reducible refine Calls.mono hlb.out ?_); rintro e w1 ⟨p1, n1, c1, T, r, rfl, hn1, hTo, hTl, hTs, hS1, hE1⟩; unfold lendVal)
 have hS1a := hS1.ext ((Ext.refl w1).alloc (.cells (lendC r) 28))
 have hE1a := hE1.alloc (.cells (lendC r) 28)
 have hT1a := hTo.alloc (.cells (lendC r) 28)
 have hR1a : Blk (w1.alloc (.cells (lendC r) 28)) w1.heap.size 28 (lendC r) := Blk.new' rfl
 have hsl : w.heap.size < w1.heap.size := hS1.lt
 rw [hW0s.out] at hT1a
 have hTlt := fun g hg => (hTo.lt g hg).2
 unfold lendC at hS1a hE1a hT1a hR1a
 clear hS0 hS1 hE1 hTo hlb
 generalize hW1 : (w1.alloc (.cells #[.int .i64 r.days, .int .i64 r.late, .int .i64 r.most, .int .i64 r.each] 28)) = W1 at *
 have hW1s : W1.heap.size = w1.heap.size + 1 := by rw [← hW1]; simp
 clear hW1
 generalize w1.heap.size = g5 at *
 subst hTl
 have hsa := slips_any w.heap.size (0 + 40) W1 (by omega) hS1a
 replace hsa := Lib.hid hsa
 go_upto_if 34 with (first
  | (go_at_call 10; (with_reducible refine Calls.mono hsa.out ?_); rintro e w2 ⟨p2, n2, c2, V, rfl, hn2, hVo, hVl, hVs, hS2, hE2⟩; subst hVl; obtain ⟨p2', c2', e2', hV2⟩ := slc_of_own slipC_len hVo (by decide) (by omega); cases e2'; have hcl := cloneSlip_any p2 V.length c2 V w2 hV2 (by omega); replace hcl := Lib.hid hcl)
  | (go_at_call 66; (with_reducible refine Calls.mono hcl.out ?_); rintro e w3 ⟨v3, rfl, hC3, hb3⟩)
  | (go_at_call 46; (with_reducible refine Calls.mono (flip_any w.heap.size (0 + 40 + 120) 3 w3 (by omega) (by omega) (by omega) (by exact hS2.ext hb3)) ?_); rintro e w4 ⟨fl, rfl, hS4, hE4⟩))
 have hsz2 : W1.heap.size ≤ w2.heap.size := hE2.2.2.2.1
 have hsz3 := hb3.size
 have hsz4 : w3.heap.size ≤ w4.heap.size := hE4.2.2.2.1
 have hp2 : ∀ a, p2 = some a → W1.heap.size < a.block ∧ a.block < w2.heap.size := fun a ha => by subst ha; have h9 := hVo.lt a.block rfl; exact ⟨by omega, h9.2⟩
 obtain ⟨p3, c3, rfl, -⟩ := slc_of_own slipC_len hC3 (by decide) (by omega)
 have hV4 := (hV2.ext hb3).extS hE4 (fun a ha => by have := hp2 a ha; omega)
 have hE14 := (hE2.ext hb3).trans hE4
 have hT4 := own_extS hE14 (by omega) hT1a
 have hR4 := hR1a.extS (by omega) hE14
 have hE04 := hE1a.trans hE14
 obtain ⟨p1', c1', e1', hTS4⟩ := slc_of_own titleC_len hT4 (by decide) (by omega)
 cases e1'
 have hp1 : ∀ a, p1 = some a → w.heap.size < a.block ∧ a.block < W1.heap.size := fun a ha => by subst ha; have := hTlt a.block rfl; have := (hT1a.lt a.block rfl).1; omega
 have hC4 := own_extS hE4 (by omega) hC3
 clear hV2 hVo hC3 hE14 hE1a hT1a hR1a hsa hcl hS2 hE2 hE4 hS1a hTlt hT4; replace hTs := Lib.hid hTs
 replace hback := Lib.hid hback.out
 go_cut [6,7] (fun v6 v7 wc => ∃ pa ca A pb cb Bl, v6 = .slice pa A.length ca ∧ v7 = .slice pb Bl.length cb ∧ TwoS w.heap.size g5 p1 c1 T r W1.heap.size (w.alloc (.cells #[.slice p n c, .int .i64 0] 25)) wc pa ca A pb cb Bl)
 case first =>
  as_aux_lemma =>
   cases fl
   ·have hhs := halfSlipsO_any w.heap.size (0 + 40 + 120 + 1) p2 V.length c2 V w4 (by omega) (by omega) hS4 hV4 (fun a ha => by have := hp2 a ha; omega)
    replace hhs := Lib.hid hhs
    go_wp2_with (go_at_call 67; (with_reducible refine Calls.mono hhs.out ?_); rintro e w5 ⟨pa, pb, ca, cb, A, Bl, rfl, hA5, hB5, hna, hnb, hAs, hBs, -, hno, hS5, hE5⟩)
    go_meet
    obtain ⟨pa', ca', ea, hA5'⟩ := slc_of_own slipC_len hA5 (by decide) (by omega)
    cases ea
    exact ⟨pa, ca, A, pb, cb, Bl, rfl, rfl, hA5', own_low hB5 (by omega), (fun a b ha hb => by subst ha; subst hb; intro e; exact hno a.block rfl (by show some b.block = _; rw [e])), (fun x hx => hVs x (hAs.subset hx)), (fun x hx => hVs x (hBs.subset hx)), by omega, by omega, hTS4.extS hE5 (fun a ha => by have := hp1 a ha; omega), hp1, (fun a ha => by subst ha; have := (hA5.lt a.block rfl).1; omega), hR4.extS (by omega) hE5, by omega, hsl, hS5.more (by omega), hE04.trans hE5⟩
   ·have hsb := slips_any w.heap.size (0 + 40 + 120 + 1) w4 (by omega) hS4
    replace hsb := Lib.hid hsb
    go_wp2_with (go_at_call 10; (with_reducible refine Calls.mono hsb.out ?_); rintro e w5 ⟨p5, n5, c5, V5, rfl, hn5, hVo5, hVl5, hVs5, hS5, hE5⟩)
    subst hVl5
    go_meet
    exact ⟨p2, c2, V, p5, c5, V5, rfl, rfl, hV4.extS hE5 (fun a ha => by have := hp2 a ha; omega), own_low hVo5 (by omega), (fun a b ha hb => by subst hb; have := (hVo5.lt b.block rfl).1; have := hp2 a ha; omega), hVs, hVs5, by omega, by omega, hTS4.extS hE5 (fun a ha => by have := hp1 a ha; omega), hp1, (fun a ha => by have := hp2 a ha; omega), hR4.extS (by omega) hE5, by omega, hsl, hS5.more (by omega), hE04.trans hE5⟩
 case rest =>
  as_aux_lemma =>
   obtain ⟨pa, ca, A, pb, cb, Bl, rfl, rfl, hA5, hB5, hab, hAs, hBs, hna, hnb, hT5, hpt5, hpa5, hR5, hg5, hs5, hS5, hE5⟩ := hcut
   obtain ⟨wA, rfl⟩ : ∃ w9, w9 = wc := ⟨_, rfl⟩
   clear hVs hV4 hTS4 hR4 hE04 hC4 hp2 hS4
   go_upto_region 8 with fail
   go_cut [49] (fun v49 wd => ∃ bb : Bool, v49 = .bool bb ∧ (bb = true → 0 < Bl.length) ∧ Str wd w.heap.size 401 ∧ ExtS w.heap.size wA wd)
   case first =>
    as_aux_lemma =>
     rcases Nat.eq_zero_or_pos Bl.length with h0 | h0
     ·have hI0 : ¬ (0 : Int) < (Bl.length : Int) := by omega
      replace h0 := Lib.hid h0
      go_wp2
      go_meet
      exact ⟨false, rfl, (fun e => by cases e), hS5.more (by omega), ExtS.refl _ _⟩
     ·have hI0 : (0 : Int) < Bl.length := by omega
      go_wp2_with (go_at_call 46; (with_reducible refine Calls.mono (flip_any w.heap.size 400 6 _ (by omega) (by omega) (by omega) (by exact hS5)) ?_); rintro e w6 ⟨f6, rfl, hS6, hE6⟩)
      go_meet
      exact ⟨f6, rfl, (fun e => h0), hS6, hE6⟩
   case rest =>
    as_aux_lemma =>
     obtain ⟨bb, rfl, hbb, hS6, hE6⟩ := hcut
     have hE06 := hE5.trans hE6
     obtain ⟨wD, rfl⟩ : ∃ w9, w9 = wc := ⟨_, rfl⟩
     have hA6 := hA5.extS hE6 (fun a ha => by have := hpa5 a ha; omega)
     have hB6 := own_extS hE6 (by omega) hB5
     have hT6 := hT5.extS hE6 (fun a ha => by have := hpt5 a ha; omega)
     have hR6 := hR5.extS (by omega) hE6
     clear hA5 hB5 hT5 hR5 hE5 hE6 hS5
     go_upto_if 49 with fail
     go_cut [7] (fun v7 we => v7 = .slice pb Bl.length cb ∧ ∃ B2 : List SlipV, B2.length = Bl.length ∧ (∀ x ∈ B2, x.Small) ∧ Slc 7 slipC we pa A.length ca A ∧ Slc 7 slipC we pb Bl.length cb B2 ∧ Slc 3 titleC we p1 T.length c1 T ∧ Blk we g5 28 #[.int .i64 r.days, .int .i64 r.late, .int .i64 r.most, .int .i64 r.each] ∧ Str we w.heap.size 401 ∧ ExtS w.heap.size (w.alloc (.cells #[.slice p n c, .int .i64 0] 25)) we)
     case first =>
      as_aux_lemma =>
       cases bb
       ·obtain ⟨pb', cb', e', hB7⟩ := slc_of_own slipC_len hB6 (by decide) (by omega)
        cases e'
        go_wp2
        go_meet
        exact ⟨rfl, Bl, rfl, hBs, hA6, hB7, hT6, hR6, hS6, hE06⟩
       ·have h0 := hbb rfl
        obtain ⟨gb, cap, e9, hgb, hgl⟩ := hB6.form h0
        cases e9
        cases Bl with
        | nil => cases h0
        | cons x rr =>
          obtain ⟨q1, q2, q3⟩ := own_walk hB6
          have q5 : wD.cell? ⟨gb, 5, none⟩ = some (.int .i64 x.copy) := (q1 5 (by simp; omega)).trans rfl
          have q6 := q2 5
          have hset := own_setAt hB6 5 (.int .i64 2)
          rw [slip_set5] at hset
          obtain ⟨pb', cb', e', hB7⟩ := slc_of_own slipC_len hset (by decide) (by simp at hnb ⊢; omega)
          cases e'
          have hI0 : (0 : Int) < ((x :: rr).length : Int) := by omega
          generalize hLn : (x :: rr).length = m at *
          replace hB7 := Lib.hid hB7; clear q1 q2 hset hB6
          go_wp2
          go_meet
          exact ⟨rfl, ⟨x.by_, x.no, x.at_, x.kind, x.piece, 2, x.singer⟩ :: rr, hLn, (fun y hy => by
           rcases List.mem_cons.1 hy with rfl | hy
           ·exact hBs x List.mem_cons_self
           ·exact hBs y (List.mem_cons_of_mem _ hy)), hA6.setD (q := ⟨gb, 5, none⟩) (fun a ha => hab a ⟨gb, 0, none⟩ ha rfl) _, hB7.out, hT6.setD (fun a ha => by have := hp1 a ha; simp only; omega) _, hR6.far (by simp only; omega) _, hS6.set (by simp only; omega) _, hE06.setCell (.inr (by have := hW0s.out; simp only; omega)) _⟩
     case rest =>
      as_aux_lemma =>
       obtain ⟨rfl, B2, hBl, hBs2, hA7, hB7, hT7, hR7, hS7, hE7⟩ := hcut
       obtain ⟨W7, rfl⟩ : ∃ w9, w9 = wc := ⟨_, rfl⟩
       have hbW := hback.out W7 hE7
       have hfa := fun u (hu : Ext W7 u) => slipsFault_any pa A.length ca A u (hA7.ext hu).1 hAs (by omega)
       have hca := fun u (hu : Ext W7 u) => checkSlips_any pa A.length ca A u (hA7.ext hu).1 hAs (by omega)
       have hfb := fun u (hu : Ext W7 u) => slipsFault_any pb Bl.length cb B2 u (hB7.ext hu).1 hBs2 (by omega)
       have hct := fun u (hu : Ext W7 u) => checkTitles_any p1 T.length c1 T u (hT7.ext hu).1 hTs.out (by omega)
       have hft := fun u (hu : Ext W7 u) => faultTitles_any p1 T.length c1 T u (hT7.ext hu).1 hTs.out (by omega)
       have hcl := fun u => checkLending_any r u
       have hfl := fun u => lendFault_any r u
       unfold lendVal at hcl hfl
       have hmg := fun u (hu : Ext W7 u) => (merge_any pa pb A.length ca Bl.length cb A B2 u (hA7.ext hu) (hB7.ext hu) hAs hBs2 (by omega) (by omega)).mono fun e w' hh => MrgR.row hh (by omega)
       have hmr := fun (h1 : slipsF A = 0) (h2 : slipsF B2 = 0) u (hu : Ext W7 u) => (slipsMerged_any pa pb A.length ca Bl.length cb A B2 u (hA7.ext hu) (hB7.ext hu) hAs hBs2 (by omega) (by omega) h1 h2).mono fun e w' hh => MrgR.row hh (by omega)
       have htx := fun u (hu : Ext W7 u) => text_any B pa A.length ca A u (hA7.ext hu).1 hAs (by omega) (ht.ext (hbW.trans hu))
       have hsL := fun (h1 : slipsF A = 0) u (hu : Ext W7 u) => slipLines_any B pa A.length ca A u (hA7.ext hu).1 (fun x hx => slip_ok ((slipsF_good h1).2 x hx)) (by omega) (ht.ext (hbW.trans hu))
       have hrt := fun (h1 : slipsF A = 0) => (readT_text h1 hna).2.1
       have htb : textR A = if slipsF A = 0 then textR A else (⟨#[]⟩, slipsF A) := by
        split
        ·rfl
        ·rename_i h; unfold textR; rw [if_neg h]
       have hmv : ∀ (M : List SlipV) (f : Int), MrgV A B2 M f → (slipsF A ≠ 0 → M = [] ∧ f = slipsF A) ∧ (slipsF A = 0 → slipsF B2 ≠ 0 → M = [] ∧ f = slipsF B2) := fun M f h => by
        unfold MrgV at h
        refine ⟨fun h1 => ?_, fun h1 h2 => ?_⟩
        ·rwa [if_pos h1] at h
        ·rwa [if_neg (by simpa using h1), if_pos h2] at h
       generalize hqA : slipsF A = fA at *
       generalize hqB : slipsF B2 = fB at *
       generalize hqT : titlesF T = fT at *
       generalize hqL : lendF r = fL at *
       replace hqA := Lib.hid hqA; replace hqB := Lib.hid hqB; replace hfa := Lib.hid hfa; replace hca := Lib.hid hca; replace hfb := Lib.hid hfb; replace hct := Lib.hid hct; replace hft := Lib.hid hft; replace hcl := Lib.hid hcl; replace hfl := Lib.hid hfl; replace hmg := Lib.hid hmg; replace hmr := Lib.hid hmr; replace htx := Lib.hid htx; replace hsL := Lib.hid hsL
       replace hrt := Lib.hid hrt; replace htb := Lib.hid htb; replace hmv := Lib.hid hmv; clear hqT hqL hA7 hB7 hT7 hp1
       go_upto_region 11 with (go_at_call 68; (with_reducible refine Calls.mono (hfa.out _ (Ext.refl _)) ?_); rintro e w8 ⟨rfl, hb8⟩)
       have hR8 := hR7.ext hb8
       refine wp_region_planS [(0, true), (1, true), (2, true), (3, true), (4, true), (5, true), (6, true), (7, true), (8, true), (9, true), (10, true), (11, true), (12, true), (13, true), (14, true), (15, true), (16, true), (17, true)] 18 (fun w' => Blk w' g5 28 #[.int .i64 r.days, .int .i64 r.late, .int .i64 r.most, .int .i64 r.each] ∧ Ext w8 w') Ext (by kernel_rfl) (by kernel_rfl) Ext.refl (fun _ _ _ => Ext.trans) (fun _ _ h he => ⟨h.1.ext he, h.2.trans he⟩) ⟨(by (repeat (with_reducible first | assumption | exact Blk.new' (by simp) | refine Blk.drew ?_ | refine Blk.alloc ?_ _ | exact Ext.refl _ | refine Ext.drew ?_ | refine Ext.alloc ?_ _))), (by (repeat (with_reducible first | assumption | exact Blk.new' (by simp) | refine Blk.drew ?_ | refine Blk.alloc ?_ _ | exact Ext.refl _ | refine Ext.drew ?_ | refine Ext.alloc ?_ _)))⟩ ?_
       repeat
        first
         | (refine plan_quiet rfl rfl (fun _ _ _ _ h => h) ?_
            apply Exists.intro
            refine ⟨fun w' hw' => ?_, ?_⟩
            ·obtain ⟨hHa0, hHa1⟩ := hw'
             unfold Blk at hHa0
             simp [go_sem, quietTo, World.cell?, hHa0, Ext.refl, ↓IntWalk.iteOmega]
             first
              | rfl
              | (with_reducible exact hct.out _ (hb8.trans hHa1))
              | (with_reducible exact hft.out _ (hb8.trans hHa1))
              | (with_reducible exact hcl.out _)
              | (with_reducible exact hfl.out _)
              | (with_reducible exact hca.out _ (hb8.trans hHa1))
            simp only [Act.put, sIA, sCS, sCZ])
         | (refine plan_skip rfl rfl (fun _ _ _ _ h => h) ?_
            simp only [Act.put, sIA, sCS, sCZ])
       refine plan_nil fun wra hera hwra => ?_
       clear hera
       obtain ⟨hHa0, hHa1⟩ := hwra
       obtain ⟨hCa0, hFa0⟩ := hHa0.walk
       simp only [List.drop_succ_cons, List.drop_zero, List.drop_nil]
       have hka := hb8.trans hHa1
       obtain ⟨fO, hO⟩ : ∃ fO, fO = orF [fA, fB] := ⟨_, rfl⟩
       replace hO := Lib.hid hO; clear hR8
       go_upto_if 85 with (first
        | (go_at_call 61; (with_reducible refine Calls.mono (hmg.out _ hka) ?_); rintro e w9 ⟨p9, c9, M, f, rfl, hM9, hv9, hMl, hb9⟩)
        | (go_at_call 68; (with_reducible refine Calls.mono (hfb.out _ (hka.trans hb9)) ?_); rintro e w10 ⟨rfl, hb10⟩)
        | (go_at_call 20; refine (orErr_blk _ _ _ [fA, fB] _ (by simp) (by exact Blk.new' rfl)).mono ?_; rintro e w11 ⟨rfl, rfl⟩; rw [← hO.out]))
       have hb11 := (hb9.trans hb10).alloc (.cells #[.int .i64 fA, .int .i64 fB] 36)
       have hM11 := hM9.ext (hb10.alloc (.cells #[.int .i64 fA, .int .i64 fB] 36))
       have hk11 := hka.trans hb11
       have hz : (fO = 0 → fA = 0 ∧ fB = 0) ∧ (fO ≠ 0 → M = [] ∧ f = fO) := by
        have h1 := hmv.out M f hv9
        have h2 := hO.out
        unfold orF at h2
        by_cases h3 : fA = 0
        ·subst h3
         have h4 : (if fB = 0 then 0 else fB) = fB := by split <;> omega
         simp [orF] at h2
         rw [h4] at h2
         subst h2
         exact ⟨fun h => ⟨rfl, h⟩, fun h => h1.2 rfl h⟩
        ·simp [h3] at h2
         subst h2
         exact ⟨fun h => absurd h h3, fun h => h1.1 h⟩
       generalize hLn : M.length = n9 at *
       replace hz := Lib.hid hz; replace hv9 := Lib.hid hv9; replace hM11 := Lib.hid hM11; replace hLn := Lib.hid hLn; clear hM9 hb9 hb10 hb8
       generalize hW11 : (w10.alloc (.cells #[.int .i64 fA, .int .i64 fB] 36)) = W11 at *
       clear hW11
       go_cut [11,12] (fun v11 v12 wd => ∃ (p12 : Option Addr) (c12 : Nat), v11 = .int .i64 f ∧ v12 = .slice p12 n9 c12 ∧ Slc 7 slipC wd p12 n9 c12 M ∧ Ext W11 wd)
       case first =>
        as_aux_lemma =>
         by_cases h0 : fO = 0
         ·obtain ⟨h1, h2⟩ := hz.out.1 h0
          have hmr2 := hmr.out h1 h2 _ hk11
          replace hmr2 := Lib.hid hmr2; replace h1 := Lib.hid h1; replace h2 := Lib.hid h2
          go_wp2_with (go_at_call 74; (with_reducible refine Calls.mono hmr2.out ?_); rintro e w12 ⟨p12, c12, M2, f2, rfl, hM12, hv12, hMl12, hb12⟩)
          go_meet
          obtain ⟨e1, e2⟩ := mrgV_uniq hv9.out hv12
          subst e1
          subst e2
          have e3 := hLn.out
          subst e3
          exact ⟨p12, c12, rfl, rfl, hM12, hb12⟩
         ·obtain ⟨h1, h2⟩ := hz.out.2 h0
          have h3 : n9 = 0 := by rw [← hLn.out, h1]; rfl
          go_wp2
          go_meet
          subst h1
          subst h3
          exact ⟨none, 0, by rw [h2], rfl, Slc.nil 7 slipC _, Ext.refl _⟩
       case rest =>
        as_aux_lemma =>
         obtain ⟨p12, c12, rfl, rfl, hM12, hb12⟩ := hcut
         obtain ⟨w12, rfl⟩ : ∃ w9, w9 = wc := ⟨_, rfl⟩
         have hk12 := hk11.trans hb12
         have heq := fun u (hu : Ext w12 u) => eqSli_any p9 p12 n9 c9 c12 M u ((hM11.out.ext hb12).ext hu) (hM12.ext hu) (by have := hLn.out; omega)
         have hTT : ∃ tS : ByteArray, textR A = (tS, fA) ∧ (fA = 0 → tS = ⟨(textV A).toArray⟩) ∧ (fA ≠ 0 → tS = ⟨#[]⟩) := by
          have h1 := htb.out
          by_cases h0 : fA = 0
          ·exact ⟨_, by rw [hrt.out h0, h0], fun _ => rfl, fun h => absurd h0 h⟩
          ·rw [if_neg h0] at h1
           exact ⟨_, h1, fun h => absurd h h0, fun _ => rfl⟩
         obtain ⟨tS, ht1, ht2, ht3⟩ := hTT
         have htx := htx.out
         have htx : ∀ u, Ext W7 u → Calls Tryz.prog 75 #[.slice pa A.length ca] u fun e w' => e = .returned (.tuple #[.string tS, .int .i64 fA]) ∧ Ext u w' := fun u hu => by
          have h9 := htx u hu
          rw [ht1] at h9
          exact h9
         replace heq := Lib.hid heq; replace htx := Lib.hid htx; replace hz := Lib.hid trivial; clear hM12 hM11 hmv hmg hmr hv9 hct hft hcl hfl hca hfa hfb hrt htb ht1 hqA hqB hO hb11 hb12 hk11
         rcases Classical.em (fA = 0) with h0 | h0
         case' inl => have hSS : tS = ⟨(textV A).toArray⟩ := ht2 h0
         case' inr => have hSS : tS = ⟨#[]⟩ := ht3 h0
         all_goals subst hSS
         all_goals clear ht2 ht3
         case' inl =>
          have hsL2 := fun u (hu : Ext W7 u) => hsL.out h0 u hu
          replace hsL2 := Lib.hid hsL2
         all_goals clear hsL
         case' inl => subst h0
         all_goals try generalize ((⟨(textV A).toArray⟩ : ByteArray)) = tV at *
         all_goals
          go_upto_region 24 with (first
           | (go_at_call 65; (with_reducible refine Calls.mono (heq.out _ (Ext.refl _)) ?_); rintro e w13 ⟨rfl, hb13⟩)
           | (go_at_call 75; (with_reducible refine Calls.mono (htx.out _ (hk12.trans hb13)) ?_); rintro e w14 ⟨rfl, hb14⟩; have hkL := (hk12.trans hb13).trans hb14)
           | (go_at_call 76; (with_reducible refine Calls.mono (hsL2.out _ hkL) ?_); rintro e w15 ⟨rfl, hb15⟩; replace hkL := hkL.trans hb15)
           | (go_at_call 77; (with_reducible refine Calls.mono (slipString_any B w.heap.size 401 _ (by omega) (by exact hS7.ext hkL) hB (by exact ht.ext (hbW.trans hkL))) ?_); rintro e w16 ⟨y, rfl, hys, hS16, hE16⟩))
         all_goals
          have hbY := hback.out w16 ((hE7.ext hkL).trans hE16)
          have hrd := (read_any B y w16 (by omega) (hm.ext hbY)).mono fun e w' hh => ReadR.slc hh
          have hrr := fun u (hu : Ext w16 u) => (slipsRead_any B y u (by omega) (hm.ext (hbY.trans hu)) (ht.ext (hbY.trans hu))).mono fun e w' hh => ReadR.slc hh
          have hle := fun u => lentReady_any u
          generalize hX : (readT y.data.toList).1 = X at *
          generalize hi : (readT y.data.toList).2.1 = i at *
          generalize hf : (readT y.data.toList).2.2 = f9 at *
          clear hX hi hf hS16 hE16 hS7 hE7 hkL hback hbW; replace hrd := Lib.hid hrd; replace hrr := Lib.hid hrr; replace hle := Lib.hid hle
          go_wp2_with (first
           | (go_at_call 78; (with_reducible refine Calls.mono hrd.out ?_); rintro e w17 ⟨p17, n17, c17, rfl, hl17, hn17, hX17, -, hb17⟩)
           | (go_at_call 79; (with_reducible refine Calls.mono (hrr.out _ hb17) ?_); rintro e w18 ⟨p18, n18, c18, rfl, hl18, hn18, hX18, -, hb18⟩; obtain rfl : n17 = n18 := hl17.symm.trans hl18)
           | (go_at_call 65; (with_reducible refine Calls.mono (eqSli_any p17 p18 n17 c17 c18 X _ (hX17.ext hb18) hX18 (by omega)) ?_); rintro e w19 ⟨rfl, hb19⟩)
           | (go_at_call 33; (with_reducible refine Calls.mono (hle.out _) ?_); rintro e w20 ⟨rfl, hb20⟩))
          go_ret
          exact ⟨rfl, (((hbY.trans hb17).trans hb18).trans hb19).trans hb20⟩
end Go.Proofs.YtehboinleolihaaGreatDoor
