/- A way is legs one after the other, as long as is said; by way of another place it is not shorter: the property answers true. Conditions: the argument is a list of ints that lies in memory; the table of the powers of ten stands. -/
import Derived.Test.YtlmbpgjdepmlcaaDoorWayO
import Derived.Test.YtlmbpgjdepmlcaaDoorWayJ
import Derived.Test.YtlmbpgjdepmlcaaDoorReadyK
import Derived.Test.YtlmbpgjdepmlcaaDoorRowKit
namespace Go.Proofs.YtlmbpgjdepmlcaaDoor
open Go Go.RowKit

def bonnB : ByteArray := ⟨#[98, 111, 110, 110]⟩
def jenaB : ByteArray := ⟨#[106, 101, 110, 97]⟩
def kielB : ByteArray := ⟨#[107, 105, 101, 108]⟩
def ulmB : ByteArray := ⟨#[117, 108, 109]⟩
theorem four_key {y : ByteArray} (h : y ∈ [bonnB, jenaB, kielB, ulmB]) : keyB y = true ∧ y.size ≤ 1000 := by
  simp only [List.mem_cons, List.not_mem_nil, or_false] at h
  rcases h with rfl | rfl | rfl | rfl <;> exact ⟨by decide +kernel, by decide⟩
theorem two_ne {y z : ByteArray} (hy : y ∈ [bonnB, jenaB]) (hz : z ∈ [kielB, ulmB]) : y ≠ z := by
  simp only [List.mem_cons, List.not_mem_nil, or_false] at hy hz
  rcases hy with rfl | rfl <;> rcases hz with rfl | rfl <;> intro h <;> exact absurd (congrArg (fun b : ByteArray => b.data) h) (by decide)
theorem two_four {y : ByteArray} (hy : y ∈ [bonnB, jenaB]) : y ∈ [bonnB, jenaB, kielB, ulmB] := by
  simp only [List.mem_cons, List.not_mem_nil, or_false] at hy ⊢
  rcases hy with h | h <;> simp [h]
theorem two_four' {y : ByteArray} (hy : y ∈ [kielB, ulmB]) : y ∈ [bonnB, jenaB, kielB, ulmB] := by
  simp only [List.mem_cons, List.not_mem_nil, or_false] at hy ⊢
  rcases hy with h | h <;> simp [h]

set_option maxRecDepth 100000 in
set_option maxHeartbeats 6400000 in
theorem lawWL_any (B : Nat) (w : World) (p : Option Addr) (n c : Nat) (h : Lst w w.heap.size p n) (ht : Tab B w) :
    Calls Tryd.prog 3 #[.slice p n c] w fun e w' => e = .returned (.bool true) ∧ Ext w w' := by
  have hS0 : Str (w.alloc (.cells #[.slice p n c, .int .i64 0] 25)) w.heap.size 0 := ⟨p, n, c, 0, Nat.le_refl _, Blk.new' rfl, h.low fun j hj => Below.heap_alloc w _ j hj⟩
  have hB := ht.1
  clear h
  have hback : ∀ u, ExtS w.heap.size (w.alloc (.cells #[.slice p n c, .int .i64 0] 25)) u → Ext w u := fun u hu => ExtS.back ((Ext.refl w).alloc _) (by simp) hu
  have hX0 := ExtS.refl w.heap.size (w.alloc (.cells #[.slice p n c, .int .i64 0] 25))
  have hsz0 : (w.alloc (.cells #[.slice p n c, .int .i64 0] 25)).heap.size = w.heap.size + 1 := by simp
  go_enter Tryd.func3, Tryd.ntmps3
  go_upto_region 2 with fail
  generalize w.alloc (.cells #[.slice p n c, .int .i64 0] 25) = W0 at hback hX0 hsz0 hS0 ⊢
  go_upto_region 3 with (first
    | (go_at_call 6; (with_reducible refine Calls.mono (legList_any w.heap.size 0 _ (by omega) hS0) ?_); rintro e w1 ⟨p1, n1, c1, L, rfl, hn1, hSl1, hpa, hsm, hS1, hE1⟩; have hX1 := hX0.trans hE1; replace hpa : ∀ a, p1 = some a → a.block ≠ w.heap.size := (fun a ha => by have := hpa a ha; omega); replace hpa := Lib.hid hpa; replace hsm := Lib.hid hsm; clear hX0 hE1 hS0)
    | (go_at_call 7; have l1 := hS1.lt; refine (somes_any w.heap.size (0 + 60) _ _ 2 [bonnB, jenaB] _ (by omega) (by simp) (by simp) (by exact hS1.ext (Ext.alloc (Ext.refl _) _)) (by exact Nat.ne_of_gt l1) (by exact Blk.new' rfl)).mono ?_; rintro e w2 ⟨fr, hfr, rfl, hS2, hE2⟩; have hX2 := (hX1.alloc _).trans hE2; have hSl2 := (hSl1.ext (Ext.alloc (Ext.refl _) _)).extS hE2 hpa.out; replace hfr := Lib.hid hfr; clear hX1 hE2 hS1 hSl1)
    | (go_at_call 7; have l2 := hS2.lt; refine (somes_any w.heap.size (0 + 60 + 1) _ _ 2 [kielB, ulmB] _ (by omega) (by simp) (by simp) (by exact hS2.ext (Ext.alloc (Ext.refl _) _)) (by exact Nat.ne_of_gt l2) (by exact Blk.new' rfl)).mono ?_; rintro e w3 ⟨tt, htt, rfl, hS3, hE3⟩; have hX3 := (hX2.alloc _).trans hE3; have hSl3 := (hSl2.ext (Ext.alloc (Ext.refl _) _)).extS hE3 hpa.out; replace htt := Lib.hid htt; clear hX2 hE3 hS2 hSl2)
    | (go_at_call 7; have l3 := hS3.lt; refine (somes_any w.heap.size (0 + 60 + 1 + 1) _ _ 4 [bonnB, jenaB, kielB, ulmB] _ (by omega) (by simp) (by simp) (by exact hS3.ext (Ext.alloc (Ext.refl _) _)) (by exact Nat.ne_of_gt l3) (by exact Blk.new' rfl)).mono ?_; rintro e w4 ⟨mi, hmi, rfl, hS4, hE4⟩; have hX4 := (hX3.alloc _).trans hE4; have hSl4 := (hSl3.ext (Ext.alloc (Ext.refl _) _)).extS hE4 hpa.out; replace hmi := Lib.hid hmi; clear hX3 hE4 hS3 hSl3))
  have hE4 := hback _ hX4
  clear hback hX4 hS4 hpa hsz0
  have hlt := faultLegs_any p1 n1 c1 L w4 hSl4.1 hsm.out (by omega)
  by_cases hz : legsF L = 0
  · rw [hz] at hlt
    go_upto_region 5 with (go_at_call 8; (with_reducible refine Calls.mono hlt ?_); rintro e w5 ⟨rfl, hb5⟩)
    have hE5 := hE4.trans hb5
    have hSl5 := hSl4.ext hb5
    replace hz := Lib.hid hz
    have hka := four_key (two_four hfr.out)
    have hkt := four_key (two_four' htt.out)
    have hkm := four_key hmi.out
    replace hka := Lib.hid hka
    replace hkt := Lib.hid hkt
    replace hkm := Lib.hid hkm
    clear hlt hb5 hSl4 hE4
    go_upto_region 8 with (first
      | (go_at_call 10; (with_reducible refine Calls.mono (shortest_uni p1 n1 c1 L fr tt _ hSl5 hz.out hsm.out hka.out.1 hkt.out.1 hka.out.2 hkt.out.2) ?_); rintro e w6 ⟨f1, m1, q, k, cc, b1, rfl, hb6, hW1, hR1⟩; have hE6 := (hE5.trans hb6).alloc (.cells #[.slice q k cc] 32); have hSl6 := (hSl5.ext hb6).ext ((Ext.refl _).alloc (.cells #[.slice q k cc] 32)); have hP6 := Blk.new' (w := w6) (t := 32) (cs := #[.slice q k cc]) rfl; have hV6 := (Ext.refl w6).alloc (.cells #[.slice q k cc] 32); replace hW1 := Lib.hid hW1; replace hR1 := Lib.hid hR1; clear hSl5 hE5 hb6)
      | (go_at_call 10; (with_reducible refine Calls.mono (shortest_uni p1 n1 c1 L fr mi _ hSl6 hz.out hsm.out hka.out.1 hkm.out.1 hka.out.2 hkm.out.2) ?_); rintro e w7 ⟨f2, m2, q2, k2, cc2, b2, rfl, hb7, hW2, hR2⟩; have hE7 := hE6.trans hb7; have hSl7 := hSl6.ext hb7; have hP7 := hP6.ext hb7; have hV7 := hV6.trans hb7; replace hW2 := Lib.hid hW2; replace hR2 := Lib.hid hR2; clear hSl6 hE6 hb7 hP6 hV6)
      | (go_at_call 10; (with_reducible refine Calls.mono (shortest_uni p1 n1 c1 L mi tt _ hSl7 hz.out hsm.out hkm.out.1 hkt.out.1 hkm.out.2 hkt.out.2) ?_); rintro e w8 ⟨f3, m3, q3, k3, cc3, b3, rfl, hb8, hW3, hR3⟩; have hE8 := hE7.trans hb8; have hSl8 := hSl7.ext hb8; have hP8 := hP7.ext hb8; have hV8 := hV7.trans hb8; replace hW3 := Lib.hid hW3; replace hR3 := Lib.hid hR3; clear hSl7 hE7 hb8 hP7 hV7))
    go_cut [94] (fun s94 w' => s94 = .bool false ∧ w8 = w')
    case first =>
      obtain ⟨r1, r2, r3, r4⟩ := hR1.out
      obtain ⟨r5, r6, r7, r8⟩ := hR2.out
      obtain ⟨r9, ra, rb, rc⟩ := hR3.out
      have key : b2 = true → b3 = true → b1 = true ∧ m1 ≤ m2 + m3 := fun h2 h3 => by
        obtain ⟨⟨z2, hz2⟩, -⟩ := r6 h2
        obtain ⟨⟨z3, hz3⟩, -⟩ := ra h3
        obtain ⟨o, ho, hle⟩ := ways_tri hW1.out hW2.out hW3.out hz2 hz3
        cases b1
        · rw [r1 rfl] at ho; cases ho
        · obtain ⟨⟨z1, hz1⟩, -⟩ := r2 rfl
          rw [hz1] at ho
          cases ho
          exact ⟨rfl, hle⟩
      clear r1 r2 r5 r6 r9 ra
      cases b2
      · replace key := Lib.hid key
        go_wp2
        go_meet
        exact ⟨by simp, rfl⟩
      · cases b3
        · replace key := Lib.hid key
          go_wp2
          go_meet
          exact ⟨by simp, rfl⟩
        · obtain ⟨rfl, hle⟩ := key rfl rfl
          clear key
          go_wp2
          go_meet
          exact ⟨by simp; omega, rfl⟩
    case rest =>
      obtain ⟨rfl, rfl⟩ := hcut
      cases b1
      · go_wp2_with (go_at_call 9; refine (ready_any B _ (by exact ht.ext hE8)).mono ?_; rintro e wz ⟨rfl, hzz⟩)
        go_ret
        exact ⟨rfl, hE8.trans hzz⟩
      · obtain ⟨ps, xs, hSp, hC, hm, hlen, hp0, hpl⟩ := (hR1.out.2.1 rfl).2
        have hmb := hR1.out.2.2
        obtain ⟨hL, -⟩ := legsF_ok hz.out
        have hxs : 0 < xs.length := by
          rcases Nat.eq_zero_or_pos xs.length with h0 | h0
          · rw [h0, hp0] at hpl
            exact absurd (Option.some.inj hpl) (two_ne hfr.out htt.out)
          · exact h0
        have hpl1 := hC.1
        obtain ⟨hkl, ⟨-, rfl⟩ | ⟨pb, off, rfl, hpb, hEp⟩⟩ := slc_cases (hSp.ext hV8)
        · cases hp0
        · obtain ⟨hnl, ⟨-, rfl⟩ | ⟨b, of1, rfl, hb, hEl⟩⟩ := slc_cases hSl8
          · obtain ⟨y, hy⟩ := List.exists_mem_of_length_pos hxs
            exact absurd (hC.mem y hy) (by simp)
          · rw [hpl1] at hkl
            subst hkl
            subst hnl
            have hfine : ∀ x ∈ L, x.Fine := fun x hx => ⟨(hsm.out x hx).1, (hsm.out x hx).2.1, (hL.one x hx).1, (hL.one x hx).2⟩
            have hll := hL.len
            have hri := hL.rise
            have hbd := fun i => hC.bound hL i hlen
            have hxm : ∀ x ∈ xs, 1 ≤ x.m ∧ x.m ≤ 100000000 := fun x hx => hL.one x (hC.mem x hx)
            have hP0 := hP8.lt
            have hs8 := hV8.size
            generalize hP9 : w6.heap.size = P9 at *
            clear hR1 hR2 hR3 hW1 hW2 hW3 hSp hSl8 hV8 hP9 hz hfr htt hmi hka hkt hkm hL
            replace hC := Lib.hid hC
            replace hfine := Lib.hid hfine
            replace hri := Lib.hid hri
            replace hbd := Lib.hid hbd
            replace hxm := Lib.hid hxm
            replace hEp := Lib.hid hEp
            replace hEl := Lib.hid hEl
            replace hp0 := Lib.hid hp0
            replace hpl := Lib.hid hpl
            go_wp2
            go_loopg [20, 21] xs.length (fun gn v20 v21 wr => ∃ (i I1 : Nat), v20 = .int .i64 (minutesL (xs.take i)) ∧ v21 = .pointer (some ⟨I1, 0, none⟩) ∧ Blk wr I1 3 #[.int .i64 ((i : Int) + 1)] ∧ w8.heap.size ≤ I1 ∧ i ≤ xs.length ∧ Ext w8 wr ∧ gn = xs.length - i)
            case atStart => exact ⟨0, w8.heap.size, rfl, rfl, Blk.new' rfl, Nat.le_refl _, Nat.zero_le _, (Ext.refl _).alloc _, rfl⟩
            case round =>
              obtain ⟨i, I1, rfl, rfl, hI, hI1, hi, hE, rfl⟩ := hrel
              have hPr := hP8.ext hE
              have hPlt := hPr.lt
              have hIlt := hI.lt
              obtain ⟨z1, -⟩ := hPr.walk
              obtain ⟨z3, -⟩ := hI.walk
              by_cases hlt : i < xs.length
              · obtain ⟨x, hx⟩ := getD_some (rfl : xs.length = xs.length) hlt
                obtain ⟨hxL, hx0, hx1⟩ := hC.out.2 i x hx
                have hxb := hxm.out x (List.mem_of_getElem? hx)
                have hbi := hbd.out i
                have hmt := minutes_take xs hx
                have cq0 := hEp.out.str hx0
                have cq1 := hEp.out.str hx1
                have hidx := legIdx_any (stepB x.fr x.to) 12 #[.pointer (some ⟨P9, 0, none⟩), .pointer (some ⟨I1, 0, none⟩)] (enters_of Tryd.func12 (by kernel_rfl) rfl) b of1 L.length c1 L wr hfine.out
                  (fun W y hy hW => by
                    obtain ⟨hc, _, hz9⟩ := hW.walk
                    obtain ⟨hc2, _, _⟩ := (hE.trans hW).walk
                    exact legs1_any y P9 I1 pb off i (xs.length + 1) cc x.fr x.to W (by omega) (by omega) (Nat.lt_of_lt_of_le hpb (hE.trans hW).size) (by omega) (by omega) ((hc _ _ hPlt).trans (z1 0)) ((hc _ _ hIlt).trans (z3 0)) ((hc2 _ _ hpb).trans cq0) ((hc2 _ _ hpb).trans cq1))
                  rfl (by omega) (Nat.lt_of_lt_of_le hb hE.size) (hEl.out.ext hE hb)
                have hst : stepB x.fr x.to x = true := by simp [stepB]
                replace hx := Lib.hid hx
                replace hmt := Lib.hid hmt
                generalize hsu : minutesL (xs.take i) = su at *
                clear cq0 cq1
                go_upto_region 17 with (go_at_call 11; (with_reducible refine Calls.mono hidx ?_); rintro e w9 ⟨ii, rfl, hb9, hor⟩)
                obtain ⟨j, hj, rfl⟩ : ∃ j : Nat, L[j]? = some x ∧ ii = (j : Int) := by
                  rcases hor with ⟨_, h2⟩ | ⟨j, x', hj, hpx, e⟩
                  · rw [h2 x hxL] at hst; cases hst
                  · unfold stepB at hpx
                    simp only [Bool.and_eq_true] at hpx
                    obtain rfl := chain_find hri.out hC.out hx.out hj (bytes_beq.1 hpx.1) (bytes_beq.1 hpx.2)
                    exact ⟨j, hj, e⟩
                have hjl := (List.getElem?_eq_some_iff.1 hj).1
                have hj1 : (j : Int) < L.length := by omega
                have hE9 := hE.trans hb9
                have hbw := Nat.lt_of_lt_of_le hb hE9.size
                obtain ⟨-, -, e2⟩ := (hEl.out.ext hE9 hb).leg hj
                obtain ⟨y1, -⟩ := (hI.ext hb9).walk
                have hsz9 := hE9.size
                clear hor hst hidx hx0 hx1 z1 z3
                go_wp2
                go_roundg (xs.length - (i + 1))
                case measure => omega
                case rel => exact ⟨i + 1, w9.heap.size, by rw [hmt.out], rfl, (Blk.new' rfl).cast (by push_cast; rfl), hsz9, by omega, hE9.alloc _, rfl⟩
              · obtain rfl : i = xs.length := by omega
                have hm' : minutesL (xs.take xs.length) = m1 := by rw [List.take_length, hm]
                rw [hm']
                have hbp := Nat.lt_of_lt_of_le hpb hE.size
                have c0 := (hEp.out.ext hE hpb).str hp0.out
                rw [Nat.add_zero] at c0
                have c1 := (hEp.out.ext hE hpb).str hpl.out
                have hk1 : ((xs.length : Int) + 1 - 1) = (xs.length : Int) := by omega
                clear hm hm'
                go_wp2_with (go_at_call 9; refine (ready_any B _ (by exact ht.ext (hE8.trans hE))).mono ?_; rintro e wz ⟨rfl, hzz⟩)
                go_ret
                exact ⟨by simp, (hE8.trans hE).trans hzz⟩
  · replace hz := Lib.hid hz
    go_wp2_with (first
      | (go_at_call 8; (with_reducible refine Calls.mono hlt ?_); rintro e w5 ⟨rfl, hb5⟩; have hz9 : ¬ legsF L = 0 := hz.out; have hE5 := hE4.trans hb5)
      | (go_at_call 9; refine (ready_any B _ (by exact ht.ext hE5)).mono ?_; rintro e wz ⟨rfl, hzz⟩))
    go_ret
    exact ⟨rfl, hE5.trans hzz⟩
end Go.Proofs.YtlmbpgjdepmlcaaDoor
