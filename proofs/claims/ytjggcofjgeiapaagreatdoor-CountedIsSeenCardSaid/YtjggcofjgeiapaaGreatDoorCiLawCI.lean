/- If all that is in was seen, and nothing else, nothing is lacking or strange: the property answers true. Conditions: the argument is a list of ints that lies in memory; the table of the powers of ten stands. -/
import Derived.Test.YtjggcofjgeiapaaGreatDoorCiLbZ
import Derived.Test.YtjggcofjgeiapaaGreatDoorCiLbS
import Derived.Test.YtjggcofjgeiapaaGreatDoorCiJ46
import Derived.Test.YtjggcofjgeiapaaGreatDoorCiJ15
import Derived.Test.YtjggcofjgeiapaaGreatDoorCiJ47
set_option linter.unusedSimpArgs false
set_option linter.unusedVariables false
namespace Go.Proofs.YtjggcofjgeiapaaGreatDoor
open Go Go.RowKit

theorem slc_none {α : Type} {k : Nat} {enc : α → List Value} (w : World) : Slc k enc w none 0 0 ([] : List α) := ⟨⟨rfl, by omega, fun h => absurd rfl h⟩, by omega, (fun _ => rfl), fun a ha => by cases ha⟩
theorem StockR.slc2 {T : List TitleV} {r : LendR} {d : List SlipV} {t : Int} {w w' : World} {e : Ending} (h : StockR T r d t w e w') (hT : T.length ≤ 1000) : ∃ (p : Option Addr) (c : Nat), e = .returned (.tuple #[.slice p T.length c, .int .i64 0]) ∧ Slc 2 lpC w' p T.length c (stockL T (libAt T r d t).1) ∧ Ext w w' := by
  obtain ⟨v, rfl, ho, hx⟩ := h
  obtain ⟨p, c, rfl, hS⟩ := slc_of_own lpC_len ho (by decide) (by omega)
  exact ⟨p, c, rfl, hS, hx⟩
theorem CountR.slc {T : List TitleV} {L : LibS} {C : List IdV} {w w' : World} {e : Ending} (h : CountR T L C w e w') (h1 : (missL T L C).length ≤ 1000000) (h2 : (wrongL L C).length ≤ 1000000) :
    ∃ (p : Option Addr) (c : Nat) (q : Option Addr) (d : Nat), e = .returned (.tuple #[.slice p (missL T L C).length c, .slice q (wrongL L C).length d, .int .i64 0]) ∧ Slc 2 lpC w' p (missL T L C).length c (missL T L C) ∧ Ext w w' := by
  obtain ⟨v, u, rfl, ho, hu, hx⟩ := h
  obtain ⟨p, c, rfl, hS⟩ := slc_of_own lpC_len ho (by decide) (by omega)
  obtain ⟨q, d, rfl, -⟩ := slc_of_own lpC_len hu (by decide) (by omega)
  exact ⟨p, c, q, d, rfl, hS, hx⟩
def cntP (I : List IdV) (p : ByteArray) (i : Nat) : Nat := ((I.take i).filter fun k => decide (k.1 = p)).length
theorem cntP_succ {I : List IdV} {p : ByteArray} {i : Nat} {k : IdV} (h : I[i]? = some k) : cntP I p (i + 1) = cntP I p i + if k.1 = p then 1 else 0 := by
  unfold cntP
  rw [take_snocL h, List.filter_append, List.length_append]
  by_cases e : k.1 = p <;> simp [e]
theorem cntP_le (I : List IdV) (p : ByteArray) (i : Nat) : cntP I p i ≤ i := by
  unfold cntP
  refine Nat.le_trans (List.length_filter_le _ _) ?_
  rw [List.length_take]
  omega
set_option maxRecDepth 100000 in
set_option maxHeartbeats 12800000 in
theorem lawCI_any (B : Nat) (w : World) (p : Option Addr) (n c : Nat) (h : Lst w w.heap.size p n) (ht : Tab B w) :
    Calls Tryz.prog 4 #[.slice p n c] w fun e w' => e = .returned (.bool true) ∧ Ext w w' := by
  have hS0 : Str (w.alloc (.cells #[.slice p n c, .int .i64 0] 25)) w.heap.size 0 := ⟨p, n, c, 0, Nat.le_refl _, Blk.new' rfl, h.low fun j hj => Below.heap_alloc w _ j hj⟩
  clear h
  have hback : ∀ u, ExtS w.heap.size (w.alloc (.cells #[.slice p n c, .int .i64 0] 25)) u → Ext w u := fun u hu => ExtS.back ((Ext.refl w).alloc _) (by simp) hu
  have hW0s : (w.alloc (.cells #[.slice p n c, .int .i64 0] 25)).heap.size = w.heap.size + 1 := by simp
  have hlb := library_any w.heap.size 0 _ (by omega) hS0
  replace hback := Lib.hid hback
  replace hlb := Lib.hid hlb
  replace hW0s := Lib.hid hW0s
  go_enter Tryz.func4, Tryz.ntmps4
  go_upto_region 3 with (go_at_call 9; (with_reducible refine Calls.mono hlb.out ?_); rintro e w1 ⟨p1, n1, c1, T, r, rfl, hn1, hTo, hTl, hTs, hS1, hE1⟩; unfold lendVal)
  have hS1a := hS1.ext ((Ext.refl w1).alloc (.cells (lendC r) 28))
  have hE1a := hE1.alloc (.cells (lendC r) 28)
  have hT1a := hTo.alloc (.cells (lendC r) 28)
  have hR1a : Blk (w1.alloc (.cells (lendC r) 28)) w1.heap.size 28 (lendC r) := Blk.new' rfl
  have hsl : w.heap.size < w1.heap.size := hS1.lt
  have hw1 : w.heap.size + 1 + 2 ≤ w.heap.size + 1 + 2 := Nat.le_refl _
  rw [hW0s.out] at hT1a
  unfold lendC at hS1a hE1a hT1a hR1a
  clear hS0 hS1 hE1 hTo hlb hw1
  generalize (w1.alloc (.cells #[.int .i64 r.days, .int .i64 r.late, .int .i64 r.most, .int .i64 r.each] 28)) = W1 at *
  generalize w1.heap.size = g5 at *
  have hrs := rightSlips_any w.heap.size (0 + 40) W1 (by omega) hS1a
  replace hrs := Lib.hid hrs
  go_upto_region 4 with (first
    | (go_at_call 10; (with_reducible refine Calls.mono hrs.out ?_); rintro e w2 ⟨p2, n2, c2, V, rfl, hn2, hSl2, hpb2, hVl, hVs, hVq, hS2, hE2⟩)
    | (go_at_call 11; have l2 := hS2.lt; refine (pick_in w.heap.size (0 + 40 + 720) _ _ 3 [5, 86400000, 864000000] 5 864000000 _ (by omega) (by simp) (by simp) (by exact hS2.ext (Ext.alloc (Ext.refl _) _)) (by exact Nat.ne_of_gt l2) (by exact Blk.new' rfl) (by decide)).mono ?_; rintro e w3 ⟨t, ht1, ht2, rfl, hS3, hE3⟩))
  subst hVl
  subst hTl
  have hE13 := hE2.trans ((ExtS.refl _ w2).alloc (.cells ([5, 86400000, 864000000].map (Value.int .i64)).toArray 3) |>.trans hE3)
  have hsp2 : ∀ a, p2 = some a → a.block ≠ w.heap.size := fun a ha => by have := hpb2 a ha; have := hS1a.lt; omega
  have hSl3 := (hSl2.ext ((Ext.refl w2).alloc (.cells ([5, 86400000, 864000000].map (Value.int .i64)).toArray 3))).extS hE3 hsp2
  have hT3 := own_extS hE13 (by omega) hT1a
  have hR4 := hR1a.extS (by omega) hE13
  have hE03 := hE1a.trans hE13
  have hto : outB t 0 345686399999 = false := by unfold outB; simp; omega
  have hb4 := hback.out w3 hE03
  obtain ⟨p1', c1', e1', hT4⟩ := slc_of_own titleC_len hT3 (by decide) (by omega)
  cases e1'
  have hV4 := hSl3
  clear hE1a hE13 hE2 hE3 hS2 hSl2 hT1a hR1a hrs hpb2 hS1a ht1 ht2 hE03 hT3 hSl3 hsp2
  have htb := fun u (hu : Ext w3 u) => ht.ext (hb4.trans hu)
  have hlf := fun u (hu : Ext w3 u) => libFault_any p1 T.length c1 T r p2 V.length c2 V u (hT4.ext hu).1 hTs (by omega) (hV4.ext hu).1 hVs (by omega)
  have hrdy := fun u (hu : Ext w3 u) => ready_any B u (htb u hu)
  have hLM := fun (hF : libF T r V = 0) u (hu : Ext w3 u) => (⟨hT4.ext hu, hTs, by omega, hV4.ext hu, hVs, by omega, hF⟩ : ListsM u p1 T.length c1 T r p2 V.length c2 V)
  have r0 := hR4.cell 0
  have r1 := hR4.cell 1
  have r2 := hR4.cell 2
  have r3 := hR4.cell 3
  have lr := hR4.lt
  have hlf8 := hlf w3 (Ext.refl _)
  unfold lendVal at hlf8
  replace htb := Lib.hid htb
  replace hrdy := Lib.hid hrdy
  replace hLM := Lib.hid hLM
  replace hR4 := Lib.hid hR4
  clear hlf hT4 hV4
  by_cases hF : libF T r V = 0
  · rw [hF] at hlf8
    have hTo := titlesF_ok (libF_zero hF).1
    have hLM2 := hLM.out hF
    obtain ⟨L, hLe⟩ : ∃ L, L = (libAt T r V t).1 := ⟨_, rfl⟩
    obtain ⟨q1, q2, q3, q4⟩ := counted hTo L
    obtain ⟨I, hI⟩ : ∃ I, I = insT T L := ⟨_, rfl⟩
    rw [← hI] at q1 q2 q3 q4
    have hil : I.length ≤ 1500 := by
      rw [hI]
      have h1 := ids_len (T := T) fun z hz => (hTo.one z hz).2.2.1
      have h2 : (insT T L).length ≤ (idsT T).length := List.length_filter_le _ _
      omega
    have hIn : I.Nodup := by rw [hI]; exact List.Pairwise.filter _ (ids_nodup hTo.diff)
    have hIm : ∀ k ∈ I, k ∈ idsT T := fun k hk => by rw [hI] at hk; exact (List.mem_filter.1 hk).1
    have hc1 := fun u (hu : Ext w3 u) => (count_any B p1 T.length c1 T r p2 V.length c2 V t none 0 0 [] u (hLM2 u hu) hto (slc_none u) (by simp) List.Pairwise.nil (by omega) (by omega) (htb.out u hu)).mono fun e w' hh => CountR.slc hh (by rw [← hLe, q1]; simp; omega) (by simp [wrongL])
    rw [← hLe, q1] at hc1
    have hw0 : wrongL L [] = [] := rfl
    rw [hw0] at hc1
    simp only [List.length_map, List.length_nil] at hc1
    have hc2 := fun u (hu : Ext w3 u) sp sc (hS : Slc 2 lpC u sp I.length sc (I.map pairOf)) => (count_any B p1 T.length c1 T r p2 V.length c2 V t sp I.length sc I u (hLM2 u hu) hto hS hIm hIn (by omega) (by omega) (htb.out u hu)).mono fun e w' hh => CountR.slc hh (by rw [← hLe, q3]; simp) (by rw [← hLe, q4]; simp)
    rw [← hLe, q3, q4] at hc2
    simp only [List.length_nil] at hc2
    have hst := fun u (hu : Ext w3 u) => (stock_any B p1 T.length c1 T r p2 V.length c2 V t u (hLM2 u hu) hto (htb.out u hu)).mono fun e w' hh => StockR.slc2 hh (by omega)
    rw [← hLe] at hst
    have hcnt : ∀ j x, T[j]? = some x → cntP I x.piece I.length = cntT L x [inW] ∧ cntT L x [inW] ≤ 500 ∧ (stockL T L)[j]? = some (x.piece, itoaL (cntT L x [inW])) := fun j x hx => by
      refine ⟨?_, ?_, ?_⟩
      · unfold cntP
        rw [List.take_length, hI]
        exact ins_cnt hTo.diff (List.mem_of_getElem? hx)
      · have h1 := (hTo.one x (List.mem_of_getElem? hx)).2.2.1
        have h2 : cntT L x [inW] ≤ x.owned.toNat := cntN_le _ _ _ _
        omega
      · unfold stockL
        rw [List.getElem?_map, hx]
        rfl
    unfold lendVal at hc1 hc2 hst
    generalize stockL T L = Q at *
    replace hlf8 := Lib.hid hlf8
    replace hc1 := Lib.hid hc1
    replace hc2 := Lib.hid hc2
    replace hst := Lib.hid hst
    replace hcnt := Lib.hid hcnt
    clear q1 q2 q3 q4 hLM2 hLM hw0 hLe hI hIn hIm hTo hF hto
    go_upto_region 6 with (go_at_call 12; (with_reducible refine Calls.mono hlf8.out ?_); rintro e w4 ⟨rfl, hb34⟩)
    obtain ⟨x0, -⟩ := (hR4.out.ext hb34).walk
    have y0 := x0 0
    have y1 := x0 1
    have y2 := x0 2
    have y3 := x0 3
    have l4 := (hR4.out.ext hb34).lt
    clear x0 r0 r1 r2 r3 lr hlf8
    go_upto_region 9 with (go_at_call 17; (with_reducible refine Calls.mono (hc1.out _ hb34) ?_); rintro e w5 ⟨p5, c5, q5, d5, rfl, hS5, hb45⟩)
    have hb35 := hb34.trans hb45
    obtain ⟨x0, -⟩ := (hR4.out.ext hb35).walk
    have z0 := x0 0
    have z1 := x0 1
    have z2 := x0 2
    have z3 := x0 3
    have l5 := (hR4.out.ext hb35).lt
    clear x0 y0 y1 y2 y3 l4 hc1 hb45
    have hc2a := hc2.out w5 hb35 p5 c5 hS5
    replace hc2a := Lib.hid hc2a
    clear hc2
    go_upto_region 10 with (go_at_call 17; (with_reducible refine Calls.mono hc2a.out ?_); rintro e w6 ⟨p6, c6, q6, d6, rfl, hS6, hb56⟩)
    have hb36 := hb35.trans hb56
    obtain ⟨x0, -⟩ := (hR4.out.ext hb36).walk
    have y0 := x0 0
    have y1 := x0 1
    have y2 := x0 2
    have y3 := x0 3
    have l6 := (hR4.out.ext hb36).lt
    clear x0 z0 z1 z2 z3 l5 hc2a hS6
    go_upto_region 13 with (go_at_call 18; (with_reducible refine Calls.mono (hst.out _ hb36) ?_); rintro e w7 ⟨p7, c7, rfl, hS7, hb67⟩)
    have hb37 := hb36.trans hb67
    have hA7 := hS5.ext (hb56.trans hb67)
    clear y0 y1 y2 y3 l6 hst hR4 hS5 hb56 hb67 hb36 hb35 hb34
    replace hA7 := Lib.hid hA7
    replace hS7 := Lib.hid hS7
    go_wp2
    go_loopw [91] (fun v91 wr => ∃ j : Nat, v91 = .int .i64 j ∧ j ≤ T.length ∧ Ext w7 wr) (fun v91 _ => T.length - (intOf v91).toNat)
    case atStart => exact ⟨0, rfl, Nat.zero_le _, Ext.refl _⟩
    case round =>
      obtain ⟨j, rfl, hj, he⟩ := hrel
      by_cases hlt : j < T.length
      · obtain ⟨x, hx⟩ := getD_some (rfl : T.length = T.length) hlt
        obtain ⟨hn1e, hn5, hq⟩ := hcnt.out j x hx
        obtain ⟨b, off, rfl, hb, hEl⟩ := hS7.out.1.2.2 (by omega)
        obtain ⟨s0, s1⟩ : wr.cell? ⟨b, off + j * 2, none⟩ = some (.string x.piece) ∧ wr.cell? ⟨b, off + j * 2 + 1, none⟩ = some (.string (itoaL (cntT L x [inW]))) := ⟨(hEl.ext he hb) j _ hq 0 _ rfl, (hEl.ext he hb) j _ hq 1 _ rfl⟩
        have hjI : (j : Int) < (T.length : Int) := by omega
        generalize cntT L x [inW] = cn at *
        have hX := Blk.new' (w := wr) (g := wr.heap.size) (t := 57) (cs := #[.string x.piece, .string (itoaL cn)]) rfl
        have hEx : Ext wr (wr.alloc (.cells #[.string x.piece, .string (itoaL cn)] 57)) := (Ext.refl wr).alloc _
        have he1 := he.trans hEx
        replace hx := Lib.hid hx
        replace hq := Lib.hid hq
        replace hEl := Lib.hid hEl
        replace hX := Lib.hid hX
        clear he hEx
        go_wp2
        generalize (wr.alloc (.cells #[.string x.piece, .string (itoaL cn)] 57)) = W5 at *
        generalize wr.heap.size = gx at *
        clear s0 s1
        go_loopw [17, 97] (fun v17 v97 wq => ∃ i : Nat, v97 = .int .i64 i ∧ i ≤ I.length ∧ v17 = .int .i64 (cntP I x.piece i : Int) ∧ Ext W5 wq) (fun _ v97 _ => I.length - (intOf v97).toNat)
        case atStart => exact ⟨0, rfl, Nat.zero_le _, by simp [cntP], Ext.refl _⟩
        case round =>
          obtain ⟨i, rfl, hi, rfl, he⟩ := hrel
          have hXr := hX.out.ext he
          have c0 := hXr.cell 0
          have c1 := hXr.cell 1
          have lx := hXr.lt
          have he7 := he1.trans he
          by_cases hlt2 : i < I.length
          · obtain ⟨k, hk⟩ := getD_some (rfl : I.length = I.length) hlt2
            have hkp : (I.map pairOf)[i]? = some (k.1, itoaL k.2) := by rw [List.getElem?_map, hk]; rfl
            obtain ⟨b2, off2, rfl, hb2, hE2⟩ := hA7.out.1.2.2 (by omega)
            obtain ⟨s0, s1⟩ : wr.cell? ⟨b2, off2 + i * 2, none⟩ = some (.string k.1) ∧ wr.cell? ⟨b2, off2 + i * 2 + 1, none⟩ = some (.string (itoaL k.2)) := ⟨(hE2.ext he7 hb2) i _ hkp 0 _ rfl, (hE2.ext he7 hb2) i _ hkp 1 _ rfl⟩
            have hiI : (i : Int) < (I.length : Int) := by omega
            have hsu := cntP_succ (p := x.piece) hk
            have hcl := cntP_le I x.piece i
            have z1 : IntKind.i64.wrap ((cntP I x.piece i : Int) + 1) = (cntP I x.piece i : Int) + 1 := IntWalk.i64_in _ (by omega)
            replace hk := Lib.hid hk
            replace hkp := Lib.hid hkp
            replace hE2 := Lib.hid hE2
            cases hq2 : (k.1.toList == x.piece.toList)
            · have hne : ¬ k.1 = x.piece := fun e => by rw [bytesB.2 e] at hq2; cases hq2
              rw [if_neg hne] at hsu
              replace hsu := Lib.hid hsu
              go_wp2
              go_roundw
              case rel => exact ⟨i + 1, by go_num, by omega, by rw [hsu.out]; rfl, he.alloc _⟩
              case measure => simp [intOf]; omega
            · have hne : k.1 = x.piece := bytesB.1 hq2
              rw [if_pos hne] at hsu
              replace hsu := Lib.hid hsu
              replace hne := Lib.hid hne
              go_wp2
              go_roundw
              case rel => exact ⟨i + 1, by go_num, by omega, by rw [hsu.out]; go_num, he.alloc _⟩
              case measure => simp [intOf]; omega
          · obtain rfl : I.length = i := by omega
            rw [hn1e]
            have hit := int4_any cn (by omega) B wr (htb.out _ (hb37.trans he7))
            replace hit := Lib.hid hit
            go_wp2_with (go_at_call 19; (with_reducible refine Calls.mono hit.out ?_); rintro e w9 ⟨rfl, hb9⟩)
            go_roundw
            case rel => exact ⟨j + 1, by go_num, by omega, he7.trans hb9⟩
            case measure => simp [intOf]; omega
      · obtain rfl : T.length = j := by omega
        go_wp2_with (go_at_call 13; (with_reducible refine Calls.mono (hrdy.out _ (hb37.trans he)) ?_); rintro e wE ⟨rfl, hbE⟩)
        go_ret
        exact ⟨rfl, ((hb4.trans hb37).trans he).trans hbE⟩
  · generalize libF T r V = f at *
    replace hlf8 := Lib.hid hlf8
    clear hLM
    go_wp2_with (first
      | (go_at_call 12; (with_reducible refine Calls.mono hlf8.out ?_); rintro e w9 ⟨rfl, hb9⟩)
      | (go_at_call 13; (with_reducible refine Calls.mono (hrdy.out _ hb9) ?_); rintro e wE ⟨rfl, hbE⟩))
    go_ret
    exact ⟨rfl, (hb4.trans hb9).trans hbE⟩
end Go.Proofs.YtjggcofjgeiapaaGreatDoor
