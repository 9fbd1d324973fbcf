/- Without the refused slips all is as it was: the property answers true. Conditions: the argument is a list of ints that lies in memory; the table of the powers of ten stands. -/
import Derived.Test.YtehboinleolihaaGreatDoorRzJ33
import Derived.Test.YtehboinleolihaaGreatDoorRzDbC
import Derived.Test.YtehboinleolihaaGreatDoorRzLcA
import Derived.Test.YtehboinleolihaaGreatDoorRzLcE
import Derived.Test.YtehboinleolihaaGreatDoorRzLbS
import Derived.Test.YtehboinleolihaaGreatDoorRzLbK
import Derived.Test.YtehboinleolihaaGreatDoorRzJ47
set_option linter.unusedSimpArgs false
set_option linter.unusedVariables false
namespace Go.Proofs.YtehboinleolihaaGreatDoor
open Go Go.RowKit

set_option maxRecDepth 100000 in
theorem indexN_any (p : Option Addr) (n c : Nat) (G : List Nat) (i : Nat) (w : World) (h : Slc 1 natC w p n c G) (hn : n ≤ 1000) :
    Calls Tryz.prog 124 #[.slice p n c, .int .i64 (i : Int)] w fun e w' => ∃ z : Int, e = .returned (.int .i64 z) ∧ (0 ≤ z ↔ i ∈ G) ∧ Ext w w' := by
  obtain ⟨hl, hp⟩ := slcC h
  subst hl
  replace hp := Lib.hid hp
  clear h
  go_enter Tryz.func124, Tryz.ntmps124
  go_wp2
  go_loopw [8] (fun v wr => ∃ k : Nat, k ≤ G.length ∧ v = .int .i64 k ∧ i ∉ G.take k ∧ Ext w wr) (fun v _ => G.length - (intOf v).toNat)
  case atStart => exact ⟨0, Nat.zero_le _, rfl, by simp, Ext.refl _⟩
  case round =>
    obtain ⟨k, hk, rfl, hno, hE⟩ := hrel
    by_cases hlt : k < G.length
    · obtain ⟨x, hx⟩ := getD_some (rfl : G.length = G.length) hlt
      rcases hp.out with ⟨-, e⟩ | ⟨b1, o1, rfl, hb1, hE1⟩
      · rw [e] at hx; cases hx
      have c1 : wr.cell? ⟨b1, o1 + k * 1, none⟩ = some (.int .i64 (x : Int)) := (hE1.ext hE hb1) k _ hx 0 _ rfl
      rw [Nat.mul_one] at c1
      have l1 := Nat.lt_of_lt_of_le hb1 hE.size
      have hkI : (k : Int) < G.length := by omega
      have htk := take_snocL hx
      have hxm := List.mem_of_getElem? hx
      replace hno := Lib.hid hno
      replace htk := Lib.hid htk
      clear hx hE1
      by_cases hq : (i : Int) = (x : Int)
      · have hne : i = x := by omega
        have hqb : ((i : Int) == (x : Int)) = true := by rw [hq]; exact beq_self_eq_true _
        replace hne := Lib.hid hne
        go_wp2
        go_ret
        exact ⟨k, rfl, ⟨fun _ => by rw [hne.out]; exact hxm, fun _ => by omega⟩, hE⟩
      · have hne : i ≠ x := fun e => hq (by rw [e])
        have hqb : ((i : Int) == (x : Int)) = false := beq_false_of_ne hq
        replace hne := Lib.hid hne
        go_wp2
        go_roundw
        case rel => exact ⟨k + 1, by omega, by go_num, by rw [htk.out]; simp only [List.mem_append, List.mem_singleton, not_or]; exact ⟨hno.out, hne.out⟩, hE⟩
        case measure => simp [intOf]; omega
    · obtain rfl : k = G.length := by omega
      rw [List.take_length] at hno
      replace hno := Lib.hid hno
      go_wp2
      go_ret
      exact ⟨-1, rfl, ⟨fun h => by omega, fun h => absurd h hno.out⟩, hE⟩
set_option maxRecDepth 100000 in
theorem containsN_any (p : Option Addr) (n c : Nat) (G : List Nat) (i : Nat) (w : World) (h : Slc 1 natC w p n c G) (hn : n ≤ 1000) :
    Calls Tryz.prog 43 #[.slice p n c, .int .i64 (i : Int)] w fun e w' => e = .returned (.bool (decide (i ∈ G))) ∧ Ext w w' := by
  have hi := indexN_any p n c G i w h hn
  replace hi := Lib.hid hi
  clear h
  go_enter Tryz.func43, Tryz.ntmps43
  go_wp2_with (go_at_call 124; (with_reducible refine Calls.mono hi.out ?_); rintro e w1 ⟨z, rfl, hi2, hb1⟩)
  go_ret
  have e1 : decide (i ∈ G) = decide (0 ≤ z) := by simp only [decide_eq_decide]; exact hi2.symm
  rw [e1]
  exact ⟨rfl, hb1⟩
theorem RefR.slc {T : List TitleV} {r : LendR} {d : List SlipV} {w w' : World} {e : Ending} (h : RefR T r d w e w') (hd : d.length ≤ 1000) : ∃ (p q : Option Addr) (c c2 : Nat) (S : List Nat), S = refL (libAt T r d 345686400000).2 d.length ∧ e = .returned (.tuple #[.slice p S.length c, .slice q S.length c2, .int .i64 0]) ∧ Slc 1 natC w' p S.length c S ∧ Ext w w' := by
  obtain ⟨v, u, rfl, ho, hu, -, hx⟩ := h
  have hl := ref_len (libAt T r d 345686400000).2 d.length
  obtain ⟨p, c, rfl, hS⟩ := slc_of_own natC_len ho (by decide) (by omega)
  have hu2 : (whyL (libAt T r d 345686400000).2 (refL (libAt T r d 345686400000).2 d.length)).length = (refL (libAt T r d 345686400000).2 d.length).length := by unfold whyL; simp
  rw [← hu2] at hu
  obtain ⟨q, c2, rfl, -⟩ := slc_of_own (enc := errC) (fun _ => rfl) hu (by decide) (by omega)
  exact ⟨p, q, c, c2, _, rfl, by rw [hu2], hS, hx⟩
theorem OutR.slc2 {T : List TitleV} {r : LendR} {d : List SlipV} {t : Int} {w w' : World} {e : Ending} (h : OutR T r d t w e w') (hd : (outL (libAt T r d t).1.loans).length ≤ 1000) : ∃ (p : Option Addr) (c : Nat) (M : List LentV), e = .returned (.tuple #[.slice p M.length c, .int .i64 0]) ∧ M.Perm (outL (libAt T r d t).1.loans) ∧ M.Pairwise entLt ∧ Slc 4 lentC w' p M.length c M ∧ M.length ≤ 1000 ∧ Ext w w' := by
  obtain ⟨v, M, rfl, hp, hr, ho, hx⟩ := h
  have hl := hp.length_eq
  obtain ⟨p, c, rfl, hS⟩ := slc_of_own lentC_len ho (by decide) (by omega)
  exact ⟨p, c, M, rfl, hp, hr, hS, by omega, hx⟩
theorem DebtsR.slc {T : List TitleV} {r : LendR} {d : List SlipV} {t : Int} {w w' : World} {e : Ending} (h : DebtsR T r d t w e w') (hd : ∀ M, DebtP T r t (libAt T r d t).1.loans M → M.length ≤ 1000) : ∃ (p : Option Addr) (c : Nat) (M : List DebtV), e = .returned (.tuple #[.slice p M.length c, .int .i64 0]) ∧ DebtP T r t (libAt T r d t).1.loans M ∧ Slc 2 lpC w' p M.length c (M.map debtPair) ∧ M.length ≤ 1000 ∧ Ext w w' := by
  obtain ⟨v, M, hp, rfl, ho, hx⟩ := h
  have hl := hd M hp
  have e1 : M.length = (M.map debtPair).length := by simp
  rw [e1] at ho
  obtain ⟨p, c, rfl, hS⟩ := slc_of_own lpC_len ho (by decide) (by omega)
  rw [← e1] at hS
  exact ⟨p, c, M, by rw [← e1], hp, hS, hl, hx⟩
theorem debt_few {T : List TitleV} {r : LendR} {t : Int} {X : List LoanV} {M : List DebtV} (h : DebtP T r t X M) : M.length ≤ X.length := by
  have h1 : (M.map Prod.fst).Nodup := by
    have h2 : M.Pairwise fun a b => a.1 ≠ b.1 := by
      have h3 := debt_nodup h.1
      refine h3.imp_of_mem fun {a b} ha hb hab e => hab ?_
      have ea := ((h.2 a).1 ha).1
      have eb := ((h.2 b).1 hb).1
      rw [e, eb] at ea
      exact Prod.ext e (Option.some.inj ea).symm
    exact List.pairwise_map.2 h2
  have h2 := nodup_sub h1 (B := X.map LoanV.singer) fun s hs => by
    obtain ⟨z, hz, rfl⟩ := List.mem_map.1 hs
    have h3 := ((h.2 z).1 hz).1
    unfold owedM at h3
    split at h3
    · rename_i h4
      obtain ⟨l, hl, he⟩ := List.any_eq_true.1 h4
      exact List.mem_map.2 ⟨l, hl, of_decide_eq_true he⟩
    · cases h3
  simpa using h2
set_option maxRecDepth 100000 in
set_option maxHeartbeats 12800000 in
theorem lawRS_any (B : Nat) (w : World) (p : Option Addr) (n c : Nat) (h : Lst w w.heap.size p n) (ht : Tab B w) :
    Calls Tryz.prog 5 #[.slice p n c] w fun e w' => e = .returned (.bool true) ∧ Ext w w' := by
  have hS0 : Str (w.alloc (.cells #[.slice p n c, .int .i64 0] 25)) w.heap.size 0 := ⟨p, n, c, 0, Nat.le_refl _, Blk.new' rfl, h.low fun j hj => Below.heap_alloc w _ j hj⟩
  clear h
  have hback : ∀ u, ExtS w.heap.size (w.alloc (.cells #[.slice p n c, .int .i64 0] 25)) u → Ext w u := fun u hu => ExtS.back ((Ext.refl w).alloc _) (by simp) hu
  have hW0s : (w.alloc (.cells #[.slice p n c, .int .i64 0] 25)).heap.size = w.heap.size + 1 := by simp
  have hlb := library_any w.heap.size 0 _ (by omega) hS0
  replace hback := Lib.hid hback
  replace hlb := Lib.hid hlb
  replace hW0s := Lib.hid hW0s
  go_enter Tryz.func5, Tryz.ntmps5
  go_upto_region 3 with (go_at_call 9; (with_reducible refine Calls.mono hlb.out ?_); rintro e w1 ⟨p1, n1, c1, T, r, rfl, hn1, hTo, hTl, hTs, hS1, hE1⟩; unfold lendVal)
  have hS1a := hS1.ext ((Ext.refl w1).alloc (.cells (lendC r) 28))
  have hE1a := hE1.alloc (.cells (lendC r) 28)
  have hT1a := hTo.alloc (.cells (lendC r) 28)
  have hR1a : Blk (w1.alloc (.cells (lendC r) 28)) w1.heap.size 28 (lendC r) := Blk.new' rfl
  have hsl : w.heap.size < w1.heap.size := hS1.lt
  have hw1 : w.heap.size + 1 + 2 ≤ w.heap.size + 1 + 2 := Nat.le_refl _
  rw [hW0s.out] at hT1a
  unfold lendC at hS1a hE1a hT1a hR1a
  clear hS0 hS1 hE1 hTo hlb hw1
  generalize (w1.alloc (.cells #[.int .i64 r.days, .int .i64 r.late, .int .i64 r.most, .int .i64 r.each] 28)) = W1 at *
  generalize w1.heap.size = g5 at *
  have hrs := rightSlips_any w.heap.size (0 + 40) W1 (by omega) hS1a
  replace hrs := Lib.hid hrs
  go_upto_region 4 with (first
    | (go_at_call 41; (with_reducible refine Calls.mono hrs.out ?_); rintro e w2 ⟨p2, n2, c2, V, rfl, hn2, hSl2, hpb2, hVl, hVs, hVq, hS2, hE2⟩)
    | (go_at_call 13; have l2 := hS2.lt; refine (pick_in w.heap.size (0 + 40 + 720) _ _ 4 [5, 86400000, 864000000, 3456000000] 5 3456000000 _ (by omega) (by simp) (by simp) (by exact hS2.ext (Ext.alloc (Ext.refl _) _)) (by exact Nat.ne_of_gt l2) (by exact Blk.new' rfl) (by decide)).mono ?_; rintro e w3 ⟨t, ht1, ht2, rfl, hS3, hE3⟩))
  subst hVl
  subst hTl
  have hE13 := hE2.trans ((ExtS.refl _ w2).alloc (.cells ([5, 86400000, 864000000, 3456000000].map (Value.int .i64)).toArray 3) |>.trans hE3)
  have hsp2 : ∀ a, p2 = some a → a.block ≠ w.heap.size := fun a ha => by have := hpb2 a ha; have := hS1a.lt; omega
  have hSl3 := (hSl2.ext ((Ext.refl w2).alloc (.cells ([5, 86400000, 864000000, 3456000000].map (Value.int .i64)).toArray 3))).extS hE3 hsp2
  have hT3 := own_extS hE13 (by omega) hT1a
  have hR4 := hR1a.extS (by omega) hE13
  have hE03 := hE1a.trans hE13
  have hto : outB t 0 345686399999 = false := by unfold outB; simp; omega
  have hb4 := hback.out w3 hE03
  obtain ⟨p1', c1', e1', hT4⟩ := slc_of_own titleC_len hT3 (by decide) (by omega)
  cases e1'
  have hV4 := hSl3
  clear hE1a hE13 hE2 hE3 hS2 hSl2 hT1a hR1a hrs hpb2 hS1a ht1 ht2 hE03 hT3 hSl3 hsp2
  have htb := fun u (hu : Ext w3 u) => ht.ext (hb4.trans hu)
  have hlf := fun u (hu : Ext w3 u) => libFault_any p1 T.length c1 T r p2 V.length c2 V u (hT4.ext hu).1 hTs (by omega) (hV4.ext hu).1 hVs (by omega)
  have hrdy := fun u (hu : Ext w3 u) => ready_any B u (htb u hu)
  have hLM := fun (hF : libF T r V = 0) u (hu : Ext w3 u) => (⟨hT4.ext hu, hTs, by omega, hV4.ext hu, hVs, by omega, hF⟩ : ListsM u p1 T.length c1 T r p2 V.length c2 V)
  have r0 := hR4.cell 0
  have r1 := hR4.cell 1
  have r2 := hR4.cell 2
  have r3 := hR4.cell 3
  have lr := hR4.lt
  have hlf8 := hlf w3 (Ext.refl _)
  unfold lendVal at hlf8
  replace htb := Lib.hid htb
  replace hrdy := Lib.hid hrdy
  replace hLM := Lib.hid hLM
  replace hR4 := Lib.hid hR4
  clear hlf hT4 hV4
  by_cases hF : libF T r V = 0
  · rw [hF] at hlf8
    have hd := slipsF_right (libF_zero hF).2.2
    obtain ⟨R, hRe⟩ : ∃ R, R = (libAt T r V 345686400000).2 := ⟨_, rfl⟩
    obtain ⟨G, hGe⟩ : ∃ G, G = keepL V R V.length := ⟨_, rfl⟩
    have hGsub : G.Sublist V := by rw [hGe]; exact keep_sub V R
    have hGl : G.length ≤ 14 := by have := hGsub.length_le; omega
    have hGs : ∀ x ∈ G, x.Small := fun x hx => hVs x (hGsub.subset hx)
    have hGF : libF T r G = 0 := by
      obtain ⟨h1, h2, -⟩ := libF_zero hF
      have h3 := slipsF_of (hd.sub hGsub)
      unfold libF
      rw [h1, h2, h3]
      rfl
    have htE : t ≤ 345686399999 := by
      have h9 := hto
      unfold outB at h9
      simp at h9
      omega
    have hw1 := without_refused (T := T) (r := r) (d := V) hd (t := t) (E := 345686400000) (by omega)
    have hw2 := without_refused (T := T) (r := r) (d := V) hd (t := 345686400000) (E := 345686400000) (by omega)
    rw [← hRe, ← hGe] at hw1 hw2
    have hnone : refL (libAt T r G 345686400000).2 G.length = [] := by
      rw [hw2.2]
      unfold refL
      exact List.filter_eq_nil_iff.2 fun i _ => by simp
    have hN := libAt_N (T := T) (r := r) (t := t) hd hVs
    have hXl := hN.loans
    have hol := outL_len (libAt T r V t).1.loans
    have hLM2 := hLM.out hF
    have hLMG := fun u (hu : Ext w3 u) pg cg (hg : Slc 7 slipC u pg G.length cg G) => (⟨(hLM2 u hu).ti, hTs, by omega, hg, hGs, by omega, hGF⟩ : ListsM u p1 T.length c1 T r pg G.length cg G)
    have hr1 := fun u (hu : Ext w3 u) => (refused_any p1 T.length c1 T r p2 V.length c2 V u (hLM2 u hu)).mono fun e w' hh => RefR.slc hh (by omega)
    have hr2 := fun u (hu : Ext w3 u) pg cg hg => (refused_any p1 T.length c1 T r pg G.length cg G u (hLMG u hu pg cg hg)).mono fun e w' hh => RefR.slc hh (by omega)
    rw [← hRe] at hr1
    rw [hnone] at hr2
    have ho1 := fun u (hu : Ext w3 u) => (out_any p1 T.length c1 T r p2 V.length c2 V t u (hLM2 u hu) hto).mono fun e w' hh => OutR.slc2 hh (by omega)
    have ho2 := fun u (hu : Ext w3 u) pg cg hg => (out_any p1 T.length c1 T r pg G.length cg G t u (hLMG u hu pg cg hg) hto).mono fun e w' hh => OutR.slc2 hh (by rw [hw1.1]; omega)
    have hd1 := fun u (hu : Ext w3 u) => (debts_any B p1 T.length c1 T r p2 V.length c2 V t u (hLM2 u hu) hto (htb.out u hu)).mono fun e w' hh => DebtsR.slc hh fun M hM => by have := debt_few hM; omega
    have hd2 := fun u (hu : Ext w3 u) pg cg hg => (debts_any B p1 T.length c1 T r pg G.length cg G t u (hLMG u hu pg cg hg) hto (htb.out u hu)).mono fun e w' hh => DebtsR.slc hh fun M hM => by have := debt_few hM; rw [hw1.1] at this; omega
    rw [hw1.1] at ho2 hd2
    unfold lendVal at hr1 hr2 ho1 ho2 hd1 hd2
    generalize (libAt T r V t).1.loans = X at *
    have hV3 := (hLM2 w3 (Ext.refl _)).sl
    have hcon := fun (S : List Nat) (hS : S = refL R V.length) (i : Nat) (hi : i < V.length) => (by rw [hS]; unfold refL; simp [hi] : decide (i ∈ S) = decide (R (i : Int) ≠ none))
    have hks := fun (i : Nat) (x : SlipV) (hx : V[i]? = some x) => keep_succ (R := R) hx
    have hkl := fun k => keep_len V R k
    have hone := hR4.out
    replace hlf8 := Lib.hid hlf8
    replace hr1 := Lib.hid hr1
    replace hr2 := Lib.hid hr2
    replace ho1 := Lib.hid ho1
    replace ho2 := Lib.hid ho2
    replace hd1 := Lib.hid hd1
    replace hd2 := Lib.hid hd2
    replace hcon := Lib.hid hcon
    replace hks := Lib.hid hks
    replace hkl := Lib.hid hkl
    replace hV3 := Lib.hid hV3
    replace hGe := Lib.hid hGe
    replace hone := Lib.hid hone
    clear hRe hw1 hw2 hnone hN hd hLM2 hLM hLMG hGF hGs hVs hTs hol hGsub hXl hR4 hF hVq
    go_upto_region 10 with (first
      | (go_at_call 14; (with_reducible refine Calls.mono hlf8.out ?_); rintro e w4 ⟨rfl, hb34⟩; obtain ⟨wk4, -⟩ := hb34.walk; have s0 := (wk4 _ _ lr).trans r0; have s1 := (wk4 _ _ lr).trans r1; have s2 := (wk4 _ _ lr).trans r2; have s3 := (wk4 _ _ lr).trans r3; have lr4 := Nat.lt_of_lt_of_le lr hb34.size; clear wk4)
      | (go_at_call 15; (with_reducible refine Calls.mono (hr1.out _ hb34) ?_); rintro e w5 ⟨p5, q5, c5, d5, S, hS, rfl, hS5, hb45⟩; replace hS := Lib.hid hS))
    have hb5 := hb34.trans hb45
    have hSl : S.length ≤ 14 := by have := ref_len R V.length; rw [hS.out]; omega
    have hcn := fun i hi => hcon.out S hS.out i hi
    have hz5 := hb5.size
    replace hcn := Lib.hid hcn
    replace hS5 := Lib.hid hS5
    clear hcon hb34 hb45 r0 r1 r2 r3 s0 s1 s2 s3 lr4 hr1
    go_wp2
    go_loopw [11, 55] (fun v11 v55 wr => ∃ (k : Nat) (v : Value), v55 = .int .i64 k ∧ v = v11 ∧ k ≤ V.length ∧ wr.ownsRow w5.heap.size 79 7 v (keepL V R k).length ((keepL V R k).flatMap slipC) ∧ Ext w5 wr) (fun _ v55 _ => V.length - (intOf v55).toNat)
    case atStart => exact ⟨0, _, rfl, rfl, Nat.zero_le _, World.ownsRow_nil _ _ _ _, Ext.refl _⟩
    case round =>
      obtain ⟨k, v, rfl, rfl, hk2, hown, he⟩ := hrel
      by_cases hlt : k < V.length
      · obtain ⟨x, hx⟩ := getD_some (rfl : V.length = V.length) hlt
        obtain ⟨b, off, e2, hb, hEl⟩ := hV3.out.1.2.2 (by omega)
        subst e2
        have hEr := hEl.ext (hb5.trans he) hb
        have d0 : wr.cell? ⟨b, off + k * 7, none⟩ = some (.string x.by_) := hEr k _ hx 0 _ rfl
        have d1 : wr.cell? ⟨b, off + k * 7 + 1, none⟩ = some (.int .i64 x.no) := hEr k _ hx 1 _ rfl
        have d2 : wr.cell? ⟨b, off + k * 7 + 2, none⟩ = some (.int .i64 x.at_) := hEr k _ hx 2 _ rfl
        have d3 : wr.cell? ⟨b, off + k * 7 + 3, none⟩ = some (.int .i64 x.kind) := hEr k _ hx 3 _ rfl
        have d4 : wr.cell? ⟨b, off + k * 7 + 4, none⟩ = some (.string x.piece) := hEr k _ hx 4 _ rfl
        have d5 : wr.cell? ⟨b, off + k * 7 + 5, none⟩ = some (.int .i64 x.copy) := hEr k _ hx 5 _ rfl
        have d6 : wr.cell? ⟨b, off + k * 7 + 6, none⟩ = some (.string x.singer) := hEr k _ hx 6 _ rfl
        have hkI : (k : Int) < (V.length : Int) := by omega
        have hEx : Ext wr (wr.alloc (.cells (slipC x).toArray 79)) := (Ext.refl wr).alloc _
        have hct := fun u (hu : Ext w5 u) => containsN_any p5 S.length c5 S k u (hS5.out.ext hu) (by omega)
        rw [hcn.out k hlt] at hct
        have hkx := hks.out k x hx
        have hkn := hkl.out k
        have hown1 := hown.alloc (.cells (slipC x).toArray 79)
        unfold slipC at hEx hown1
        have hX := Blk.new' (w := wr) (g := wr.heap.size) (t := 79) (cs := (slipC x).toArray) rfl
        unfold slipC at hX
        have hE1 := he.trans hEx
        replace hx := Lib.hid hx
        replace hEl := Lib.hid hEl
        replace hct := Lib.hid hct
        replace hown1 := Lib.hid hown1
        clear hEr
        cases hR0 : decide (R (k : Int) ≠ none)
        · rw [hR0] at hct
          have hnn : R (k : Int) = none := by simpa using hR0
          rw [if_pos hnn] at hkx
          replace hkx := Lib.hid hkx
          replace hnn := Lib.hid hnn
          clear hR0
          go_upto_if 63 with (go_at_call 43; (with_reducible refine Calls.mono (hct.out _ hE1) ?_); rintro e w6 ⟨rfl, hb6⟩)
          have hX6 := hX.ext hb6
          have lx6 := hX6.lt
          have z0 := hX6.cell 0
          have z1 := hX6.cell 1
          have z2 := hX6.cell 2
          have z3 := hX6.cell 3
          have z4 := hX6.cell 4
          have z5 := hX6.cell 5
          have z6 := hX6.cell 6
          have hown6 := own_ext hb6 hown1.out
          have hE6 := hE1.trans hb6
          have hz6 := hE6.size
          clear hX hX6 d0 d1 d2 d3 d4 d5 d6
          go_wp2_with (at_builtin; go_loud (refine wp_app1 _ (.tmp 64) (.tmp 66) 31 79 7 80 _ rfl rfl Tryz.underlying31 sliInfo rfl (by decide) (by decide) w5.heap.size _ _ _ rfl (hown6.alloc _) _ (slipC x) rfl rfl (Blk.new' rfl) (slipC_one _) (by omega) (by simp; omega) ?_; intro v' w9 hown9 hgrow9 _))
          have hl9 : (keepL V R k ++ [x]).length = (keepL V R k).length + 1 := by simp
          go_roundw
          case rel => exact ⟨k + 1, v', by go_num, rfl, by omega, by rw [hkx.out, hl9, flat_snoc]; exact hown9, (hE6.alloc _).app (hown6.alloc _) (Nat.le_refl _) hgrow9⟩
          case measure => simp [intOf]; omega
        · rw [hR0] at hct
          have hnn : ¬ R (k : Int) = none := by simpa using hR0
          rw [if_neg hnn] at hkx
          replace hkx := Lib.hid hkx
          replace hnn := Lib.hid hnn
          clear hR0 hX
          go_wp2_with (go_at_call 43; (with_reducible refine Calls.mono (hct.out _ hE1) ?_); rintro e w6 ⟨rfl, hb6⟩)
          go_roundw
          case rel => exact ⟨k + 1, _, by go_num, rfl, by omega, by rw [hkx.out]; exact own_ext hb6 hown1.out, hE1.trans hb6⟩
          case measure => simp [intOf]; omega
      · obtain rfl : V.length = k := by omega
        rw [← hGe.out] at hown
        obtain ⟨pg, cg, rfl, hG⟩ := slc_of_own slipC_len hown (by decide) (by omega)
        have hb0 := hb5.trans he
        have hx0 := hone.out.ext hb0
        have r0 := hx0.cell 0
        have r1 := hx0.cell 1
        have r2 := hx0.cell 2
        have r3 := hx0.cell 3
        have lr := hx0.lt
        generalize wr = W0 at *
        have hcell : ∀ u, Ext W0 u → u.cell? ⟨g5, 0, none⟩ = some (.int .i64 r.days) ∧ u.cell? ⟨g5, 1, none⟩ = some (.int .i64 r.late) ∧ u.cell? ⟨g5, 2, none⟩ = some (.int .i64 r.most) ∧ u.cell? ⟨g5, 3, none⟩ = some (.int .i64 r.each) := fun u hu => by
          have h9 := hx0.ext hu
          exact ⟨h9.cell 0, h9.cell 1, h9.cell 2, h9.cell 3⟩
        replace hx0 := Lib.hid hx0
        replace hcell := Lib.hid hcell
        replace hG := Lib.hid hG
        clear hown he hV3 hks hkl hcn hS5 hone
        go_wp2_with (first
          | (go_at_call 15; (with_reducible refine Calls.mono (hr2.out _ hb0 pg cg hG.out) ?_); rintro e w6 ⟨p6, q6, c6, d6, S6, hS6, rfl, -, hb6⟩; subst hS6; obtain ⟨t0, t1, t2, t3⟩ := hcell.out _ hb6; have lr6 := Nat.lt_of_lt_of_le lr hb6.size; clear r0 r1 r2 r3 hr2)
          | (go_at_call 17; (with_reducible refine Calls.mono (ho1.out _ (hb0.trans hb6)) ?_); rintro e w7 ⟨p7, c7, M7, rfl, hp7, hs7, hM7, hl7, hb7⟩; have hb07 := hb6.trans hb7; clear t0 t1 t2 t3 ho1; obtain ⟨t0, t1, t2, t3⟩ := hcell.out _ hb07; have lr7 := Nat.lt_of_lt_of_le lr hb07.size)
          | (go_at_call 17; (with_reducible refine Calls.mono (ho2.out _ (hb0.trans hb07) pg cg (hG.out.ext hb07)) ?_); rintro e w8 ⟨p8, c8, M8, rfl, hp8, hs8, hM8, hl8, hb8⟩; obtain rfl : M7 = M8 := same_of (r := entLt) (fun _ _ h k => sliLt_asym h k) hs7 hs8 (hp7.trans hp8.symm); have hb08 := hb07.trans hb8; clear t0 t1 t2 t3 ho2; obtain ⟨t0, t1, t2, t3⟩ := hcell.out _ hb08; have lr8 := Nat.lt_of_lt_of_le lr hb08.size)
          | (go_at_call 35; (with_reducible refine Calls.mono (hd1.out _ (hb0.trans hb08)) ?_); rintro e w9 ⟨p9, c9, N9, rfl, hP9, hN9, hl9, hb9⟩; have hb09 := hb08.trans hb9; clear t0 t1 t2 t3 hd1; obtain ⟨t0, t1, t2, t3⟩ := hcell.out _ hb09; have lr9 := Nat.lt_of_lt_of_le lr hb09.size)
          | (go_at_call 35; (with_reducible refine Calls.mono (hd2.out _ (hb0.trans hb09) pg cg (hG.out.ext hb09)) ?_); rintro e wA ⟨pA, cA, NA, rfl, hPA, hNA, hlA, hbA⟩; obtain rfl : N9 = NA := debt_uniq hP9 hPA; have hb0A := hb09.trans hbA; clear t0 t1 t2 t3 hd2)
          | (go_at_call 32; (with_reducible refine Calls.mono (eqLent_any p7 p8 M7.length c7 c8 M7 _ (hM7.ext ((hb8.trans hb9).trans hbA)) (hM8.ext (hb9.trans hbA)) (by omega)) ?_); rintro e wB ⟨rfl, hbB⟩)
          | (go_at_call 40; (with_reducible refine Calls.mono (eqPairs_any p9 pA N9.length c9 cA (N9.map debtPair) _ (hN9.ext (hbA.trans hbB)) (hNA.ext hbB) (by omega)) ?_); rintro e wC ⟨rfl, hbC⟩; have hb0C := (hb0A.trans hbB).trans hbC)
          | (go_at_call 42; (with_reducible refine Calls.mono (hrdy.out _ (hb0.trans hb0C)) ?_); rintro e wD ⟨rfl, hbD⟩))
        go_ret
        exact ⟨rfl, ((hb4.trans hb0).trans hb0C).trans hbD⟩
  · generalize libF T r V = f at *
    replace hlf8 := Lib.hid hlf8
    clear hLM
    go_wp2_with (first
      | (go_at_call 14; (with_reducible refine Calls.mono hlf8.out ?_); rintro e w9 ⟨rfl, hb9⟩)
      | (go_at_call 42; (with_reducible refine Calls.mono (hrdy.out _ hb9) ?_); rintro e wE ⟨rfl, hbE⟩))
    go_ret
    exact ⟨rfl, (hb4.trans hb9).trans hbE⟩
end Go.Proofs.YtehboinleolihaaGreatDoor
