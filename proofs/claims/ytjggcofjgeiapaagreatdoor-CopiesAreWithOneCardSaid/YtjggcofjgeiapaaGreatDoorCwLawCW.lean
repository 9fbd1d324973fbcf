/- Copies that are out are with one singer, who has no two of a piece, nor more than may be: the property answers true. Conditions: the argument is a list of ints that lies in memory; the table of the powers of ten stands. -/
import Derived.Test.YtjggcofjgeiapaaGreatDoorCwJ42
import Derived.Test.YtjggcofjgeiapaaGreatDoorCwJ21
import Derived.Test.YtjggcofjgeiapaaGreatDoorCwLbS
import Derived.Test.YtjggcofjgeiapaaGreatDoorCwJ46
import Derived.Test.YtjggcofjgeiapaaGreatDoorCwJ47
set_option linter.unusedSimpArgs false
set_option linter.unusedVariables false
namespace Go.Proofs.YtjggcofjgeiapaaGreatDoor
open Go Go.RowKit Go.Maps

theorem Elems.title4 {w : World} {b off : Nat} {xs : List LentV} (h : Elems 4 lentC w b off xs) {i : Nat} {x : LentV} (hx : xs[i]? = some x) : w.cell? ⟨b, off + i * 4, none⟩ = some (.string x.piece) ∧ w.cell? ⟨b, off + i * 4 + 1, none⟩ = some (.int .i64 x.no) := ⟨h i x hx 0 _ rfl, h i x hx 1 _ rfl⟩
theorem OutR.slc {T : List TitleV} {r : LendR} {d : List SlipV} {t : Int} {w w' : World} {e : Ending} (h : OutR T r d t w e w') (hl : (outL (libAt T r d t).1.loans).length ≤ 1000) : ∃ (p : Option Addr) (n c : Nat) (M : List LentV), e = .returned (.tuple #[.slice p n c, .int .i64 0]) ∧ n ≤ 1000 ∧ M.Perm (outL (libAt T r d t).1.loans) ∧ M.Pairwise entLt ∧ Slc 4 lentC w' p n c M ∧ Ext w w' := by
  obtain ⟨v, M, rfl, hp, hr, ho, hx⟩ := h
  have hM : M.length ≤ 1000 := by rw [hp.length_eq]; exact hl
  obtain ⟨p, c, rfl, hS⟩ := slc_of_own lentC_len ho (by decide) (by omega)
  exact ⟨p, M.length, c, M, rfl, hM, hp, hr, hS, hx⟩
theorem WayR.slc {T : List TitleV} {r : LendR} {d : List SlipV} {t : Int} {k : IdV} {w w' : World} {e : Ending} (h : WayR T r d t k w e w') {A : List ByteArray} {s : ByteArray} (hA : wayL (libAt T r d t).1.loans k = A ++ [s]) (hl : A.length ≤ 1000) : ∃ (b o c : Nat), e = .returned (.tuple #[.slice (some ⟨b, o, none⟩) (A.length + 1) c, .int .i64 0]) ∧ b < w'.heap.size ∧ w'.cell? ⟨b, o + A.length, none⟩ = some (.string s) ∧ Ext w w' := by
  obtain ⟨v, rfl, ho, hx⟩ := h
  rw [hA] at ho
  obtain ⟨p, c, rfl, hS⟩ := slc_of_own strLen ho (by decide) (by simp; omega)
  rw [List.length_append, List.length_singleton] at hS ⊢
  obtain ⟨b, o, rfl, hb, hE⟩ := hS.1.2.2 (by omega)
  refine ⟨b, o, c, rfl, hb, ?_, hx⟩
  have := hE A.length s (by simp) 0 _ rfl
  rw [show o + A.length * 1 + 0 = o + A.length by omega] at this
  exact this
set_option maxRecDepth 100000 in
set_option maxHeartbeats 12800000 in
theorem lawCW_any (B : Nat) (w : World) (p : Option Addr) (n c : Nat) (h : Lst w w.heap.size p n) (ht : Tab B w) :
    Calls Tryz.prog 3 #[.slice p n c] w fun e w' => e = .returned (.bool true) ∧ Ext w w' := by
  have hS0 : Str (w.alloc (.cells #[.slice p n c, .int .i64 0] 25)) w.heap.size 0 := ⟨p, n, c, 0, Nat.le_refl _, Blk.new' rfl, h.low fun j hj => Below.heap_alloc w _ j hj⟩
  clear h
  have hback : ∀ u, ExtS w.heap.size (w.alloc (.cells #[.slice p n c, .int .i64 0] 25)) u → Ext w u := fun u hu => ExtS.back ((Ext.refl w).alloc _) (by simp) hu
  have hW0s : (w.alloc (.cells #[.slice p n c, .int .i64 0] 25)).heap.size = w.heap.size + 1 := by simp
  have hlb := library_any w.heap.size 0 _ (by omega) hS0
  replace hback := Lib.hid hback
  replace hlb := Lib.hid hlb
  replace hW0s := Lib.hid hW0s
  go_enter Tryz.func3, Tryz.ntmps3
  go_upto_region 3 with (go_at_call 9; (with_reducible refine Calls.mono hlb.out ?_); rintro e w1 ⟨p1, n1, c1, T, r, rfl, hn1, hTo, hTl, hTs, hS1, hE1⟩; unfold lendVal)
  have hS1a := hS1.ext ((Ext.refl w1).alloc (.cells (lendC r) 28))
  have hE1a := hE1.alloc (.cells (lendC r) 28)
  have hT1a := hTo.alloc (.cells (lendC r) 28)
  have hR1a : Blk (w1.alloc (.cells (lendC r) 28)) w1.heap.size 28 (lendC r) := Blk.new' rfl
  have hsl : w.heap.size < w1.heap.size := hS1.lt
  have hw1 : w.heap.size + 1 + 2 ≤ w.heap.size + 1 + 2 := Nat.le_refl _
  rw [hW0s.out] at hT1a
  unfold lendC at hS1a hE1a hT1a hR1a
  clear hS0 hS1 hE1 hTo hlb hw1
  generalize (w1.alloc (.cells #[.int .i64 r.days, .int .i64 r.late, .int .i64 r.most, .int .i64 r.each] 28)) = W1 at *
  generalize w1.heap.size = g5 at *
  have hrs := rightSlips_any w.heap.size (0 + 40) W1 (by omega) hS1a
  replace hrs := Lib.hid hrs
  go_upto_region 4 with (first
    | (go_at_call 10; (with_reducible refine Calls.mono hrs.out ?_); rintro e w2 ⟨p2, n2, c2, V, rfl, hn2, hSl2, hpb2, hVl, hVs, hVq, hS2, hE2⟩)
    | (go_at_call 11; have l2 := hS2.lt; refine (pick_in w.heap.size (0 + 40 + 720) _ _ 4 [0, 5, 86400000, 864000000] 0 864000000 _ (by omega) (by simp) (by simp) (by exact hS2.ext (Ext.alloc (Ext.refl _) _)) (by exact Nat.ne_of_gt l2) (by exact Blk.new' rfl) (by decide)).mono ?_; rintro e w3 ⟨t, ht1, ht2, rfl, hS3, hE3⟩))
  subst hVl
  subst hTl
  have hE13 := hE2.trans ((ExtS.refl _ w2).alloc (.cells ([0, 5, 86400000, 864000000].map (Value.int .i64)).toArray 3) |>.trans hE3)
  have hsp2 : ∀ a, p2 = some a → a.block ≠ w.heap.size := fun a ha => by have := hpb2 a ha; have := hS1a.lt; omega
  have hSl3 := (hSl2.ext ((Ext.refl w2).alloc (.cells ([0, 5, 86400000, 864000000].map (Value.int .i64)).toArray 3))).extS hE3 hsp2
  have hT3 := own_extS hE13 (by omega) hT1a
  have hR4 := hR1a.extS (by omega) hE13
  have hE03 := hE1a.trans hE13
  have hto : outB t 0 345686399999 = false := by unfold outB; simp; omega
  have hb4 := hback.out w3 hE03
  obtain ⟨p1', c1', e1', hT4⟩ := slc_of_own titleC_len hT3 (by decide) (by omega)
  cases e1'
  have hV4 := hSl3
  clear hE1a hE13 hE2 hE3 hS2 hSl2 hT1a hR1a hrs hpb2 hS1a ht1 ht2 hE03 hT3 hSl3 hsp2
  have htb := fun u (hu : Ext w3 u) => ht.ext (hb4.trans hu)
  have hlf := fun u (hu : Ext w3 u) => libFault_any p1 T.length c1 T r p2 V.length c2 V u (hT4.ext hu).1 hTs (by omega) (hV4.ext hu).1 hVs (by omega)
  have hrdy := fun u (hu : Ext w3 u) => ready_any B u (htb u hu)
  have hLM := fun (hF : libF T r V = 0) u (hu : Ext w3 u) => (⟨hT4.ext hu, hTs, by omega, hV4.ext hu, hVs, by omega, hF⟩ : ListsM u p1 T.length c1 T r p2 V.length c2 V)
  have r0 := hR4.cell 0
  have r1 := hR4.cell 1
  have r2 := hR4.cell 2
  have r3 := hR4.cell 3
  have lr := hR4.lt
  have hlf8 := hlf w3 (Ext.refl _)
  unfold lendVal at hlf8
  replace htb := Lib.hid htb
  replace hrdy := Lib.hid hrdy
  replace hLM := Lib.hid hLM
  replace hR4 := Lib.hid hR4
  clear hlf hT4 hV4
  by_cases hF : libF T r V = 0
  · rw [hF] at hlf8
    have hR := slipsF_right (libF_zero hF).2.2
    have hTo := titlesF_ok (libF_zero hF).1
    have hLM2 := hLM.out hF
    have hN := libAt_N (T := T) (r := r) (t := t) hR hVs
    have hI := libAt_I (T := T) (r := r) (t := t) hR hVs
    have hC := libAt_C (T := T) (r := r) (t := t) hR hVs
    have hre : 1 ≤ r.each := by
      have h9 := (libF_zero hF).2.1
      unfold lendF inB at h9
      split at h9
      · rename_i h8
        simp only [Bool.and_eq_true, decide_eq_true_eq] at h8
        exact h8.2.1
      · cases h9
    have hloans := hN.loans
    have hst := fun u (hu : Ext w3 u) (p : ByteArray) (no : Int) (hk : okSN (p, no)) (hc : isCopyT T (p, no) = true) => stateOf_any p1 T.length c1 T r p2 V.length c2 V t p no u (hLM2 u hu) hto hk hc
    have hwy := fun u (hu : Ext w3 u) (p : ByteArray) (no : Int) (hk : okSN (p, no)) (hc : isCopyT T (p, no) = true) A s (hA : wayL (libAt T r V t).1.loans (p, no) = A ++ [s]) (hl : A.length ≤ 1000) => (way_any p1 T.length c1 T r p2 V.length c2 V t p no u (hLM2 u hu) hto hk hc).mono fun e w' hh => WayR.slc hh hA hl
    have hou := fun u (hu : Ext w3 u) => (out_any p1 T.length c1 T r p2 V.length c2 V t u (hLM2 u hu) hto).mono fun e w' hh => OutR.slc hh (Nat.le_trans (outL_len _) (by omega))
    have hok := fun (M : List LentV) (h1 : M.Perm (outL (libAt T r V t).1.loans)) (h2 : M.Pairwise entLt) => out_ok hI hN hC (by omega) h1 h2
    have hps : ∀ p no, isCopyT T (p, no) = true → okSN (p, no) := fun p no hc => by
      unfold isCopyT at hc
      cases hz : titleOf T p with
      | none => simp only [hz] at hc; cases hc
      | some z =>
        simp only [hz] at hc
        obtain ⟨h6, h7⟩ := titleOf_get hz
        have h8 := (hTs z h6).1
        have h9 := (hTo.one z h6).2.2.1
        have h10 : outB no 1 z.owned = false := by simpa using hc
        unfold outB at h10
        simp at h10
        rw [h7] at h8
        exact ⟨by show p.size ≤ _; omega, by show _ ≤ no; omega, by show no ≤ _; omega⟩
    unfold lendVal at hst hwy hou
    generalize (libAt T r V t).1 = L at *
    replace hlf8 := Lib.hid hlf8
    replace hst := Lib.hid hst
    replace hwy := Lib.hid hwy
    replace hou := Lib.hid hou
    replace hok := Lib.hid hok
    replace hps := Lib.hid hps
    clear hLM2 hLM hTo hF hN hI hC hR
    go_upto_region 6 with (go_at_call 12; (with_reducible refine Calls.mono hlf8.out ?_); rintro e w4 ⟨rfl, hb34⟩)
    obtain ⟨x0, -⟩ := (hR4.out.ext hb34).walk
    have y0 := x0 0
    have y1 := x0 1
    have y2 := x0 2
    have y3 := x0 3
    have l4 := (hR4.out.ext hb34).lt
    clear x0 r0 r1 r2 r3 lr hlf8
    go_upto_region 9 with (go_at_call 14; (with_reducible refine Calls.mono (hou.out _ hb34) ?_); rintro e w5 ⟨p5, n5, c5, M, rfl, hn5, hMp, hMr, hM5, hb45⟩)
    have hb35 := hb34.trans hb45
    have hO := hok.out M hMp hMr
    have hMl := hM5.1.1
    subst hMl
    have hmm := @run_makeMap Tryz.prog
    have hm1 := (OwnK.made (M := strN) w5).ext ((Ext.refl (w5.alloc (.map #[] 0))).alloc (.map #[] 0))
    have hm2 := OwnK.made (M := spB) (w5.alloc (.map #[] 0))
    have hsz6 : (w5.alloc (.map #[] 0)).heap.size = w5.heap.size + 1 := by simp
    rw [hsz6] at hm2
    have hE6 : Ext w5 ((w5.alloc (.map #[] 0)).alloc (.map #[] 0)) := ((Ext.refl w5).alloc _).alloc _
    replace hm1 := Lib.hid hm1
    replace hm2 := Lib.hid hm2
    replace hE6 := Lib.hid hE6
    replace hO := Lib.hid hO
    replace hM5 := Lib.hid hM5
    clear y0 y1 y2 y3 l4 hou hok hMp hMr hb34 hb45 hsz6
    go_wp2
    generalize ((w5.alloc (.map #[] 0)).alloc (.map #[] 0)) = W6 at *
    generalize hg2 : w5.heap.size + 1 = gB at *
    generalize hg1 : w5.heap.size = gA at *
    have hgl : gA < gB := by omega
    replace hg1 := Lib.hid hg1
    replace hg2 := Lib.hid hg2
    go_loopw [52] (fun v52 wr => ∃ i : Nat, v52 = .int .i64 i ∧ i ≤ M.length ∧ OwnK strN wr gA i (manF (M.take i)) ∧ OwnK spB wr gB i (spF (M.take i)) ∧ Ext w5 wr) (fun v52 _ => M.length - (intOf v52).toNat)
    case atStart =>
      refine ⟨0, rfl, Nat.zero_le _, ?_, ?_, hE6.out⟩
      · have e : manF (M.take 0) = fun _ => none := by funext k; simp [manF, cntS]
        rw [e]; exact hm1.out
      · have e : spF (M.take 0) = fun _ => none := by funext k; simp [spF]
        rw [e]; exact hm2.out
    case round =>
      obtain ⟨i, rfl, hi, hm1r, hm2r, he⟩ := hrel
      by_cases hlt : i < M.length
      · obtain ⟨y, hy⟩ := getD_some (rfl : M.length = M.length) hlt
        have hym := List.mem_of_getElem? hy
        have hyst := hO.out.st y hym
        obtain ⟨A, hA⟩ := hO.out.way y hym
        have hyc := hO.out.copy y hym
        have hyk := hps.out _ _ hyc
        have hysg := hO.out.sing y hym
        have hysi := hO.out.since y hym
        have hAl : A.length ≤ 1000 := by
          have h1 := wayL_len L.loans (y.piece, y.no)
          rw [hA] at h1
          simp at h1
          omega
        obtain ⟨b, off, rfl, hb, hEl⟩ := hM5.out.1.2.2 (by omega)
        have hEr := hEl.ext he hb
        have s0 : wr.cell? ⟨b, off + i * 4, none⟩ = some (.string y.piece) := hEr i y hy 0 _ rfl
        have s1 : wr.cell? ⟨b, off + i * 4 + 1, none⟩ = some (.int .i64 y.no) := hEr i y hy 1 _ rfl
        have s2 : wr.cell? ⟨b, off + i * 4 + 2, none⟩ = some (.string y.singer) := hEr i y hy 2 _ rfl
        have s3 : wr.cell? ⟨b, off + i * 4 + 3, none⟩ = some (.int .i64 y.since) := hEr i y hy 3 _ rfl
        have hiI : (i : Int) < (M.length : Int) := by omega
        have h3r := hb35.trans he
        have hE7 : Ext wr (wr.alloc (.cells #[.string y.piece, .int .i64 y.no, .string y.singer, .int .i64 y.since] 43)) := (Ext.refl wr).alloc _
        have hY7 : Blk (wr.alloc (.cells #[.string y.piece, .int .i64 y.no, .string y.singer, .int .i64 y.since] 43)) wr.heap.size 43 #[.string y.piece, .int .i64 y.no, .string y.singer, .int .i64 y.since] := Blk.new' rfl
        have hs7 := hst.out _ (h3r.trans hE7) y.piece y.no hyk hyc
        rw [hyst] at hs7
        unfold outW at hs7
        have hw8 := fun u (hu : Ext w3 u) => hwy.out u hu y.piece y.no hyk hyc A y.singer hA hAl
        have hRr := hR4.out.ext h3r
        have q0 := hRr.cell 0
        have q1 := hRr.cell 1
        have q2 := hRr.cell 2
        have q3 := hRr.cell 3
        have lq := hRr.lt
        have e0 := hY7.cell 0
        have e1 := hY7.cell 1
        have e2 := hY7.cell 2
        have e3 := hY7.cell 3
        have ly := hY7.lt
        generalize A.length = a at *
        have htk := take_snocL hy
        have hts2 := hO.out.two
        have hnk : spK y ∉ (M.take i).map spK := fun hm => by
          obtain ⟨z, hz, e⟩ := List.mem_map.1 hm
          obtain ⟨j, hj⟩ := mem_at hz
          rw [List.getElem?_take] at hj
          split at hj
          · rename_i hji
            obtain ⟨h1, h2⟩ := List.getElem?_eq_some_iff.1 hj
            obtain ⟨h3, h4⟩ := List.getElem?_eq_some_iff.1 hy
            have h5 := List.pairwise_iff_getElem.1 hts2 j i h1 h3 hji
            rw [h2, h4] at h5
            exact h5 ⟨congrArg Prod.fst e, congrArg Prod.snd e⟩
          · cases hj
        have hmany := hO.out.many (i + 1) y.singer
        rw [htk, cntS_snoc, if_pos rfl] at hmany
        have hlk2 : ∀ u, Ext wr u → (Instr.lookup 41 (.map (some gB)) (.agg #[.string y.singer, .string y.piece]) false).run Tryz.prog u = .ok (.bool false) u := fun u hu => by
          have h9 := (hm2r.ext hu).look (k := spK y) ⟨hysg, hyk.1⟩
          have e : (spF (M.take i) (spK y)).getD spB.zero = false := by unfold spF; rw [if_neg hnk]; rfl
          rw [e] at h9
          exact h9
        replace hy := Lib.hid hy
        replace hEl := Lib.hid hEl
        replace hs7 := Lib.hid hs7
        replace hw8 := Lib.hid hw8
        replace hE7 := Lib.hid hE7
        replace hY7 := Lib.hid hY7
        replace htk := Lib.hid htk
        replace hmany := Lib.hid hmany
        replace hlk2 := Lib.hid hlk2
        replace hm1r := Lib.hid hm1r
        replace hm2r := Lib.hid hm2r
        replace hyk := Lib.hid hyk
        clear hEr hyst hA hyc hts2 hnk hym
        go_upto_region 17 with (first
          | (go_at_call 15; (with_reducible refine Calls.mono hs7.out ?_); rintro e w8 ⟨rfl, hb8⟩; have hE8 := hE7.out.trans hb8; have p0 := (hE8.walk.1 _ _ lq).trans q0; have p1' := (hE8.walk.1 _ _ lq).trans q1; have p2' := (hE8.walk.1 _ _ lq).trans q2; have p3 := (hE8.walk.1 _ _ lq).trans q3; have lp8 := Nat.lt_of_lt_of_le lq hE8.size; have f0 := (hb8.walk.1 _ _ ly).trans e0; have f1 := (hb8.walk.1 _ _ ly).trans e1; have f2 := (hb8.walk.1 _ _ ly).trans e2; have f3 := (hb8.walk.1 _ _ ly).trans e3; have lf := Nat.lt_of_lt_of_le ly hb8.size; clear e0 e1 e2 e3 q0 q1 q2 q3)
          | (go_at_call 16; (with_reducible refine Calls.mono (hw8.out _ (h3r.trans hE8)) ?_); rintro e w9 ⟨bz, oz, c9, rfl, lw, v9, hb9⟩; have m0 := (hb9.walk.1 _ _ lf).trans f0; have m1 := (hb9.walk.1 _ _ lf).trans f1; have m2 := (hb9.walk.1 _ _ lf).trans f2; have m3 := (hb9.walk.1 _ _ lf).trans f3; have lm := Nat.lt_of_lt_of_le lf hb9.size; clear f0 f1 f2 f3 p0 p1' p2' p3))
        have hK : Blk (w9.alloc (.cells #[.string y.singer, .string y.piece] 49)) w9.heap.size 49 #[.string y.singer, .string y.piece] := Blk.new' rfl
        have hE10 : Ext w9 (w9.alloc (.cells #[.string y.singer, .string y.piece] 49)) := (Ext.refl w9).alloc _
        have hEr10 := (hE8.trans hb9).trans hE10
        have hY10 := hY7.out.ext ((hb8.trans hb9).trans hE10)
        have cz := (hE10.walk.1 _ _ lw).trans v9
        have lz := Nat.lt_of_lt_of_le lw hE10.size
        have hR10 := hRr.ext hEr10
        clear m0 m1 m2 m3 lm lf lp8 v9 lw hb8 hb9 hE8 hE10 hs7 hw8 hE7 hY7
        generalize (w9.alloc (.cells #[.string y.singer, .string y.piece] 49)) = W10 at *
        generalize w9.heap.size = gk at *
        generalize wr.heap.size = gy at *
        have lk := hK.lt
        have k0 := hK.cell 0
        have k1 := hK.cell 1
        have ly := hY10.lt
        have y0 := hY10.cell 0
        have y1 := hY10.cell 1
        have y2 := hY10.cell 2
        have y3 := hY10.cell 3
        have hA0 : ((a : Int) + 1 == 0) = false := beq_false_of_ne (by omega)
        have za : IntKind.i64.wrap (a : Int) = (a : Int) := IntWalk.i64_in _ (by omega)
        have zb : IntKind.i64.wrap ((a : Int) + 1 - 1) = (a : Int) := by rw [show (a : Int) + 1 - 1 = a by omega]; exact za
        have haI : (a : Int) < (a : Int) + 1 := by omega
        have hsn : ¬ t < y.since := by omega
        replace za := Lib.hid za
        replace zb := Lib.hid zb
        refine wp_region_planS [(0, true), (1, true), (2, true), (3, true), (4, true), (5, true), (6, true), (7, true), (8, true), (9, true), (10, true), (11, true), (12, true), (13, true), (14, true), (15, true), (16, true), (17, true), (18, true), (19, true), (20, true), (21, true), (22, true), (23, true), (24, true), (25, true), (26, true), (27, true), (28, true), (29, true), (30, true), (31, true), (32, true), (33, true), (34, true), (35, true), (36, true)] 37 (fun w' => Ext W10 w' ∧ Ext W10 w') Ext (by kernel_rfl) (by kernel_rfl) Ext.refl (fun _ _ _ => Ext.trans) (fun _ _ h he => ⟨h.1.trans he, h.2.trans he⟩) ⟨(by (repeat (with_reducible first | assumption | exact Blk.new' (by simp) | refine Blk.drew ?_ | refine Blk.alloc ?_ _ | exact Ext.refl _ | refine Ext.drew ?_ | refine Ext.alloc ?_ _))), (by (repeat (with_reducible first | assumption | exact Blk.new' (by simp) | refine Blk.drew ?_ | refine Blk.alloc ?_ _ | exact Ext.refl _ | refine Ext.drew ?_ | refine Ext.alloc ?_ _)))⟩ ?_
        dsimp only
        repeat
          first
            | (refine plan_quiet rfl rfl (fun _ _ _ _ h => h) ?_
               apply Exists.intro
               refine ⟨fun w' hw' => ?_, ?_⟩
               · obtain ⟨hHa0, hHa1⟩ := hw'
                 have hk9 := hHa0; obtain ⟨hc, -, -⟩ := hk9.walk; have v0 := (hc gy 0 ly).trans y0; have v2 := (hc gy 2 ly).trans y2; have v3 := (hc gy 3 ly).trans y3; have x0 := (hc gk 0 lk).trans k0; have x1 := (hc gk 1 lk).trans k1; have d9 := (hc bz (oz + a) lz).trans cz; have hl9 := hlk2.out w' (hEr10.trans hk9)
                 skip
                 simp [go_sem, quietTo, Ext.refl, ↓IntWalk.iteOmega, hA0, za.out, zb.out, haI, d9, v2, x0, x1, hl9, v3, hsn]
                 first
                   | rfl
               simp only [Act.put, List.setIfInBounds_toArray, List.set_cons_succ, List.set_cons_zero])
            | (refine plan_skip rfl rfl (fun _ _ _ _ h => h) ?_
               simp only [Act.put, List.setIfInBounds_toArray, List.set_cons_succ, List.set_cons_zero])
        refine plan_nil fun wra hera hwra => ?_
        clear hera
        obtain ⟨hHa0, hHa1⟩ := hwra

        simp only [List.drop_succ_cons, List.drop_zero, List.drop_nil]
        go_upto_region 19 with fail
        have h3c : i = 0 ∨ (∃ (j : Nat) (x : LentV), i = j + 1 ∧ M[j]? = some x ∧ (x.piece.toList == y.piece.toList) = false) ∨ (∃ (j : Nat) (x : LentV), i = j + 1 ∧ M[j]? = some x ∧ (x.piece.toList == y.piece.toList) = true ∧ ¬ y.no ≤ x.no) := by
          rcases Nat.eq_zero_or_pos i with h0 | h0
          · exact .inl h0
          · obtain ⟨j, rfl⟩ : ∃ j, i = j + 1 := ⟨i - 1, by omega⟩
            obtain ⟨x, hx⟩ := getD_some (rfl : M.length = M.length) (show j < M.length by omega)
            cases hq : (x.piece.toList == y.piece.toList)
            · exact .inr (.inl ⟨j, x, rfl, hx, hq⟩)
            · have := hO.out.rise j x y hx hy.out (bytesB.1 hq)
              exact .inr (.inr ⟨j, x, rfl, hx, hq, by omega⟩)
        rcases h3c with h0 | ⟨j, x, hj, hx, hq⟩ | ⟨j, x, hj, hx, hq, hge⟩
        · have hi0 : ¬ (0 : Int) < (i : Int) := by omega
          have hiN : ¬ 0 < i := by omega
          have hiD : decide ((0 : Int) < (i : Int)) = false := decide_eq_false hi0
          have hiM : decide (0 < i) = false := decide_eq_false hiN
          replace h0 := Lib.hid h0
          refine wp_region_planS [(0, true), (1, true), (2, true), (3, true), (4, true), (5, true), (6, true), (7, true), (8, true), (9, true), (10, true), (11, true), (12, true), (13, true), (14, true), (15, true), (16, true), (17, true), (18, true), (19, true), (20, true), (21, true), (22, true), (23, true)] 24 (fun w' => Ext wra w' ∧ Ext wra w') Ext (by kernel_rfl) (by kernel_rfl) Ext.refl (fun _ _ _ => Ext.trans) (fun _ _ h he => ⟨h.1.trans he, h.2.trans he⟩) ⟨(by (repeat (with_reducible first | assumption | exact Blk.new' (by simp) | refine Blk.drew ?_ | refine Blk.alloc ?_ _ | exact Ext.refl _ | refine Ext.drew ?_ | refine Ext.alloc ?_ _))), (by (repeat (with_reducible first | assumption | exact Blk.new' (by simp) | refine Blk.drew ?_ | refine Blk.alloc ?_ _ | exact Ext.refl _ | refine Ext.drew ?_ | refine Ext.alloc ?_ _)))⟩ ?_
          repeat
            first
              | (refine plan_quiet rfl rfl (fun _ _ _ _ h => h) ?_
                 apply Exists.intro
                 refine ⟨fun w' hw' => ?_, ?_⟩
                 · obtain ⟨hHb0, hHb1⟩ := hw'
                   have hk9 := hHa0.trans hHb0
                   skip
                   simp [go_sem, quietTo, Ext.refl, ↓IntWalk.iteOmega, hiN, hi0, hiD, hiM]
                   first
                     | rfl
                 simp only [Act.put, List.setIfInBounds_toArray, List.set_cons_succ, List.set_cons_zero])
              | (refine plan_skip rfl rfl (fun _ _ _ _ h => h) ?_
                 simp only [Act.put, List.setIfInBounds_toArray, List.set_cons_succ, List.set_cons_zero])
          refine plan_nil fun wrb herb hwrb => ?_
          clear herb
          obtain ⟨hHb0, hHb1⟩ := hwrb

          simp only [List.drop_succ_cons, List.drop_zero, List.drop_nil]
          have hEb := hEr10.trans (hHa0.trans hHb0)
          have hKb := hK.ext (hHa0.trans hHb0)
          have hYb := hY10.ext (hHa0.trans hHb0)
          have hRb := hR10.ext (hHa0.trans hHb0)
          obtain ⟨wA, hrA, hmA, hgA⟩ := (hm2r.out.ext hEb).put (k := spK y) ⟨hysg, hyk.out.1⟩ (by omega) true
          have hrA' : (Instr.mapUpdate 41 (.map (some gB)) (.agg #[.string y.singer, .string y.piece]) (.bool true)).run Tryz.prog wrb = .ok () wA := hrA
          have hmA1 := (hm1r.out.ext hEb).grown hgA (by simp; omega)
          have hYA : Blk wA gy 43 #[.string y.piece, .int .i64 y.no, .string y.singer, .int .i64 y.since] := (hgA.block gy hYb.lt fun e => by cases e; exact blk_mapK_ne (hm2r.out.ext hEb) hYb rfl).trans hYb
          have hRA : Blk wA g5 28 _ := (hgA.block g5 hRb.lt fun e => by cases e; exact blk_mapK_ne (hm2r.out.ext hEb) hRb rfl).trans hRb
          have hl1 := hmA1.look (k := y.singer) hysg
          rw [manF_get] at hl1
          obtain ⟨wB, hrB, hmB1, hgB⟩ := hmA1.put (k := y.singer) hysg (by omega) ((cntS (M.take i) y.singer : Int) + 1)
          have hmB2 := hmA.grown hgB (by simp; omega)
          have hYB : Blk wB gy 43 #[.string y.piece, .int .i64 y.no, .string y.singer, .int .i64 y.since] := (hgB.block gy hYA.lt fun e => by cases e; exact blk_mapK_ne hmA1 hYA rfl).trans hYA
          have hRB : Blk wB g5 28 _ := (hgB.block g5 hRA.lt fun e => by cases e; exact blk_mapK_ne hmA1 hRA rfl).trans hRA
          rw [manF_put] at hmB1
          rw [spF_put] at hmB2
          have hl2 := hmB1.look (k := y.singer) hysg
          rw [manF_get, cntS_snoc, if_pos rfl] at hl2
          have hE5B : Ext w5 wB := ((he.trans hEb).grown hgA fun k hk => by have h1 := hg1.out; have h2 := hg2.out; cases hk; omega).grown hgB fun k hk => by have h1 := hg1.out; have h2 := hg2.out; cases hk; omega
          have hmy := hmany.out
          have hcl : cntS (M.take i) y.singer ≤ 1000 := by
            unfold cntS
            refine Nat.le_trans (List.length_filter_le _ _) ?_
            rw [List.length_take]
            omega
          generalize cntS (M.take i) y.singer = cn at *
          have hrB' : (Instr.mapUpdate 40 (.map (some gA)) (.string y.singer) (.int .i64 ((cn : Int) + 1))).run Tryz.prog wA = .ok () wB := hrB
          have hl1' : (Instr.lookup 40 (.map (some gA)) (.string y.singer) false).run Tryz.prog wA = .ok (.int .i64 (cn : Int)) wA := hl1
          have hl2' : (Instr.lookup 40 (.map (some gA)) (.string y.singer) false).run Tryz.prog wB = .ok (.int .i64 ((cn : Int) + 1)) wB := hl2
          have zc : IntKind.i64.wrap ((cn : Int) + 1) = (cn : Int) + 1 := IntWalk.i64_in _ (by omega)
          have hmn : ¬ r.each < (cn : Int) + 1 := by omega
          have kb0 := hKb.cell 0
          have kb1 := hKb.cell 1
          have lkb := hKb.lt
          have ya2 := hYA.cell 2
          have lya := hYA.lt
          have yb2 := hYB.cell 2
          have lyb := hYB.lt
          have rb3 := hRB.cell 3
          have lrb := hRB.lt
          replace hrA' := Lib.hid hrA'
          replace hrB' := Lib.hid hrB'
          replace hl1' := Lib.hid hl1'
          replace hl2' := Lib.hid hl2'
          replace hmB1 := Lib.hid hmB1
          replace hmB2 := Lib.hid hmB2
          clear hrA hrB hl1 hl2 hmA hmA1 hgA hgB hYA hYB hRA hRB hKb hYb hRb hEb hK hY10 hR10 hm1r hm2r hmany hmy hlk2 k0 k1 y0 y1 y2 y3 cz
          go_wp2_with (first
            | (refine wpList_putM rfl _ _ _ 41 rfl (.map (some gB)) (.agg #[.string y.singer, .string y.piece]) (.bool true) rfl rfl rfl wA hrA'.out ?_)
            | (refine wpList_lookM rfl _ _ 40 false rfl (.map (some gA)) (.string y.singer) _ rfl rfl hl1'.out ?_)
            | (refine wpList_putM rfl _ _ _ 40 rfl (.map (some gA)) (.string y.singer) (.int .i64 ((cn : Int) + 1)) rfl rfl rfl wB hrB'.out ?_)
            | (refine wpList_lookM rfl _ _ 40 false rfl (.map (some gA)) (.string y.singer) _ rfl rfl hl2'.out ?_))
          go_roundw
          case rel => exact ⟨i + 1, by go_num, by omega, by rw [htk.out]; exact hmB1.out, by rw [htk.out]; exact hmB2.out, hE5B⟩
          case measure => simp [intOf]; omega
        · have hi0 : (0 : Int) < (i : Int) := by omega
          have hiN : 0 < i := by omega
          have hiD : decide ((0 : Int) < (i : Int)) = true := decide_eq_true hi0
          have hiM : decide (0 < i) = true := decide_eq_true hiN
          have zd : IntKind.i64.wrap ((i : Int) - 1) = (j : Int) := by rw [IntWalk.i64_in _ (by omega)]; omega
          have hjI : (j : Int) < (M.length : Int) := by omega
          replace hj := Lib.hid hj
          replace hx := Lib.hid hx
          refine wp_region_planS [(0, true), (1, true), (2, true), (3, true), (4, true), (5, true), (6, true), (7, true), (8, true), (9, true), (10, true), (11, true), (12, true), (13, true), (14, true), (15, true), (16, true), (17, true), (18, true), (19, true), (20, true), (21, true), (22, true), (23, true)] 24 (fun w' => Ext wra w' ∧ Ext wra w') Ext (by kernel_rfl) (by kernel_rfl) Ext.refl (fun _ _ _ => Ext.trans) (fun _ _ h he => ⟨h.1.trans he, h.2.trans he⟩) ⟨(by (repeat (with_reducible first | assumption | exact Blk.new' (by simp) | refine Blk.drew ?_ | refine Blk.alloc ?_ _ | exact Ext.refl _ | refine Ext.drew ?_ | refine Ext.alloc ?_ _))), (by (repeat (with_reducible first | assumption | exact Blk.new' (by simp) | refine Blk.drew ?_ | refine Blk.alloc ?_ _ | exact Ext.refl _ | refine Ext.drew ?_ | refine Ext.alloc ?_ _)))⟩ ?_
          repeat
            first
              | (refine plan_quiet rfl rfl (fun _ _ _ _ h => h) ?_
                 apply Exists.intro
                 refine ⟨fun w' hw' => ?_, ?_⟩
                 · obtain ⟨hHb0, hHb1⟩ := hw'
                   have hk9 := hHa0.trans hHb0; obtain ⟨hc, -, -⟩ := hk9.walk; have v0 := (hc gy 0 ly).trans y0; have v1 := (hc gy 1 ly).trans y1; have x0 := ((hEl.out.ext (he.trans (hEr10.trans hk9)) hb).title4 hx.out).1; have x1 := ((hEl.out.ext (he.trans (hEr10.trans hk9)) hb).title4 hx.out).2
                   skip
                   simp [go_sem, quietTo, Ext.refl, ↓IntWalk.iteOmega, hiN, hi0, hiD, hiM, zd, hjI, x0, v0, hq]
                   first
                     | rfl
                 simp only [Act.put, List.setIfInBounds_toArray, List.set_cons_succ, List.set_cons_zero])
              | (refine plan_skip rfl rfl (fun _ _ _ _ h => h) ?_
                 simp only [Act.put, List.setIfInBounds_toArray, List.set_cons_succ, List.set_cons_zero])
          refine plan_nil fun wrb herb hwrb => ?_
          clear herb
          obtain ⟨hHb0, hHb1⟩ := hwrb

          simp only [List.drop_succ_cons, List.drop_zero, List.drop_nil]
          have hEb := hEr10.trans (hHa0.trans hHb0)
          have hKb := hK.ext (hHa0.trans hHb0)
          have hYb := hY10.ext (hHa0.trans hHb0)
          have hRb := hR10.ext (hHa0.trans hHb0)
          obtain ⟨wA, hrA, hmA, hgA⟩ := (hm2r.out.ext hEb).put (k := spK y) ⟨hysg, hyk.out.1⟩ (by omega) true
          have hrA' : (Instr.mapUpdate 41 (.map (some gB)) (.agg #[.string y.singer, .string y.piece]) (.bool true)).run Tryz.prog wrb = .ok () wA := hrA
          have hmA1 := (hm1r.out.ext hEb).grown hgA (by simp; omega)
          have hYA : Blk wA gy 43 #[.string y.piece, .int .i64 y.no, .string y.singer, .int .i64 y.since] := (hgA.block gy hYb.lt fun e => by cases e; exact blk_mapK_ne (hm2r.out.ext hEb) hYb rfl).trans hYb
          have hRA : Blk wA g5 28 _ := (hgA.block g5 hRb.lt fun e => by cases e; exact blk_mapK_ne (hm2r.out.ext hEb) hRb rfl).trans hRb
          have hl1 := hmA1.look (k := y.singer) hysg
          rw [manF_get] at hl1
          obtain ⟨wB, hrB, hmB1, hgB⟩ := hmA1.put (k := y.singer) hysg (by omega) ((cntS (M.take i) y.singer : Int) + 1)
          have hmB2 := hmA.grown hgB (by simp; omega)
          have hYB : Blk wB gy 43 #[.string y.piece, .int .i64 y.no, .string y.singer, .int .i64 y.since] := (hgB.block gy hYA.lt fun e => by cases e; exact blk_mapK_ne hmA1 hYA rfl).trans hYA
          have hRB : Blk wB g5 28 _ := (hgB.block g5 hRA.lt fun e => by cases e; exact blk_mapK_ne hmA1 hRA rfl).trans hRA
          rw [manF_put] at hmB1
          rw [spF_put] at hmB2
          have hl2 := hmB1.look (k := y.singer) hysg
          rw [manF_get, cntS_snoc, if_pos rfl] at hl2
          have hE5B : Ext w5 wB := ((he.trans hEb).grown hgA fun k hk => by have h1 := hg1.out; have h2 := hg2.out; cases hk; omega).grown hgB fun k hk => by have h1 := hg1.out; have h2 := hg2.out; cases hk; omega
          have hmy := hmany.out
          have hcl : cntS (M.take i) y.singer ≤ 1000 := by
            unfold cntS
            refine Nat.le_trans (List.length_filter_le _ _) ?_
            rw [List.length_take]
            omega
          generalize cntS (M.take i) y.singer = cn at *
          have hrB' : (Instr.mapUpdate 40 (.map (some gA)) (.string y.singer) (.int .i64 ((cn : Int) + 1))).run Tryz.prog wA = .ok () wB := hrB
          have hl1' : (Instr.lookup 40 (.map (some gA)) (.string y.singer) false).run Tryz.prog wA = .ok (.int .i64 (cn : Int)) wA := hl1
          have hl2' : (Instr.lookup 40 (.map (some gA)) (.string y.singer) false).run Tryz.prog wB = .ok (.int .i64 ((cn : Int) + 1)) wB := hl2
          have zc : IntKind.i64.wrap ((cn : Int) + 1) = (cn : Int) + 1 := IntWalk.i64_in _ (by omega)
          have hmn : ¬ r.each < (cn : Int) + 1 := by omega
          have kb0 := hKb.cell 0
          have kb1 := hKb.cell 1
          have lkb := hKb.lt
          have ya2 := hYA.cell 2
          have lya := hYA.lt
          have yb2 := hYB.cell 2
          have lyb := hYB.lt
          have rb3 := hRB.cell 3
          have lrb := hRB.lt
          replace hrA' := Lib.hid hrA'
          replace hrB' := Lib.hid hrB'
          replace hl1' := Lib.hid hl1'
          replace hl2' := Lib.hid hl2'
          replace hmB1 := Lib.hid hmB1
          replace hmB2 := Lib.hid hmB2
          clear hrA hrB hl1 hl2 hmA hmA1 hgA hgB hYA hYB hRA hRB hKb hYb hRb hEb hK hY10 hR10 hm1r hm2r hmany hmy hlk2 k0 k1 y0 y1 y2 y3 cz
          go_wp2_with (first
            | (refine wpList_putM rfl _ _ _ 41 rfl (.map (some gB)) (.agg #[.string y.singer, .string y.piece]) (.bool true) rfl rfl rfl wA hrA'.out ?_)
            | (refine wpList_lookM rfl _ _ 40 false rfl (.map (some gA)) (.string y.singer) _ rfl rfl hl1'.out ?_)
            | (refine wpList_putM rfl _ _ _ 40 rfl (.map (some gA)) (.string y.singer) (.int .i64 ((cn : Int) + 1)) rfl rfl rfl wB hrB'.out ?_)
            | (refine wpList_lookM rfl _ _ 40 false rfl (.map (some gA)) (.string y.singer) _ rfl rfl hl2'.out ?_))
          go_roundw
          case rel => exact ⟨i + 1, by go_num, by omega, by rw [htk.out]; exact hmB1.out, by rw [htk.out]; exact hmB2.out, hE5B⟩
          case measure => simp [intOf]; omega
        · have hi0 : (0 : Int) < (i : Int) := by omega
          have hiN : 0 < i := by omega
          have hiD : decide ((0 : Int) < (i : Int)) = true := decide_eq_true hi0
          have hiM : decide (0 < i) = true := decide_eq_true hiN
          have zd : IntKind.i64.wrap ((i : Int) - 1) = (j : Int) := by rw [IntWalk.i64_in _ (by omega)]; omega
          have hjI : (j : Int) < (M.length : Int) := by omega
          replace hj := Lib.hid hj
          replace hx := Lib.hid hx
          refine wp_region_planS [(0, true), (1, true), (2, true), (3, true), (4, true), (5, true), (6, true), (7, true), (8, true), (9, true), (10, true), (11, true), (12, true), (13, true), (14, true), (15, true), (16, true), (17, true), (18, true), (19, true), (20, true), (21, true), (22, true), (23, true)] 24 (fun w' => Ext wra w' ∧ Ext wra w') Ext (by kernel_rfl) (by kernel_rfl) Ext.refl (fun _ _ _ => Ext.trans) (fun _ _ h he => ⟨h.1.trans he, h.2.trans he⟩) ⟨(by (repeat (with_reducible first | assumption | exact Blk.new' (by simp) | refine Blk.drew ?_ | refine Blk.alloc ?_ _ | exact Ext.refl _ | refine Ext.drew ?_ | refine Ext.alloc ?_ _))), (by (repeat (with_reducible first | assumption | exact Blk.new' (by simp) | refine Blk.drew ?_ | refine Blk.alloc ?_ _ | exact Ext.refl _ | refine Ext.drew ?_ | refine Ext.alloc ?_ _)))⟩ ?_
          repeat
            first
              | (refine plan_quiet rfl rfl (fun _ _ _ _ h => h) ?_
                 apply Exists.intro
                 refine ⟨fun w' hw' => ?_, ?_⟩
                 · obtain ⟨hHb0, hHb1⟩ := hw'
                   have hk9 := hHa0.trans hHb0; obtain ⟨hc, -, -⟩ := hk9.walk; have v0 := (hc gy 0 ly).trans y0; have v1 := (hc gy 1 ly).trans y1; have x0 := ((hEl.out.ext (he.trans (hEr10.trans hk9)) hb).title4 hx.out).1; have x1 := ((hEl.out.ext (he.trans (hEr10.trans hk9)) hb).title4 hx.out).2
                   skip
                   simp [go_sem, quietTo, Ext.refl, ↓IntWalk.iteOmega, hiN, hi0, hiD, hiM, zd, hjI, x0, v0, hq, x1, v1, hge]
                   first
                     | rfl
                 simp only [Act.put, List.setIfInBounds_toArray, List.set_cons_succ, List.set_cons_zero])
              | (refine plan_skip rfl rfl (fun _ _ _ _ h => h) ?_
                 simp only [Act.put, List.setIfInBounds_toArray, List.set_cons_succ, List.set_cons_zero])
          refine plan_nil fun wrb herb hwrb => ?_
          clear herb
          obtain ⟨hHb0, hHb1⟩ := hwrb

          simp only [List.drop_succ_cons, List.drop_zero, List.drop_nil]
          have hEb := hEr10.trans (hHa0.trans hHb0)
          have hKb := hK.ext (hHa0.trans hHb0)
          have hYb := hY10.ext (hHa0.trans hHb0)
          have hRb := hR10.ext (hHa0.trans hHb0)
          obtain ⟨wA, hrA, hmA, hgA⟩ := (hm2r.out.ext hEb).put (k := spK y) ⟨hysg, hyk.out.1⟩ (by omega) true
          have hrA' : (Instr.mapUpdate 41 (.map (some gB)) (.agg #[.string y.singer, .string y.piece]) (.bool true)).run Tryz.prog wrb = .ok () wA := hrA
          have hmA1 := (hm1r.out.ext hEb).grown hgA (by simp; omega)
          have hYA : Blk wA gy 43 #[.string y.piece, .int .i64 y.no, .string y.singer, .int .i64 y.since] := (hgA.block gy hYb.lt fun e => by cases e; exact blk_mapK_ne (hm2r.out.ext hEb) hYb rfl).trans hYb
          have hRA : Blk wA g5 28 _ := (hgA.block g5 hRb.lt fun e => by cases e; exact blk_mapK_ne (hm2r.out.ext hEb) hRb rfl).trans hRb
          have hl1 := hmA1.look (k := y.singer) hysg
          rw [manF_get] at hl1
          obtain ⟨wB, hrB, hmB1, hgB⟩ := hmA1.put (k := y.singer) hysg (by omega) ((cntS (M.take i) y.singer : Int) + 1)
          have hmB2 := hmA.grown hgB (by simp; omega)
          have hYB : Blk wB gy 43 #[.string y.piece, .int .i64 y.no, .string y.singer, .int .i64 y.since] := (hgB.block gy hYA.lt fun e => by cases e; exact blk_mapK_ne hmA1 hYA rfl).trans hYA
          have hRB : Blk wB g5 28 _ := (hgB.block g5 hRA.lt fun e => by cases e; exact blk_mapK_ne hmA1 hRA rfl).trans hRA
          rw [manF_put] at hmB1
          rw [spF_put] at hmB2
          have hl2 := hmB1.look (k := y.singer) hysg
          rw [manF_get, cntS_snoc, if_pos rfl] at hl2
          have hE5B : Ext w5 wB := ((he.trans hEb).grown hgA fun k hk => by have h1 := hg1.out; have h2 := hg2.out; cases hk; omega).grown hgB fun k hk => by have h1 := hg1.out; have h2 := hg2.out; cases hk; omega
          have hmy := hmany.out
          have hcl : cntS (M.take i) y.singer ≤ 1000 := by
            unfold cntS
            refine Nat.le_trans (List.length_filter_le _ _) ?_
            rw [List.length_take]
            omega
          generalize cntS (M.take i) y.singer = cn at *
          have hrB' : (Instr.mapUpdate 40 (.map (some gA)) (.string y.singer) (.int .i64 ((cn : Int) + 1))).run Tryz.prog wA = .ok () wB := hrB
          have hl1' : (Instr.lookup 40 (.map (some gA)) (.string y.singer) false).run Tryz.prog wA = .ok (.int .i64 (cn : Int)) wA := hl1
          have hl2' : (Instr.lookup 40 (.map (some gA)) (.string y.singer) false).run Tryz.prog wB = .ok (.int .i64 ((cn : Int) + 1)) wB := hl2
          have zc : IntKind.i64.wrap ((cn : Int) + 1) = (cn : Int) + 1 := IntWalk.i64_in _ (by omega)
          have hmn : ¬ r.each < (cn : Int) + 1 := by omega
          have kb0 := hKb.cell 0
          have kb1 := hKb.cell 1
          have lkb := hKb.lt
          have ya2 := hYA.cell 2
          have lya := hYA.lt
          have yb2 := hYB.cell 2
          have lyb := hYB.lt
          have rb3 := hRB.cell 3
          have lrb := hRB.lt
          replace hrA' := Lib.hid hrA'
          replace hrB' := Lib.hid hrB'
          replace hl1' := Lib.hid hl1'
          replace hl2' := Lib.hid hl2'
          replace hmB1 := Lib.hid hmB1
          replace hmB2 := Lib.hid hmB2
          clear hrA hrB hl1 hl2 hmA hmA1 hgA hgB hYA hYB hRA hRB hKb hYb hRb hEb hK hY10 hR10 hm1r hm2r hmany hmy hlk2 k0 k1 y0 y1 y2 y3 cz
          go_wp2_with (first
            | (refine wpList_putM rfl _ _ _ 41 rfl (.map (some gB)) (.agg #[.string y.singer, .string y.piece]) (.bool true) rfl rfl rfl wA hrA'.out ?_)
            | (refine wpList_lookM rfl _ _ 40 false rfl (.map (some gA)) (.string y.singer) _ rfl rfl hl1'.out ?_)
            | (refine wpList_putM rfl _ _ _ 40 rfl (.map (some gA)) (.string y.singer) (.int .i64 ((cn : Int) + 1)) rfl rfl rfl wB hrB'.out ?_)
            | (refine wpList_lookM rfl _ _ 40 false rfl (.map (some gA)) (.string y.singer) _ rfl rfl hl2'.out ?_))
          go_roundw
          case rel => exact ⟨i + 1, by go_num, by omega, by rw [htk.out]; exact hmB1.out, by rw [htk.out]; exact hmB2.out, hE5B⟩
          case measure => simp [intOf]; omega
      · obtain rfl : M.length = i := by omega
        go_wp2_with (go_at_call 13; (with_reducible refine Calls.mono (hrdy.out _ (hb35.trans he)) ?_); rintro e wE ⟨rfl, hbE⟩)
        go_ret
        exact ⟨rfl, ((hb4.trans hb35).trans he).trans hbE⟩
  · generalize libF T r V = f at *
    replace hlf8 := Lib.hid hlf8
    clear hLM
    go_wp2_with (first
      | (go_at_call 12; (with_reducible refine Calls.mono hlf8.out ?_); rintro e w9 ⟨rfl, hb9⟩)
      | (go_at_call 13; (with_reducible refine Calls.mono (hrdy.out _ hb9) ?_); rintro e wE ⟨rfl, hbE⟩))
    go_ret
    exact ⟨rfl, (hb4.trans hb9).trans hbE⟩
end Go.Proofs.YtjggcofjgeiapaaGreatDoor
