/- A library at a moment, when all is right: the walk of at. Conditions: sizes; at most 19 slips. Which slips are refused, and why: the walk of Refused when all is right. Conditions: sizes; at most 19 slips. How many copies of each title are in: the walk of Stock. Conditions: sizes; at most 19 slips. Rows of pairs with the same content are equal. Conditions: sizes. -/
import Derived.Test.YtehboinleolihaaGreatDoorRzLbJ
import Derived.Test.YtehboinleolihaaGreatDoorRzJ19
import Derived.Test.YtehboinleolihaaGreatDoorRzJ30
import Derived.Test.YtehboinleolihaaGreatDoorRzJ12
set_option linter.unusedSimpArgs false
set_option linter.unusedVariables false
namespace Go.Proofs.YtehboinleolihaaGreatDoor
open Go Go.RowKit Go.Maps

/-- What is right about a library's lists in memory. -/
structure ListsM (w : World) (tp : Option Addr) (tn tc : Nat) (T : List TitleV) (r : LendR) (dp : Option Addr) (dn dc : Nat) (d : List SlipV) : Prop where
  ti : Slc 3 titleC w tp tn tc T
  ts : ∀ x ∈ T, x.Small
  tl : tn ≤ 1000
  sl : Slc 7 slipC w dp dn dc d
  ss : ∀ x ∈ d, x.Small
  sn : dn ≤ 19
  ok : libF T r d = 0
theorem ListsM.ext {w w' : World} {tp : Option Addr} {tn tc : Nat} {T : List TitleV} {r : LendR} {dp : Option Addr} {dn dc : Nat} {d : List SlipV} (h : ListsM w tp tn tc T r dp dn dc d) (he : Ext w w') : ListsM w' tp tn tc T r dp dn dc d :=
  ⟨h.ti.ext he, h.ts, h.tl, h.sl.ext he, h.ss, h.sn, h.ok⟩
/-- A library at a moment. -/
def AtR (tp : Option Addr) (tn tc : Nat) (T : List TitleV) (r : LendR) (d : List SlipV) (t : Int) (w : World) (e : Ending) (w' : World) : Prop :=
  ∃ (base bb ms ml mh q : Nat), e = .returned (.tuple #[.pointer (some ⟨bb, 0, none⟩), .int .i64 0]) ∧ LibM base w' bb ms ml mh q tp tn tc r (libAt T r d t).1 ∧ Ext w w'
set_option maxRecDepth 100000 in
theorem nothing_any (w : World) : Calls Tryz.prog 89 #[] w fun e w' => e = .returned (.int .i64 0) ∧ w = w' := by
  go_enter Tryz.func89, Tryz.ntmps89
  go_wp2
  go_ret
  exact ⟨rfl, rfl⟩
set_option maxRecDepth 100000 in
set_option maxHeartbeats 6400000 in
theorem atN_any (tp : Option Addr) (tn tc : Nat) (T : List TitleV) (r : LendR) (dp : Option Addr) (dn dc : Nat) (d : List SlipV) (t : Int) (w : World) (h : ListsM w tp tn tc T r dp dn dc d) (ht : outB t 0 345686399999 = false) :
    Calls Tryz.prog 86 #[.slice tp tn tc, lendVal r, .slice dp dn dc, .int .i64 t, .func (.func 89) #[] #[]] w (AtR tp tn tc T r d t w) := by
  obtain ⟨z1, z2, z3⟩ := libF_zero h.ok
  have hl := fun u (hu : Ext w u) => listsFault_any tp tn tc T r dp dn dc d u (h.ext hu).ti.1 h.ts h.tl (h.ext hu).sl.1 h.ss (by have := h.sn; omega)
  have hm := fun u => sMom_is ht u
  have hL := fun u (hu : Ext w u) => libraryAt_any tp tn tc T r dp dn dc d t u (h.ext hu).ti (titlesF_ok z1) (h.ext hu).sl (slipsF_right z3) h.ss h.sn
  rw [h.ok] at hl
  unfold lendVal at hl hL ⊢
  have hE : Ext w (w.alloc (.cells #[.int .i64 r.days, .int .i64 r.late, .int .i64 r.most, .int .i64 r.each] 28)) := (Ext.refl w).alloc _
  have hX := Blk.new' (w := w) (g := w.heap.size) (t := 28) (cs := #[.int .i64 r.days, .int .i64 r.late, .int .i64 r.most, .int .i64 r.each]) rfl
  have lx := hX.lt
  have x0 := hX.cell 0
  have x1 := hX.cell 1
  have x2 := hX.cell 2
  have x3 := hX.cell 3
  clear h z1 z2 z3 hX
  replace hl := Lib.hid hl
  replace hm := Lib.hid hm
  replace hL := Lib.hid hL
  replace hE := Lib.hid hE
  go_enter Tryz.func86, Tryz.ntmps86
  go_wp2_with (first
    | (go_at_call 82; (with_reducible refine Calls.mono (hl.out _ hE.out) ?_); rintro e w1 ⟨rfl, hb1⟩; have v0 := (hb1.walk.1 _ _ lx).trans x0; have v1 := (hb1.walk.1 _ _ lx).trans x1; have v2 := (hb1.walk.1 _ _ lx).trans x2; have v3 := (hb1.walk.1 _ _ lx).trans x3)
    | (go_at_call 89; (with_reducible refine Calls.mono (nothing_any _) ?_); rintro e w2 ⟨rfl, rfl⟩)
    | (go_at_call 173; (with_reducible refine Calls.mono (hm.out _) ?_); rintro e w3 ⟨rfl, hb3⟩; have u0 := (hb3.walk.1 _ _ (Nat.lt_of_lt_of_le lx hb1.size)).trans v0; have u1 := (hb3.walk.1 _ _ (Nat.lt_of_lt_of_le lx hb1.size)).trans v1; have u2 := (hb3.walk.1 _ _ (Nat.lt_of_lt_of_le lx hb1.size)).trans v2; have u3 := (hb3.walk.1 _ _ (Nat.lt_of_lt_of_le lx hb1.size)).trans v3)
    | (go_at_call 83; (with_reducible refine Calls.mono (hL.out _ ((hE.out.trans hb1).trans hb3)) ?_); rintro e w4 ⟨base, bb, ms, ml, mh, q, mr, n, rfl, hLM, hRM, hb4⟩))
  have hres : AtR tp tn tc T r d t w (.returned (.tuple #[.pointer (some ⟨bb, 0, none⟩), .int .i64 0])) w4 := ⟨base, bb, ms, ml, mh, q, rfl, hLM, ((hE.out.trans hb1).trans hb3).trans hb4⟩
  go_ret2
  exact hres
end Go.Proofs.YtehboinleolihaaGreatDoor

namespace Go.Proofs.YtehboinleolihaaGreatDoor
open Go Go.RowKit

def errC (x : Int) : List Value := [.int .i64 x]
theorem errInfoW : (Tryz.prog.info? 36).map (fun i => (i.zero, i.size, i.bytes)) = some (some (.int .i64 0), 1, 8) := by kernel_rfl
def RefR (T : List TitleV) (r : LendR) (d : List SlipV) (w : World) (e : Ending) (w' : World) : Prop :=
  ∃ v u : Value, e = .returned (.tuple #[v, u, .int .i64 0]) ∧ w'.ownsRow w.heap.size 3 1 v (refL (libAt T r d 345686400000).2 d.length).length ((refL (libAt T r d 345686400000).2 d.length).flatMap natC) ∧
    w'.ownsRow w.heap.size 36 1 u (refL (libAt T r d 345686400000).2 d.length).length ((whyL (libAt T r d 345686400000).2 (refL (libAt T r d 345686400000).2 d.length)).flatMap errC) ∧ (∀ g, v.ownBlock = some g → u.ownBlock ≠ some g) ∧ Ext w w'
theorem why_take {R : Int → Option Int} {S : List Nat} {k i : Nat} (h : S[k]? = some i) : (whyL R (S.take (k + 1))).flatMap errC = (whyL R (S.take k)).flatMap errC ++ errC ((R (i : Int)).getD 0) := by
  unfold whyL
  rw [take_snocL h, List.map_append, List.flatMap_append]
  simp
set_option maxRecDepth 100000 in
set_option maxHeartbeats 1600000 in
theorem refused_any (tp : Option Addr) (tn tc : Nat) (T : List TitleV) (r : LendR) (dp : Option Addr) (dn dc : Nat) (d : List SlipV) (w : World) (h : ListsM w tp tn tc T r dp dn dc d) :
    Calls Tryz.prog 15 #[.slice tp tn tc, lendVal r, .slice dp dn dc] w (RefR T r d w) := by
  have hTo := titlesF_ok (libF_zero h.ok).1
  have hd := slipsF_right (libF_zero h.ok).2.2
  have hdl : d.length = dn := h.sl.1.1
  have hdn := h.sn
  have hlf : ∀ u, Ext w u → Calls Tryz.prog 82 #[.slice tp tn tc, lendVal r, .slice dp dn dc] u fun e w' => e = .returned (.int .i64 0) ∧ Ext u w' := fun u hu => by
    have h1 := listsFault_any tp tn tc T r dp dn dc d u (h.ext hu).ti.1 h.ts h.tl (h.ext hu).sl.1 h.ss (by omega)
    rw [h.ok] at h1
    exact h1
  have hla := fun u (hu : Ext w u) => libraryAt_any tp tn tc T r dp dn dc d 345686400000 u (h.ext hu).ti hTo (h.ext hu).sl hd h.ss h.sn
  unfold lendVal at hlf hla ⊢
  obtain ⟨R, hR⟩ : ∃ R, R = (libAt T r d 345686400000).2 := ⟨_, rfl⟩
  obtain ⟨S, hS⟩ : ∃ S, S = refL R d.length := ⟨_, rfl⟩
  have hmem : ∀ i : Int, (R i).isSome = true ↔ ∃ j ∈ S, i = (j : Int) := fun i => by rw [hS, hR]; exact ref_mem i
  have hrise : S.Pairwise (· < ·) := by rw [hS]; exact ref_rise _ _
  have hSl : S.length ≤ 19 := by have := ref_len R d.length; rw [hS]; omega
  have hSb : ∀ i ∈ S, i ≤ 1000000000 := fun i hi => by rw [hS] at hi; have := ref_lt hi; omega
  have hE : Ext w (w.alloc (.cells #[.int .i64 r.days, .int .i64 r.late, .int .i64 r.most, .int .i64 r.each] 28)) := (Ext.refl w).alloc _
  have hres : ∀ v u w', w'.ownsRow w.heap.size 3 1 v S.length (S.flatMap natC) → w'.ownsRow w.heap.size 36 1 u S.length ((whyL R S).flatMap errC) → (∀ g, v.ownBlock = some g → u.ownBlock ≠ some g) → Ext w w' → RefR T r d w (.returned (.tuple #[v, u, .int .i64 0])) w' := fun v u w' h1 h2 h3 h4 => by
    subst hS; subst hR
    exact ⟨v, u, rfl, h1, h2, h3, h4⟩
  have hX0 := Blk.new' (w := w) (g := w.heap.size) (t := 28) (cs := #[.int .i64 r.days, .int .i64 r.late, .int .i64 r.most, .int .i64 r.each]) rfl
  have lx := hX0.lt
  have x0 := hX0.cell 0
  have x1 := hX0.cell 1
  have x2 := hX0.cell 2
  have x3 := hX0.cell 3
  have hdl2 := hdl
  clear h hTo hd hdl hX0
  replace hlf := Lib.hid hlf
  replace hla := Lib.hid hla
  replace hE := Lib.hid hE
  replace hR := Lib.hid hR
  replace hS := Lib.hid hS
  replace hmem := Lib.hid hmem
  replace hrise := Lib.hid hrise
  replace hSb := Lib.hid hSb
  replace hres := Lib.hid hres
  go_enter Tryz.func15, Tryz.ntmps15
  go_upto_region 7 with (first
    | (go_at_call 82; (with_reducible refine Calls.mono (hlf.out _ hE.out) ?_); rintro e w1 ⟨rfl, hb1⟩; have v0 := (hb1.walk.1 _ _ lx).trans x0; have v1 := (hb1.walk.1 _ _ lx).trans x1; have v2 := (hb1.walk.1 _ _ lx).trans x2; have v3 := (hb1.walk.1 _ _ lx).trans x3)
    | (go_at_call 83; (with_reducible refine Calls.mono (hla.out _ (hE.out.trans hb1)) ?_); rintro e w2 ⟨base, bb, ms, ml, mh, q, mr, n, rfl, -, hX, hb2⟩; rw [← hR.out] at hX; have hso := sortedE_any hX S (by omega) hrise.out hSb.out hmem.out; replace hso := Lib.hid hso; replace hX := Lib.hid hX)
    | (go_at_call 85; (with_reducible refine Calls.mono (keysE_any _ _) ?_); rintro e w3 ⟨rfl, rfl⟩)
    | (go_at_call 84; (with_reducible refine Calls.mono hso.out ?_); rintro e w4 ⟨p4, c4, rfl, ho4, hb4⟩))
  have hEw := ((hE.out.trans hb1).trans hb2).trans hb4
  have hX4 := hX.out.ext hb4
  have hs4 := own_low ho4 ((hE.out.trans hb1).trans hb2).size
  have hz4 := hEw.size
  obtain ⟨p4', c4', e4, hS4⟩ := slc_of_own natC_len ho4 (by decide) (by omega)
  cases e4
  have hlt4 := fun g hg => (hs4.lt g hg).2
  clear hlf hla hE hb1 hb2 hb4 hso hX ho4
  replace hX4 := Lib.hid hX4
  replace hs4 := Lib.hid hs4
  replace hS4 := Lib.hid hS4
  go_wp2
  go_loopw [12, 35] (fun v12 v35 wr => ∃ (k : Nat) (v : Value), v35 = .int .i64 k ∧ v = v12 ∧ k ≤ S.length ∧ wr.ownsRow w4.heap.size 36 1 v k ((whyL R (S.take k)).flatMap errC) ∧ Ext w4 wr) (fun _ v35 _ => S.length - (intOf v35).toNat)
  case atStart => exact ⟨0, _, rfl, rfl, Nat.zero_le _, World.ownsRow_nil _ _ _ _, Ext.refl _⟩
  case round =>
    obtain ⟨k, v, rfl, rfl, hk2, hown, he⟩ := hrel
    by_cases hlt : k < S.length
    · obtain ⟨i, hx⟩ := getD_some (rfl : S.length = S.length) hlt
      obtain ⟨b, off, rfl, hb, hEl⟩ := hS4.out.1.2.2 (by omega)
      have d0 : wr.cell? ⟨b, off + k * 1, none⟩ = some (.int .i64 (i : Int)) := (hEl.ext he hb) k _ hx 0 _ rfl
      rw [Nat.mul_one] at d0
      have hkI : (k : Int) < (S.length : Int) := by omega
      have hib := hSb.out i (List.mem_of_getElem? hx)
      have hlk := (hX4.out.ext he).lookB (k := (i : Int)) (by show _ ≤ _ ∧ _ ≤ _; omega)
      have hz : intE.zero = 0 := rfl
      rw [hz] at hlk
      change (Instr.lookup 122 (.map (some mr)) (.int .i64 (i : Int)) false).run Tryz.prog wr = .ok (.int .i64 ((R (i : Int)).getD 0)) wr at hlk
      have hwt := why_take (R := R) hx
      generalize (R (i : Int)).getD 0 = ev at *
      have hsz := he.size
      replace hlk := Lib.hid hlk
      replace hwt := Lib.hid hwt
      replace hx := Lib.hid hx
      replace hEl := Lib.hid hEl
      go_wp2_with (first
        | (refine wpList_lookM rfl _ _ 122 false rfl (.map (some mr)) (.int .i64 (i : Int)) _ rfl rfl hlk.out ?_)
        | (at_builtin; go_loud (refine wp_app1 _ (.tmp 39) (.tmp 43) 38 36 1 8 _ rfl rfl Tryz.underlying38 errInfoW rfl (by decide) (by decide) w4.heap.size _ _ _ rfl (hown.alloc _) _ (errC ev) rfl rfl (Blk.new' (by simp)) (by simp [errC, Value.oneCell']) (by omega) (by simp; omega) ?_; intro v' wz hownz hgrowz _)))
      go_roundw
      case rel => exact ⟨k + 1, v', by go_num, rfl, by omega, by rw [hwt.out]; exact hownz, (he.alloc _).app (hown.alloc _) (Nat.le_refl _) hgrowz⟩
      case measure => simp [intOf]; omega
    · obtain rfl : S.length = k := by omega
      rw [List.take_length] at hown
      have hr := hres.out _ _ _ (own_ext he hs4.out) (own_low hown hz4) (fun g hg e => by have h1 := hlt4 g hg; have h2 := (hown.lt g e).1; omega) (hEw.trans he)
      replace hr := Lib.hid hr
      replace hown := Lib.hid hown
      go_wp2
      go_ret3
      exact hr.out
end Go.Proofs.YtehboinleolihaaGreatDoor

namespace Go.Proofs.YtehboinleolihaaGreatDoor
open Go Go.RowKit Go.Maps

def lpC (x : ByteArray × ByteArray) : List Value := [.string x.1, .string x.2]
theorem lpC_len (x : ByteArray × ByteArray) : (lpC x).length = 2 := rfl
theorem lpC_one (x : ByteArray × ByteArray) : ∀ u ∈ lpC x, u.oneCell' = true := by simp [lpC, Value.oneCell']
theorem lpInfo : (Tryz.prog.info? 77).map (fun i => (i.zero, i.size, i.bytes)) = some (some (.agg #[.string ⟨#[]⟩, .string ⟨#[]⟩]), 2, 32) := by kernel_rfl
end Go.Proofs.YtehboinleolihaaGreatDoor

namespace Go.Proofs.YtehboinleolihaaGreatDoor
open Go Go.RowKit

theorem Elems.lp {w : World} {b off : Nat} {xs : List (ByteArray × ByteArray)} (h : Elems 2 lpC w b off xs) {i : Nat} {x : ByteArray × ByteArray} (hx : xs[i]? = some x) :
    w.cell? ⟨b, off + i * 2, none⟩ = some (.string x.1) ∧ w.cell? ⟨b, off + i * 2 + 1, none⟩ = some (.string x.2) := ⟨h i x hx 0 _ rfl, h i x hx 1 _ rfl⟩
set_option maxRecDepth 100000 in
set_option maxHeartbeats 3200000 in
theorem eqPairs_any (p q : Option Addr) (n c d : Nat) (xs : List (ByteArray × ByteArray)) (w : World) (h1 : Slc 2 lpC w p n c xs) (h2 : Slc 2 lpC w q n d xs) (hn : n ≤ 300000) :
    Calls Tryz.prog 40 #[.slice p n c, .slice q n d] w fun e w' => e = .returned (.bool true) ∧ Ext w w' := by
  obtain ⟨hl, hp⟩ := slcC h1
  obtain ⟨-, hq⟩ := slcC h2
  subst hl
  replace hp := Lib.hid hp
  replace hq := Lib.hid hq
  clear h1 h2
  go_enter Tryz.func40, Tryz.ntmps40
  go_wp2
  go_loopw [13] (fun i wr => ∃ k : Nat, k ≤ xs.length ∧ i = .int .i64 k ∧ Ext w wr) (fun i _ => xs.length - (intOf i).toNat)
  case atStart => exact ⟨0, Nat.zero_le _, rfl, Ext.refl _⟩
  case round =>
    obtain ⟨k, hk, rfl, hE⟩ := hrel
    by_cases hlt : k < xs.length
    · obtain ⟨x, hx⟩ := getD_some (rfl : xs.length = xs.length) hlt
      rcases hp.out with ⟨-, e⟩ | ⟨b1, o1, rfl, hb1, hE1⟩
      · rw [e] at hx; cases hx
      rcases hq.out with ⟨-, e⟩ | ⟨b2, o2, rfl, hb2, hE2⟩
      · rw [e] at hx; cases hx
      obtain ⟨c1, c2⟩ := (hE1.ext hE hb1).lp hx
      obtain ⟨d1, d2⟩ := (hE2.ext hE hb2).lp hx
      have l1 := Nat.lt_of_lt_of_le hb1 hE.size
      have l2 := Nat.lt_of_lt_of_le hb2 hE.size
      have hkI : (k : Int) < xs.length := by omega
      clear hx hE1 hE2
      go_upto_region 6 with fail
      refine wp_region_facts [] [([], false, false), ([], false, false), ([0, 1], false, false), ([0, 1, 2], false, false), ([], false, false), ([], false, false), ([4, 5], false, false), ([4, 5, 6], false, false), ([0, 1, 2, 3, 4, 5, 6, 7], false, false)] (Ext) Ext (fun _ => True) (by kernel_rfl) (by kernel_rfl) Ext.refl (fun _ _ _ => Ext.trans) (fun _ _ h => h) (fun _ _ h => h.size) (fun _ _ h _ => h) trivial ?_
      dsimp only [List.length_cons, List.length_nil, List.drop_succ_cons, List.drop_zero, List.drop_nil]
      refine fac_quiet 0 rfl rfl rfl (fun _ _ h _ => h) rfl rfl ?_
      apply Exists.intro
      refine ⟨fun sv w' hw' hfa => ?_, ?_⟩
      · refine ⟨rfl, ?_⟩
        simp only [putsL]
        change quietTo _ _ _ _ (Sem.run _ (execOp (Act.eval _) _) _)
        try simp only [Act.put, List.setIfInBounds_toArray, List.set_cons_succ, List.set_cons_zero]
        simp [go_sem, quietTo, Ext.refl]
        all_goals first
          | rfl
      refine fac_quiet 1 rfl rfl rfl (fun _ _ h _ => h) rfl rfl ?_
      apply Exists.intro
      refine ⟨fun sv w' hw' hfa => ?_, ?_⟩
      · refine ⟨rfl, ?_⟩
        simp only [putsL]
        change quietTo _ _ _ _ (Sem.run _ (execOp (Act.eval _) _) _)
        try simp only [Act.put, List.setIfInBounds_toArray, List.set_cons_succ, List.set_cons_zero]
        simp [go_sem, quietTo, Ext.refl]
        all_goals first
          | rfl
      refine fac_quiet 2 rfl rfl rfl (fun _ _ h _ => h) rfl rfl ?_
      apply Exists.intro
      refine ⟨fun sv w' hw' hfa => ?_, ?_⟩
      · obtain ⟨f0, f1, -⟩ := hfa
        replace f0 : sv 0 = _ := f0
        try dsimp only at f0
        replace f1 : sv 1 = _ := f1
        try dsimp only at f1
        have hk9 := (Ext.refl wr).drew.trans hw'; obtain ⟨hc, hff, hz9⟩ := hk9.walk; have y1 := (hc _ _ l1).trans c1; have y2 := (hc _ _ l1).trans c2; have z1 := (hc _ _ l2).trans d1; have z2 := (hc _ _ l2).trans d2
        refine ⟨rfl, ?_⟩
        simp only [putsL]
        change quietTo _ _ _ _ (Sem.run _ (execOp (Act.eval (Act.put (Act.put _ (some 17) (sv 1)) (some 16) (sv 0))) _) _)
        try simp only [Act.put, List.setIfInBounds_toArray, List.set_cons_succ, List.set_cons_zero]
        simp [go_sem, quietTo, Ext.refl, ↓IntWalk.iteOmega, f0, f1, hkI]
        all_goals try simp (disch := omega) only [IntWalk.i64_in]
        all_goals first
          | rfl
      refine fac_quiet 3 rfl rfl rfl (fun _ _ h _ => h) rfl rfl ?_
      apply Exists.intro
      refine ⟨fun sv w' hw' hfa => ?_, ?_⟩
      · obtain ⟨_, _, f2, -⟩ := hfa
        replace f2 : sv 2 = _ := f2
        try dsimp only at f2
        have hk9 := (Ext.refl wr).drew.trans hw'; obtain ⟨hc, hff, hz9⟩ := hk9.walk; have y1 := (hc _ _ l1).trans c1; have y2 := (hc _ _ l1).trans c2; have z1 := (hc _ _ l2).trans d1; have z2 := (hc _ _ l2).trans d2
        refine ⟨rfl, ?_⟩
        simp only [putsL]
        change quietTo _ _ _ _ (Sem.run _ (execOp (Act.eval (Act.put (Act.put (Act.put _ (some 18) (sv 2)) (some 17) (sv 1)) (some 16) (sv 0))) _) _)
        try simp only [Act.put, List.setIfInBounds_toArray, List.set_cons_succ, List.set_cons_zero]
        simp [go_sem, quietTo, Ext.refl, ↓IntWalk.iteOmega, f2, y1, y2]
        all_goals try simp (disch := omega) only [IntWalk.i64_in]
        all_goals first
          | rfl
      refine fac_quiet 4 rfl rfl rfl (fun _ _ h _ => h) rfl rfl ?_
      apply Exists.intro
      refine ⟨fun sv w' hw' hfa => ?_, ?_⟩
      · refine ⟨rfl, ?_⟩
        simp only [putsL]
        change quietTo _ _ _ _ (Sem.run _ (execOp (Act.eval _) _) _)
        try simp only [Act.put, List.setIfInBounds_toArray, List.set_cons_succ, List.set_cons_zero]
        simp [go_sem, quietTo, Ext.refl]
        all_goals first
          | rfl
      refine fac_quiet 5 rfl rfl rfl (fun _ _ h _ => h) rfl rfl ?_
      apply Exists.intro
      refine ⟨fun sv w' hw' hfa => ?_, ?_⟩
      · refine ⟨rfl, ?_⟩
        simp only [putsL]
        change quietTo _ _ _ _ (Sem.run _ (execOp (Act.eval _) _) _)
        try simp only [Act.put, List.setIfInBounds_toArray, List.set_cons_succ, List.set_cons_zero]
        simp [go_sem, quietTo, Ext.refl]
        all_goals first
          | rfl
      refine fac_quiet 6 rfl rfl rfl (fun _ _ h _ => h) rfl rfl ?_
      apply Exists.intro
      refine ⟨fun sv w' hw' hfa => ?_, ?_⟩
      · obtain ⟨f4, f5, -⟩ := hfa
        replace f4 : sv 4 = _ := f4
        try dsimp only at f4
        replace f5 : sv 5 = _ := f5
        try dsimp only at f5
        have hk9 := (Ext.refl wr).drew.trans hw'; obtain ⟨hc, hff, hz9⟩ := hk9.walk; have y1 := (hc _ _ l1).trans c1; have y2 := (hc _ _ l1).trans c2; have z1 := (hc _ _ l2).trans d1; have z2 := (hc _ _ l2).trans d2
        refine ⟨rfl, ?_⟩
        simp only [putsL]
        change quietTo _ _ _ _ (Sem.run _ (execOp (Act.eval (Act.put (Act.put _ (some 21) (sv 5)) (some 20) (sv 4))) _) _)
        try simp only [Act.put, List.setIfInBounds_toArray, List.set_cons_succ, List.set_cons_zero]
        simp [go_sem, quietTo, Ext.refl, ↓IntWalk.iteOmega, f4, f5, hkI]
        all_goals try simp (disch := omega) only [IntWalk.i64_in]
        all_goals first
          | rfl
      refine fac_quiet 7 rfl rfl rfl (fun _ _ h _ => h) rfl rfl ?_
      apply Exists.intro
      refine ⟨fun sv w' hw' hfa => ?_, ?_⟩
      · obtain ⟨_, _, f6, -⟩ := hfa
        replace f6 : sv 6 = _ := f6
        try dsimp only at f6
        have hk9 := (Ext.refl wr).drew.trans hw'; obtain ⟨hc, hff, hz9⟩ := hk9.walk; have y1 := (hc _ _ l1).trans c1; have y2 := (hc _ _ l1).trans c2; have z1 := (hc _ _ l2).trans d1; have z2 := (hc _ _ l2).trans d2
        refine ⟨rfl, ?_⟩
        simp only [putsL]
        change quietTo _ _ _ _ (Sem.run _ (execOp (Act.eval (Act.put (Act.put (Act.put _ (some 22) (sv 6)) (some 21) (sv 5)) (some 20) (sv 4))) _) _)
        try simp only [Act.put, List.setIfInBounds_toArray, List.set_cons_succ, List.set_cons_zero]
        simp [go_sem, quietTo, Ext.refl, ↓IntWalk.iteOmega, f6, z1, z2]
        all_goals try simp (disch := omega) only [IntWalk.i64_in]
        all_goals first
          | rfl
      refine fac_quiet 8 rfl rfl rfl (fun _ _ h _ => h) rfl rfl ?_
      apply Exists.intro
      refine ⟨fun sv w' hw' hfa => ?_, ?_⟩
      · obtain ⟨_, _, _, f3, _, _, _, f7, -⟩ := hfa
        replace f3 : sv 3 = _ := f3
        try dsimp only at f3
        replace f7 : sv 7 = _ := f7
        try dsimp only at f7
        refine ⟨rfl, ?_⟩
        simp only [putsL]
        change quietTo _ _ _ _ (Sem.run _ (execOp (Act.eval (Act.put (Act.put (Act.put (Act.put (Act.put (Act.put (Act.put (Act.put _ (some 23) (sv 7)) (some 22) (sv 6)) (some 21) (sv 5)) (some 20) (sv 4)) (some 19) (sv 3)) (some 18) (sv 2)) (some 17) (sv 1)) (some 16) (sv 0))) _) _)
        try simp only [Act.put, List.setIfInBounds_toArray, List.set_cons_succ, List.set_cons_zero]
        simp [go_sem, quietTo, Ext.refl, ↓IntWalk.iteOmega, f3, f7]
        all_goals try simp (disch := omega) only [IntWalk.i64_in]
        all_goals first
          | rfl
      refine fac_nil fun xq wrq herq hfrq hcrq holdq hapq => ?_
      obtain ⟨f0, f1, f2, f3, f4, f5, f6, f7, f8, -⟩ := hfrq
      replace f0 : xq 0 = _ := f0
      try dsimp only at f0
      replace f1 : xq 1 = _ := f1
      try dsimp only at f1
      replace f2 : xq 2 = _ := f2
      try dsimp only at f2
      replace f3 : xq 3 = _ := f3
      try dsimp only at f3
      replace f4 : xq 4 = _ := f4
      try dsimp only at f4
      replace f5 : xq 5 = _ := f5
      try dsimp only at f5
      replace f6 : xq 6 = _ := f6
      try dsimp only at f6
      replace f7 : xq 7 = _ := f7
      try dsimp only at f7
      replace f8 : xq 8 = _ := f8
      try dsimp only at f8
      change wpList _ _ _ _ (Act.put (Act.put (Act.put (Act.put (Act.put (Act.put (Act.put (Act.put (Act.put _ (some 16) (xq 0)) (some 17) (xq 1)) (some 18) (xq 2)) (some 19) (xq 3)) (some 20) (xq 4)) (some 21) (xq 5)) (some 22) (xq 6)) (some 23) (xq 7)) (some 24) (xq 8)) _
      simp only [putsL, Nat.reduceAdd, List.drop_succ_cons, List.drop_zero, List.drop_nil, Act.put, List.setIfInBounds_toArray, List.set_cons_succ, List.set_cons_zero]
      try simp only [f0, f1, f2, f3, f4, f5, f6, f7, f8]
      clear f0 f1 f2 f3 f4 f5 f6 f7 f8
      clear holdq hapq
      go_wp2
      go_roundw
      case rel => exact ⟨k + 1, by omega, by go_num, hE.trans ((Ext.refl _).drew.trans herq)⟩
      case measure => simp [intOf]; omega
    · obtain rfl : k = xs.length := by omega
      go_wp2
      go_ret
      exact ⟨rfl, hE⟩
end Go.Proofs.YtehboinleolihaaGreatDoor
