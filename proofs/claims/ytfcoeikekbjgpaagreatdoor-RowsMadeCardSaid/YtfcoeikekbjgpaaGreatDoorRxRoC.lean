/- People sorted by their height, by both texts: the walks. Conditions: people are right. -/
import Derived.Test.YtfcoeikekbjgpaaGreatDoorRxJ21
import Derived.Test.YtfcoeikekbjgpaaGreatDoorRxJ22
import Derived.Test.YtfcoeikekbjgpaaGreatDoorRxJ5
import Derived.Shelf.SlicesE.Clone
import Derived.Shelf.SlSortCmp.NoneTotal
import Derived.Shelf.SlSortCmp.InsertionK
set_option linter.unusedSimpArgs false
set_option linter.unusedVariables false
namespace Go.Proofs.YtfcoeikekbjgpaaGreatDoor
open Go Go.RowKit Go.Sort

theorem per_flat_lenK (xs : List PersonV) : (xs.flatMap perC).length = xs.length * 3 := flat_lenK perC_len xs
theorem clonePer_any (p : Option Addr) (n c : Nat) (xs : List PersonV) (w : World) (h : Slc 3 perC w p n c xs) (hn : n ≤ 1000) :
    Calls Tryz.prog 74 #[.slice p n c] w fun e w' => ∃ v, e = .returned v ∧ w'.ownsRow w.heap.size 59 3 v n (xs.flatMap perC) ∧ Ext w w' := by
  obtain ⟨hS, hnc, hp0, hp⟩ := h
  cases p with
  | none =>
    obtain rfl := hp0 rfl
    have hx : xs = [] := List.eq_nil_of_length_eq_zero hS.1
    subst hx
    exact (AnyE.slices_Clone_nil Tryz.lecPer 0 c w).mono fun e w' ⟨he, hw⟩ => by
      subst hw
      exact ⟨_, he, World.ownsRow_nil _ _ _ _, Ext.refl _⟩
  | some a =>
    obtain ⟨b, off, rfl, hb⟩ := hp a rfl
    obtain ⟨i0, hi, hz0, hz1, hz2⟩ := info_parts (P := Tryz.prog) (e := 59) (z := .agg #[.string ⟨#[]⟩, .int .i64 0, .string ⟨#[]⟩]) (size := 3) (bytes := 40) (by kernel_rfl)
    refine (AnyE.slices_Clone Tryz.lecPer i0 _ 3 40 hi hz0 hz1 hz2 rfl (by decide) Tryz.sizeOf59 b off n c (xs.flatMap perC) w (by rw [per_flat_lenK, hS.1]) (by unfold maxLen; omega) (by omega) (fun j u hj => ?_) (fun u hu => ?_)).mono fun e w' ⟨v', he, ho, _, hb'⟩ => ⟨v', he, ho, hb'⟩
    · have hj' : j < xs.length * 3 := by rw [← per_flat_lenK]; exact (List.getElem?_eq_some_iff.1 hj).1
      have hn0 : n ≠ 0 := by have := hS.1; omega
      obtain ⟨b', off', hpe, hb', hE⟩ := hS.2.2 hn0
      cases hpe
      obtain ⟨x, hx⟩ : ∃ x, xs[j / 3]? = some x := ⟨_, List.getElem?_eq_getElem (by omega)⟩
      have hjm : j % 3 < 3 := Nat.mod_lt _ (by omega)
      obtain ⟨u', hu'⟩ : ∃ u', (perC x)[j % 3]? = some u' := ⟨_, List.getElem?_eq_getElem (by rw [perC_len]; exact hjm)⟩
      have h2 := hE _ x hx _ u' hu'
      have h3 := flat_at perC_len xs (j / 3) x hx (j % 3) u' hu'
      rw [Nat.div_add_mod' j 3] at h3
      rw [h3] at hj
      cases hj
      have h4 : (⟨b, off, none⟩ : Addr).add j = ⟨b, off + j, none⟩ := by unfold Addr.add; split <;> simp_all
      rw [show off + j = off + j / 3 * 3 + j % 3 by omega]
      exact h2
    · obtain ⟨x, -, hx⟩ := List.mem_flatMap.1 hu
      exact per_one x u hx

theorem cmpSE_any (a b : ByteArray) (w : World) :
    Calls Tryz.prog 79 #[.string a, .string b] w fun e w' => e = .returned (.int .i64 (cmpS a b)) ∧ Drw w w' :=
  (Tryz.strings_Compare a b w).mono fun _ _ h => ⟨h.1, h.2 ▸ Drw.refl _⟩
theorem grow_two (w : World) (q : Nat) (A B : Obj) : ((w.alloc A).alloc B).drewN q = grow (w.drewN q) #[A, B] := by
  rw [alloc_eq_grow, alloc_eq_grow]
  simp [grow, World.drewN, Nat.add_assoc, Nat.add_comm]
  refine ⟨?_, rfl, rfl⟩
  show (w.heap.push A).push B = _
  apply Array.ext'
  simp
set_option maxRecDepth 100000 in
set_option maxHeartbeats 1600000 in
theorem heightG_any (a b : PersonV) (w : World) :
    Calls Tryz.prog 76 #[.agg #[.string a.name, .int .i64 a.high, .string a.sect], .agg #[.string b.name, .int .i64 b.high, .string b.sect]] w fun e w' => e = .returned (.int .i64 (cmpPer a b)) ∧ ∃ q os', w' = grow (w.drewN q) os' := by
  have hF : cmpPer a b = orF [cmpZ a.high b.high, cmpS a.name b.name] := rfl
  rw [hF]
  clear hF
  have hX : Blk ((w.alloc (.cells #[.string a.name, .int .i64 a.high, .string a.sect] 59)).alloc (.cells #[.string b.name, .int .i64 b.high, .string b.sect] 59)) w.heap.size 59 #[.string a.name, .int .i64 a.high, .string a.sect] := (Blk.new' rfl).alloc _
  have hY : Blk ((w.alloc (.cells #[.string a.name, .int .i64 a.high, .string a.sect] 59)).alloc (.cells #[.string b.name, .int .i64 b.high, .string b.sect] 59)) (w.heap.size + 1) 59 #[.string b.name, .int .i64 b.high, .string b.sect] := Blk.new' (by simp)
  go_enter Tryz.func76, Tryz.ntmps76
  go_upto_region 1 with fail
  refine wp_region_planS [(0, true), (1, true), (2, true), (3, true), (4, true), (5, true), (6, true), (7, true), (8, true), (9, true)] 10 (fun w' => Blk w' w.heap.size 59 #[.string a.name, .int .i64 a.high, .string a.sect] ∧ Blk w' (w.heap.size + 1) 59 #[.string b.name, .int .i64 b.high, .string b.sect]) Drw (by kernel_rfl) (by kernel_rfl) Drw.refl (fun _ _ _ => Drw.trans) (fun _ _ h he => ⟨h.1.drw he, h.2.drw he⟩) ⟨(by (repeat (with_reducible first | assumption | exact Blk.new' (by simp) | refine Blk.drew ?_ | refine Blk.alloc ?_ _ | exact Drw.refl _ | refine Ext.drew ?_ | refine Ext.alloc ?_ _))), (by (repeat (with_reducible first | assumption | exact Blk.new' (by simp) | refine Blk.drew ?_ | refine Blk.alloc ?_ _ | exact Drw.refl _ | refine Ext.drew ?_ | refine Ext.alloc ?_ _)))⟩ ?_
  repeat
    first
      | (refine plan_quiet rfl rfl (fun _ _ _ _ h => h) ?_
         apply Exists.intro
         refine ⟨fun w' hw' => ?_, ?_⟩
         · obtain ⟨hH0, hH1⟩ := hw'
           unfold Blk at hH0 hH1
           simp [go_sem, quietTo, World.cell?, hH0, hH1, Drw.refl, ↓IntWalk.iteOmega]
           first
             | rfl
             | (exact cmpIntE_any _ _ _)
             | (exact cmpSE_any _ _ _)
         simp only [Act.put, List.setIfInBounds_toArray, List.set_cons_succ, List.set_cons_zero])
      | (refine plan_skip rfl rfl (fun _ _ _ _ h => h) ?_
         simp only [Act.put, List.setIfInBounds_toArray, List.set_cons_succ, List.set_cons_zero])
  refine plan_nil fun wr her hwr => ?_
  obtain ⟨hH0, hH1⟩ := hwr
  obtain ⟨hC0, hF0⟩ := hH0.walk
  obtain ⟨hC1, hF1⟩ := hH1.walk
  simp only [List.drop_succ_cons, List.drop_zero, List.drop_nil]
  go_wp2_with (go_at_call 77; refine (orInt_blk _ _ 2 [cmpZ a.high b.high, cmpS a.name b.name] _ (by simp) (Blk.new' rfl)).mono ?_; rintro e w2 ⟨rfl, rfl⟩)
  go_ret
  refine ⟨rfl, ?_⟩
  obtain ⟨q, rfl⟩ := her
  exact ⟨q + 1, _, grow_three _ _ _ _ _⟩
set_option maxRecDepth 100000 in
theorem shortG_any (a b : PersonV) (w : World) :
    Calls Tryz.prog 86 #[.agg #[.string a.name, .int .i64 a.high, .string a.sect], .agg #[.string b.name, .int .i64 b.high, .string b.sect]] w fun e w' => e = .returned (.int .i64 (cmpHi a b)) ∧ ∃ q os', w' = grow (w.drewN q) os' := by
  have hF : cmpHi a b = cmpZ a.high b.high := rfl
  rw [hF]
  clear hF
  go_enter Tryz.func86, Tryz.ntmps86
  go_wp2_with (go_at_call 78; (with_reducible refine Calls.mono (cmpIntE_any _ _ _) ?_); rintro e w2 ⟨rfl, q, rfl⟩)
  go_ret
  exact ⟨rfl, q, _, grow_two _ _ _ _⟩

set_option maxRecDepth 100000 in
theorem sortPer_any {w : World} {base g n cap : Nat} {L : List PersonV} (h : w.ownsRow base 59 3 (.slice (some ⟨g, 0, none⟩) n cap) n (L.flatMap perC)) (hn : L.length = n) (hn1 : n ≤ 1000) (hok : PeopleOk L) :
    Calls Tryz.prog 75 #[.slice (some ⟨g, 0, none⟩) n cap, .func (.func 76) #[] #[]] w fun e w' => e = .returned (.tuple #[]) ∧ ∃ M : List PersonV, ByH L M ∧ w'.ownsRow base 59 3 (.slice (some ⟨g, 0, none⟩) n cap) n (M.flatMap perC) ∧ ∀ a : World, Ext a w → a.heap.size ≤ g → Ext a w' := by
  have hgl := (h.lt g rfl).2
  subst hn
  have hs := AnyQ.slices_SortFunc Tryz.lsfPer 3 Tryz.isAgg59 Tryz.sizeOf59 perC perC_len per_one cmpPer per_swo 76 #[] g 0 cap L.toArray w (fun args u => by rfl) (fun m os dk _ x y => heightG_any x y _) (holdsK_own perC_len h) hgl (by simp; omega)
  refine hs.mono fun e w' ⟨he, d', q, os, hp, hso, hw⟩ => ?_
  have hby : ByH L d'.toList := byH_of hok (by simpa using hp) (by simpa using hso)
  refine ⟨he, d'.toList, hby, ?_, ?_⟩
  · rw [hw]
    exact own_sortK perC_len h hby.1.length_eq
  · intro a ha hg
    rw [hw]
    exact ext_sortK ha hg
set_option maxRecDepth 100000 in
theorem stablePer_any {w : World} {base g n cap : Nat} {L : List PersonV} (h : w.ownsRow base 59 3 (.slice (some ⟨g, 0, none⟩) n cap) n (L.flatMap perC)) (hn : L.length = n) (hn1 : n ≤ 19) (hok : PeopleOk L) :
    Calls Tryz.prog 85 #[.slice (some ⟨g, 0, none⟩) n cap, .func (.func 86) #[] #[]] w fun e w' => e = .returned (.tuple #[]) ∧ ∃ M : List PersonV, ByH L M ∧ w'.ownsRow base 59 3 (.slice (some ⟨g, 0, none⟩) n cap) n (M.flatMap perC) ∧ ∀ a : World, Ext a w → a.heap.size ≤ g → Ext a w' := by
  have hgl := (h.lt g rfl).2
  have hs := AnyQ.insertionSortCmpFunc Tryz.lisPer 3 Tryz.isAgg59 Tryz.sizeOf59 perC perC_len per_one cmpHi 86 #[] g 0 cap 0 n L.toArray w (fun args u => by rfl) (fun m os dk _ x y => shortG_any x y _) (holdsK_own perC_len h) hgl (Nat.zero_le _) (by simp; omega) (by simp; omega)
  have hsz : L.toArray.size = n := by simpa using hn
  rw [hsz] at hs
  have hby := stable_of hok
  have hC : Calls Tryz.prog 118 #[.slice (some ⟨g, 0, none⟩) n cap, .int .i64 n, .func (.func 86) #[] #[]] w fun e w' => e = .returned (.tuple #[]) ∧ ∃ m os, w' = sortWorldK perC 3 w g 0 m (insertionSort (ltOf cmpHi) L.toArray 0 n) os := by
    replace hs := Lib.hid hs
    clear hsz hby hn hok h
    go_enter Tryz.func118, Tryz.ntmps118
    go_wp2
    refine wp_loop_rounds 1 ?_
    rw [rounds_succ]
    go_wp2_with (go_at_call 147; refine hs.out.mono ?_; rintro e w' ⟨rfl, m, os, rfl⟩)
    refine wp_loop_rounds 1 ?_
    rw [rounds_succ]
    go_wp2
    go_end0
    exact ⟨rfl, m, os, rfl⟩
  have hS : Calls Tryz.prog 85 #[.slice (some ⟨g, 0, none⟩) n cap, .func (.func 86) #[] #[]] w fun e w' => e = .returned (.tuple #[]) ∧ ∃ m os, w' = sortWorldK perC 3 w g 0 m (insertionSort (ltOf cmpHi) L.toArray 0 n) os := by
    replace hC := Lib.hid hC
    clear hs hsz hby hn hok h
    go_enter Tryz.func85, Tryz.ntmps85
    go_wp2_with (go_at_call 118; refine hC.out.mono ?_; rintro e w' ⟨rfl, m, os, rfl⟩)
    go_end0
    exact ⟨rfl, m, os, rfl⟩
  subst hn
  refine hS.mono fun e w' ⟨he, q, os, hw⟩ => ?_
  refine ⟨he, _, hby, ?_, ?_⟩
  · rw [hw]
    exact own_sortK perC_len h hby.1.length_eq
  · intro a ha hg
    rw [hw]
    exact ext_sortK ha hg
set_option maxRecDepth 100000 in
theorem stableNone_any (p : Option Addr) (cap : Nat) (fv : Value) (w : World) :
    Calls Tryz.prog 85 #[.slice p 0 cap, fv] w fun e w' => e = .returned (.tuple #[]) ∧ w = w' := by
  have hs := fun u => AnyF.insertionSortCmpFunc_none Tryz.lisPer p cap fv u
  have hC : ∀ u, Calls Tryz.prog 118 #[.slice p 0 cap, .int .i64 0, fv] u fun e w' => e = .returned (.tuple #[]) ∧ u = w' := fun u => by
    replace hs := Lib.hid hs
    go_enter Tryz.func118, Tryz.ntmps118
    go_wp2
    refine wp_loop_rounds 1 ?_
    rw [rounds_succ]
    go_wp2_with (go_at_call 147; refine (hs.out _).mono ?_; rintro e w' ⟨rfl, rfl⟩)
    refine wp_loop_rounds 1 ?_
    rw [rounds_succ]
    go_wp2
    go_end0
    exact ⟨rfl, rfl⟩
  replace hC := Lib.hid hC
  clear hs
  go_enter Tryz.func85, Tryz.ntmps85
  go_wp2_with (go_at_call 118; refine (hC.out _).mono ?_; rintro e w' ⟨rfl, rfl⟩)
  go_end0
  exact ⟨rfl, rfl⟩

set_option maxRecDepth 100000 in
set_option maxHeartbeats 1600000 in
theorem byHeight_any (p : Option Addr) (c : Nat) (L : List PersonV) (w : World) (h : Slc 3 perC w p L.length c L) (hn : L.length ≤ 19) (hok : PeopleOk L) :
    Calls Tryz.prog 36 #[.slice p L.length c] w fun e w' => ∃ (q : Option Addr) (d : Nat) (M : List PersonV), e = .returned (.slice q L.length d) ∧ ByH L M ∧ Slc 3 perC w' q L.length d M ∧ (∀ a, q = some a → w.heap.size ≤ a.block) ∧ Ext w w' := by
  have hcl := clonePer_any p L.length c L w h (by omega)
  replace hcl := Lib.hid hcl
  by_cases h0 : L.length = 0
  · have hx : L = [] := List.eq_nil_of_length_eq_zero h0
    subst hx
    clear h0 hok h
    have hno := fun (q : Option Addr) (d : Nat) (fv : Value) (u : World) => (show Calls Tryz.prog 75 #[.slice q 0 d, fv] u fun e w' => e = .returned (.tuple #[]) ∧ u = w' from (AnyF.slices_SortFunc_none Tryz.lsfPer _ _ _ _).mono (fun _ _ h => And.intro h.1 h.2.symm))
    replace hno := Lib.hid hno
    go_enter Tryz.func36, Tryz.ntmps36
    go_wp2_with (first
      | (go_at_call 74; (with_reducible refine Calls.mono hcl.out ?_); rintro e w2 ⟨v, rfl, hown, hb2⟩; obtain ⟨q, d, rfl, hS'⟩ := slc_of_own perC_len hown (by decide) (by decide); have hfr : ∀ a, q = some a → w.heap.size ≤ a.block := fun a ha => by { subst ha; exact (hown.lt a.block rfl).1 }; replace hfr := Lib.hid hfr; clear hown)
      | (go_at_call 75; refine (hno.out _ _ _ _).mono ?_; rintro e w3 ⟨rfl, rfl⟩))
    go_ret
    exact ⟨q, d, [], rfl, ⟨List.Perm.refl _, List.Pairwise.nil⟩, hS', hfr.out, hb2⟩
  · have hso := fun (u : World) (g d : Nat) (ho : u.ownsRow w.heap.size 59 3 (.slice (some ⟨g, 0, none⟩) L.length d) L.length (L.flatMap perC)) => sortPer_any ho rfl (by omega) hok
    replace hso := Lib.hid hso
    have h0' : 0 < L.length := by omega
    replace h0 := Lib.hid h0
    clear h hok
    go_enter Tryz.func36, Tryz.ntmps36
    go_wp2_with (first
      | (go_at_call 74; (with_reducible refine Calls.mono hcl.out ?_); rintro e w2 ⟨v, rfl, hown, hb2⟩; obtain ⟨g, d, rfl, hgk, hgl⟩ := hown.form h0')
      | (go_at_call 75; (with_reducible refine Calls.mono (hso.out _ _ _ hown) ?_); rintro e w3 ⟨rfl, M, hM, ho3, hx3⟩))
    obtain ⟨q, d', e9, hS9⟩ := slc_of_own perC_len ho3 (by decide) (by omega)
    cases e9
    go_ret
    exact ⟨_, d, M, rfl, hM, hS9, (fun a ha => by cases ha; exact hgk), hx3 _ hb2 hgk⟩
set_option maxRecDepth 100000 in
set_option maxHeartbeats 1600000 in
theorem fromShort_any (p : Option Addr) (c : Nat) (L : List PersonV) (w : World) (h : Slc 3 perC w p L.length c L) (hn : L.length ≤ 19) (hok : PeopleOk L) :
    Calls Tryz.prog 48 #[.slice p L.length c] w fun e w' => ∃ (q : Option Addr) (d : Nat) (M : List PersonV), e = .returned (.slice q L.length d) ∧ ByH L M ∧ Slc 3 perC w' q L.length d M ∧ (∀ a, q = some a → w.heap.size ≤ a.block) ∧ Ext w w' := by
  have hcl := clonePer_any p L.length c L w h (by omega)
  replace hcl := Lib.hid hcl
  by_cases h0 : L.length = 0
  · have hx : L = [] := List.eq_nil_of_length_eq_zero h0
    subst hx
    clear h0 hok h
    have hno := fun (q : Option Addr) (d : Nat) (fv : Value) (u : World) => (show Calls Tryz.prog 85 #[.slice q 0 d, fv] u fun e w' => e = .returned (.tuple #[]) ∧ u = w' from stableNone_any _ _ _ _)
    replace hno := Lib.hid hno
    go_enter Tryz.func48, Tryz.ntmps48
    go_wp2_with (first
      | (go_at_call 74; (with_reducible refine Calls.mono hcl.out ?_); rintro e w2 ⟨v, rfl, hown, hb2⟩; obtain ⟨q, d, rfl, hS'⟩ := slc_of_own perC_len hown (by decide) (by decide); have hfr : ∀ a, q = some a → w.heap.size ≤ a.block := fun a ha => by { subst ha; exact (hown.lt a.block rfl).1 }; replace hfr := Lib.hid hfr; clear hown)
      | (go_at_call 85; refine (hno.out _ _ _ _).mono ?_; rintro e w3 ⟨rfl, rfl⟩))
    go_ret
    exact ⟨q, d, [], rfl, ⟨List.Perm.refl _, List.Pairwise.nil⟩, hS', hfr.out, hb2⟩
  · have hso := fun (u : World) (g d : Nat) (ho : u.ownsRow w.heap.size 59 3 (.slice (some ⟨g, 0, none⟩) L.length d) L.length (L.flatMap perC)) => stablePer_any ho rfl (by omega) hok
    replace hso := Lib.hid hso
    have h0' : 0 < L.length := by omega
    replace h0 := Lib.hid h0
    clear h hok
    go_enter Tryz.func48, Tryz.ntmps48
    go_wp2_with (first
      | (go_at_call 74; (with_reducible refine Calls.mono hcl.out ?_); rintro e w2 ⟨v, rfl, hown, hb2⟩; obtain ⟨g, d, rfl, hgk, hgl⟩ := hown.form h0')
      | (go_at_call 85; (with_reducible refine Calls.mono (hso.out _ _ _ hown) ?_); rintro e w3 ⟨rfl, M, hM, ho3, hx3⟩))
    obtain ⟨q, d', e9, hS9⟩ := slc_of_own perC_len ho3 (by decide) (by omega)
    cases e9
    go_ret
    exact ⟨_, d, M, rfl, hM, hS9, (fun a ha => by cases ha; exact hgk), hx3 _ hb2 hgk⟩
end Go.Proofs.YtfcoeikekbjgpaaGreatDoor
