/- What is asked of a library, in one form, whatever is wrong. Conditions: sizes; at most 19 slips. (Printed by gen_lawcf.py.) Copies sorted by when they were lent, by both texts. Conditions: sizes; at most 19 copies. (Printed by gen_shu.py.) -/
import Derived.Test.YtkjhbofbcmelgaaGreatDoorEzJ29
import Derived.Test.YtkjhbofbcmelgaaGreatDoorEzCfD
import Derived.Test.YtkjhbofbcmelgaaGreatDoorEzShQ
import Derived.Test.YtkjhbofbcmelgaaGreatDoorEzJ18
import Derived.Test.YtkjhbofbcmelgaaGreatDoorEzJ11
import Derived.Shelf.SlSortCmp.InsertionK
set_option linter.unusedSimpArgs false
set_option linter.unusedVariables false
namespace Go.Proofs.YtkjhbofbcmelgaaGreatDoor
open Go Go.RowKit Go.Sort
end Go.Proofs.YtkjhbofbcmelgaaGreatDoor
namespace Go.Proofs.YtkjhbofbcmelgaaGreatDoor
open Go Go.RowKit Go.Sort
/-- A copy that is lent, as a slip with its piece for a name and since when for a moment. -/
def tsL (x : LentV) : SlipV := ⟨x.piece, x.no, x.since, 0, ⟨#[]⟩, 0, ⟨#[]⟩⟩
def lateLt (a b : LentV) : Prop := ltA (tsL a) (tsL b)
theorem lateLt_asym {a b : LentV} (h : lateLt a b) (k : lateLt b a) : False := ltA_asym h k
noncomputable def ltT (a b : LentV) : Bool := @decide (lateLt a b) (Classical.propDecidable _)
theorem ltT_iff (a b : LentV) : ltT a b = true ↔ lateLt a b := by unfold ltT; exact @decide_eq_true_iff _ (Classical.propDecidable _)
theorem ltT_swo : SWO ltT where
 irrefl x := by rw [← Bool.not_eq_true, ltT_iff]; exact fun h => ltA_asym h h
 trans x y z h1 h2 := by rw [ltT_iff] at *; exact ltA_trans h1 h2
 ntrans x y z h1 h2 := by rw [← Bool.not_eq_true, ltT_iff] at *; exact ltA_nt h1 h2
theorem ent_ts {a b : LentV} : entLt a b ↔ sliLt (tsL a) (tsL b) := Iff.rfl
/-- The stable sort by when they were lent. -/
theorem stableL_of (cf : LentV → LentV → Int) {P : List LentV} (hr : P.Pairwise entLt) (hc : ∀ x ∈ P, ∀ y ∈ P, ltOf cf x y = decide (x.since < y.since)) :
 (insertionSort (ltOf cf) P.toArray 0 P.length).toList.Perm P ∧ (insertionSort (ltOf cf) P.toArray 0 P.length).toList.Pairwise lateLt := by
 have h := insertionSort_congr (lt := ltOf cf) (lt2 := ltT) (R := fun x y => entLt x y ∧ x ∈ P ∧ y ∈ P) (fun x y h => by
  obtain ⟨h1, h2, h3⟩ := h
  rw [hc y h3 x h2, Bool.eq_iff_iff, decide_eq_true_iff, ltT_iff]
  unfold lateLt ltA
  constructor
  ·exact fun h => .inl h
  ·rintro (h | ⟨-, h⟩)
   ·exact h
   ·exact (sliLt_asym h (ent_ts.1 h1)).elim) P.toArray (fun p q hpq hq => by
  simp at hq
  have e1 : P.toArray[p]! = P[p] := by simp [getElem!_pos, show p < P.length by omega]
  have e2 : P.toArray[q]! = P[q] := by simp [getElem!_pos, hq]
  rw [e1, e2]
  rw [List.pairwise_iff_getElem] at hr
  exact ⟨hr p q (by omega) hq hpq, List.getElem_mem _, List.getElem_mem _⟩)
 have e : P.toArray.size = P.length := by simp
 rw [e] at h
 rw [h]
 have h2 := insertionSort_holds (lt := ltT) ltT_swo P.toArray 0 P.length (Nat.zero_le _) (by simp)
 generalize insertionSort ltT P.toArray 0 P.length = D at h2
 obtain ⟨hp, hs⟩ := h2
 have hsz : D.size = P.length := by have := hp.1; simpa using this
 have hperm : D.toList.Perm P := by
  have h9 := hp.2.2
  have e2 : D.extract 0 P.length = D := by simp [← hsz]
  rw [e2] at h9
  simpa using h9
 refine ⟨hperm, ?_⟩
 have hdis : P.Pairwise fun a b => ¬ (a.piece = b.piece ∧ a.no = b.no) := hr.imp fun h => sliLt_key (ent_ts.1 h)
 have hdd := (hperm.pairwise_iff fun {a b} (h : ¬ (a.piece = b.piece ∧ a.no = b.no)) => (fun k => h ⟨k.1.symm, k.2.symm⟩ : ¬ (b.piece = a.piece ∧ b.no = a.no))).2 hdis
 rw [List.pairwise_iff_getElem] at hdd ⊢
 intro i j hi hj hij
 have h1 := hdd i j hi hj hij
 have h9 := hs i j (Nat.zero_le _) hij (by simp at hj; omega)
 simp at hi hj
 rw [getElem!_pos D j hj, getElem!_pos D i hi, ← Bool.not_eq_true, ltT_iff] at h9
 show lateLt D[i] D[j]
 have h1 : ¬ ((D[i]).piece = (D[j]).piece ∧ (D[i]).no = (D[j]).no) := h1
 generalize D[i] = x at *
 generalize D[j] = y at *
 unfold lateLt ltA at *
 have hx : (tsL x).at_ = x.since := rfl
 have hy : (tsL y).at_ = y.since := rfl
 rw [hx, hy] at *
 rcases Int.lt_trichotomy x.since y.since with h | h | h
 ·exact .inl h
 ·refine .inr ⟨h, ?_⟩
  rcases sliLt_tri (tsL x) (tsL y) with k | k | k
  ·exact k
  ·exact absurd (.inr ⟨h.symm, k⟩) h9
  ·exact absurd k h1
 ·exact absurd (.inl h) h9
def cfP (a b : LentV) : Int := IntKind.i64.wrap (a.since - b.since)
def cfD (a b : LentV) : Int := cmpZ a.since b.since
theorem cfP_lt {P : List LentV} (hb : ∀ x ∈ P, 0 ≤ x.since ∧ x.since ≤ 345686399999) : ∀ x ∈ P, ∀ y ∈ P, ltOf cfP x y = decide (x.since < y.since) := fun x hx y hy => by
 have h1 := hb x hx
 have h2 := hb y hy
 unfold ltOf cfP
 rw [IntWalk.i64_in _ (by omega), Bool.eq_iff_iff, decide_eq_true_iff, decide_eq_true_iff]
 omega
theorem cfD_lt (P : List LentV) : ∀ x ∈ P, ∀ y ∈ P, ltOf cfD x y = decide (x.since < y.since) := fun x _ y _ => by
 unfold ltOf cfD
 rw [Bool.eq_iff_iff, decide_eq_true_iff, decide_eq_true_iff, cmpZ_lt]
set_option maxRecDepth 100000 in
theorem lateP_any (a b : LentV) (w : World) :
 Calls Tryz.prog 92 #[.agg #[.string a.piece, .int .i64 a.no, .string a.singer, .int .i64 a.since], .agg #[.string b.piece, .int .i64 b.no, .string b.singer, .int .i64 b.since]] w fun e w' => e = .returned (.int .i64 (cfP a b)) ∧ ∃ q os', w' = grow (w.drewN q) os' := by
 have hF : cfP a b = IntKind.i64.wrap (a.since - b.since) := rfl
 rw [hF]
 clear hF
 go_enter Tryz.func92, Tryz.ntmps92
 go_wp2
 go_ret
 exact ⟨by rw [IntWalk.i64_left]; rfl, 0, _, grow_two w 0 _ _⟩
set_option maxRecDepth 100000 in
theorem lateD_any (a b : LentV) (w : World) :
 Calls Tryz.prog 98 #[.agg #[.string a.piece, .int .i64 a.no, .string a.singer, .int .i64 a.since], .agg #[.string b.piece, .int .i64 b.no, .string b.singer, .int .i64 b.since]] w fun e w' => e = .returned (.int .i64 (cfD a b)) ∧ ∃ q os', w' = grow (w.drewN q) os' := by
 have hF : cfD a b = cmpZ a.since b.since := rfl
 rw [hF]
 clear hF
 go_enter Tryz.func98, Tryz.ntmps98
 go_wp2_with (go_at_call 86; (with_reducible refine Calls.mono (cmpIntE_any _ _ _) ?_); rintro e w2 ⟨rfl, q, rfl⟩)
 go_ret
 exact ⟨rfl, q, _, grow_two _ _ _ _⟩
set_option maxRecDepth 100000 in
theorem stableP_any {w : World} {base g n cap : Nat} {L : List LentV} (h : w.ownsRow base 65 4 (.slice (some ⟨g, 0, none⟩) n cap) n (L.flatMap lentC)) (hn : L.length = n) (hn1 : n ≤ 19) (hb : ∀ x ∈ L, 0 ≤ x.since ∧ x.since ≤ 345686399999) (hok : L.Pairwise entLt) :
 Calls Tryz.prog 91 #[.slice (some ⟨g, 0, none⟩) n cap, .func (.func 92) #[] #[]] w fun e w' => e = .returned (.tuple #[]) ∧ ∃ M : List LentV, M.Perm L ∧ M.Pairwise lateLt ∧ w'.ownsRow base 65 4 (.slice (some ⟨g, 0, none⟩) n cap) n (M.flatMap lentC) ∧ ∀ a : World, Ext a w → a.heap.size ≤ g → Ext a w' := by
 have hgl := (h.lt g rfl).2
 have hs := AnyQ.insertionSortCmpFunc Tryz.lisLent 4 Tryz.isAgg65 Tryz.sizeOf65 lentC lentC_len lentC_one cfP 92 #[] g 0 cap 0 n L.toArray w (fun args u => by rfl) (fun m os dk _ x y => lateP_any x y _) (holdsK_own lentC_len h) hgl (Nat.zero_le _) (by simp; omega) (by simp; omega)
 have hsz : L.toArray.size = n := by simpa using hn
 rw [hsz] at hs
 have hby := stableL_of cfP hok (cfP_lt hb)
 have hC : Calls Tryz.prog 144 #[.slice (some ⟨g, 0, none⟩) n cap, .int .i64 n, .func (.func 92) #[] #[]] w fun e w' => e = .returned (.tuple #[]) ∧ ∃ m os, w' = sortWorldK lentC 4 w g 0 m (insertionSort (ltOf cfP) L.toArray 0 n) os := by
  replace hs := Lib.hid hs; clear hsz hby hn hok h
  go_enter Tryz.func144, Tryz.ntmps144
  go_wp2
  refine wp_loop_rounds 1 ?_
  rw [rounds_succ]
  go_wp2_with (go_at_call 189; refine hs.out.mono ?_; rintro e w' ⟨rfl, m, os, rfl⟩)
  refine wp_loop_rounds 1 ?_
  rw [rounds_succ]
  go_wp2
  go_end0
  exact ⟨rfl, m, os, rfl⟩
 have hS : Calls Tryz.prog 91 #[.slice (some ⟨g, 0, none⟩) n cap, .func (.func 92) #[] #[]] w fun e w' => e = .returned (.tuple #[]) ∧ ∃ m os, w' = sortWorldK lentC 4 w g 0 m (insertionSort (ltOf cfP) L.toArray 0 n) os := by
  replace hC := Lib.hid hC; clear hs hsz hby hn hok h
  go_enter Tryz.func91, Tryz.ntmps91
  go_wp2_with (go_at_call 144; refine hC.out.mono ?_; rintro e w' ⟨rfl, m, os, rfl⟩)
  go_end0
  exact ⟨rfl, m, os, rfl⟩
 subst hn
 refine hS.mono fun e w' ⟨he, q, os, hw⟩ => ?_
 refine ⟨he, _, hby.1, hby.2, ?_, ?_⟩
 ·rw [hw]
  exact own_sortK lentC_len h hby.1.length_eq
 ·intro a ha hg
  rw [hw]
  exact ext_sortK ha hg
set_option maxRecDepth 100000 in
theorem stableD_any {w : World} {base g n cap : Nat} {L : List LentV} (h : w.ownsRow base 65 4 (.slice (some ⟨g, 0, none⟩) n cap) n (L.flatMap lentC)) (hn : L.length = n) (hn1 : n ≤ 19) (hok : L.Pairwise entLt) :
 Calls Tryz.prog 91 #[.slice (some ⟨g, 0, none⟩) n cap, .func (.func 98) #[] #[]] w fun e w' => e = .returned (.tuple #[]) ∧ ∃ M : List LentV, M.Perm L ∧ M.Pairwise lateLt ∧ w'.ownsRow base 65 4 (.slice (some ⟨g, 0, none⟩) n cap) n (M.flatMap lentC) ∧ ∀ a : World, Ext a w → a.heap.size ≤ g → Ext a w' := by
 have hgl := (h.lt g rfl).2
 have hs := AnyQ.insertionSortCmpFunc Tryz.lisLent 4 Tryz.isAgg65 Tryz.sizeOf65 lentC lentC_len lentC_one cfD 98 #[] g 0 cap 0 n L.toArray w (fun args u => by rfl) (fun m os dk _ x y => lateD_any x y _) (holdsK_own lentC_len h) hgl (Nat.zero_le _) (by simp; omega) (by simp; omega)
 have hsz : L.toArray.size = n := by simpa using hn
 rw [hsz] at hs
 have hby := stableL_of cfD hok (cfD_lt L)
 have hC : Calls Tryz.prog 144 #[.slice (some ⟨g, 0, none⟩) n cap, .int .i64 n, .func (.func 98) #[] #[]] w fun e w' => e = .returned (.tuple #[]) ∧ ∃ m os, w' = sortWorldK lentC 4 w g 0 m (insertionSort (ltOf cfD) L.toArray 0 n) os := by
  replace hs := Lib.hid hs; clear hsz hby hn hok h
  go_enter Tryz.func144, Tryz.ntmps144
  go_wp2
  refine wp_loop_rounds 1 ?_
  rw [rounds_succ]
  go_wp2_with (go_at_call 189; refine hs.out.mono ?_; rintro e w' ⟨rfl, m, os, rfl⟩)
  refine wp_loop_rounds 1 ?_
  rw [rounds_succ]
  go_wp2
  go_end0
  exact ⟨rfl, m, os, rfl⟩
 have hS : Calls Tryz.prog 91 #[.slice (some ⟨g, 0, none⟩) n cap, .func (.func 98) #[] #[]] w fun e w' => e = .returned (.tuple #[]) ∧ ∃ m os, w' = sortWorldK lentC 4 w g 0 m (insertionSort (ltOf cfD) L.toArray 0 n) os := by
  replace hC := Lib.hid hC; clear hs hsz hby hn hok h
  go_enter Tryz.func91, Tryz.ntmps91
  go_wp2_with (go_at_call 144; refine hC.out.mono ?_; rintro e w' ⟨rfl, m, os, rfl⟩)
  go_end0
  exact ⟨rfl, m, os, rfl⟩
 subst hn
 refine hS.mono fun e w' ⟨he, q, os, hw⟩ => ?_
 refine ⟨he, _, hby.1, hby.2, ?_, ?_⟩
 ·rw [hw]
  exact own_sortK lentC_len h hby.1.length_eq
 ·intro a ha hg
  rw [hw]
  exact ext_sortK ha hg
set_option maxRecDepth 100000 in
theorem stableLNone_any (p : Option Addr) (cap : Nat) (fv : Value) (w : World) :
 Calls Tryz.prog 91 #[.slice p 0 cap, fv] w fun e w' => e = .returned (.tuple #[]) ∧ w = w' := by
 have hs := fun u => AnyF.insertionSortCmpFunc_none Tryz.lisLent p cap fv u
 have hC : ∀ u, Calls Tryz.prog 144 #[.slice p 0 cap, .int .i64 0, fv] u fun e w' => e = .returned (.tuple #[]) ∧ u = w' := fun u => by
  replace hs := Lib.hid hs
  go_enter Tryz.func144, Tryz.ntmps144
  go_wp2
  refine wp_loop_rounds 1 ?_
  rw [rounds_succ]
  go_wp2_with (go_at_call 189; refine (hs.out _).mono ?_; rintro e w' ⟨rfl, rfl⟩)
  refine wp_loop_rounds 1 ?_
  rw [rounds_succ]
  go_wp2
  go_end0
  exact ⟨rfl, rfl⟩
 replace hC := Lib.hid hC; clear hs
 go_enter Tryz.func91, Tryz.ntmps91
 go_wp2_with (go_at_call 144; refine (hC.out _).mono ?_; rintro e w' ⟨rfl, rfl⟩)
 go_end0
 exact ⟨rfl, rfl⟩
theorem stablePAll {w : World} {base : Nat} {v : Value} {L : List LentV} (h : w.ownsRow base 65 4 v L.length (L.flatMap lentC)) (hn1 : L.length ≤ 19) (hb : ∀ x ∈ L, 0 ≤ x.since ∧ x.since ≤ 345686399999) (hok : L.Pairwise entLt) :
 Calls Tryz.prog 91 #[v, .func (.func 92) #[] #[]] w fun e w' => e = .returned (.tuple #[]) ∧ ∃ M : List LentV, M.Perm L ∧ M.Pairwise lateLt ∧ w'.ownsRow base 65 4 v M.length (M.flatMap lentC) ∧ ∀ a : World, Ext a w → a.heap.size ≤ base → Ext a w' := by
 by_cases h0 : L.length = 0
 ·obtain ⟨q, d, rfl, -⟩ := slc_of_own lentC_len h (by decide) (by omega)
  obtain rfl : L = [] := List.eq_nil_of_length_eq_zero h0
  refine (stableLNone_any q d _ w).mono fun e w' hh => ?_
  obtain ⟨rfl, rfl⟩ := hh
  exact ⟨rfl, [], List.Perm.refl _, List.Pairwise.nil, h, fun a ha _ => ha⟩
 ·obtain ⟨g, d, rfl, hg, hgl⟩ := h.form (by omega)
  refine (stableP_any h rfl (by omega) hb hok).mono fun e w' hh => ?_
  obtain ⟨rfl, M, hM, hM2, ho, hx⟩ := hh
  have hl := hM.length_eq
  exact ⟨rfl, M, hM, hM2, by rw [hl]; exact ho, fun a ha hb => hx a ha (by omega)⟩
theorem stableDAll {w : World} {base : Nat} {v : Value} {L : List LentV} (h : w.ownsRow base 65 4 v L.length (L.flatMap lentC)) (hn1 : L.length ≤ 19) (hok : L.Pairwise entLt) :
 Calls Tryz.prog 91 #[v, .func (.func 98) #[] #[]] w fun e w' => e = .returned (.tuple #[]) ∧ ∃ M : List LentV, M.Perm L ∧ M.Pairwise lateLt ∧ w'.ownsRow base 65 4 v M.length (M.flatMap lentC) ∧ ∀ a : World, Ext a w → a.heap.size ≤ base → Ext a w' := by
 by_cases h0 : L.length = 0
 ·obtain ⟨q, d, rfl, -⟩ := slc_of_own lentC_len h (by decide) (by omega)
  obtain rfl : L = [] := List.eq_nil_of_length_eq_zero h0
  refine (stableLNone_any q d _ w).mono fun e w' hh => ?_
  obtain ⟨rfl, rfl⟩ := hh
  exact ⟨rfl, [], List.Perm.refl _, List.Pairwise.nil, h, fun a ha _ => ha⟩
 ·obtain ⟨g, d, rfl, hg, hgl⟩ := h.form (by omega)
  refine (stableD_any h rfl (by omega) hok).mono fun e w' hh => ?_
  obtain ⟨rfl, M, hM, hM2, ho, hx⟩ := hh
  have hl := hM.length_eq
  exact ⟨rfl, M, hM, hM2, by rw [hl]; exact ho, fun a ha hb => hx a ha (by omega)⟩
end Go.Proofs.YtkjhbofbcmelgaaGreatDoor
