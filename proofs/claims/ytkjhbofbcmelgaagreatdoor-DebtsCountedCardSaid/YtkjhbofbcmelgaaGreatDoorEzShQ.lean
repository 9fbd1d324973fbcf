/- What is out, what a singer has, by the document: the walks. Conditions: sizes; at most 19 slips. (Printed by gen_shn.py.) -/
import Derived.Test.YtkjhbofbcmelgaaGreatDoorEzJ37
import Derived.Test.YtkjhbofbcmelgaaGreatDoorEzCfD
set_option linter.unusedSimpArgs false
set_option linter.unusedVariables false
namespace Go.Proofs.YtkjhbofbcmelgaaGreatDoor
open Go Go.RowKit Go.Sort
set_option maxRecDepth 100000 in
set_option maxHeartbeats 1600000 in
theorem entD_any (a b : LentV) (w : World) :
 Calls Tryz.prog 138 #[.agg #[.string a.piece, .int .i64 a.no, .string a.singer, .int .i64 a.since], .agg #[.string b.piece, .int .i64 b.no, .string b.singer, .int .i64 b.since]] w fun e w' => e = .returned (.int .i64 (entO a b)) ∧ ∃ q os', w' = grow (w.drewN q) os' := by
 have hF : entO a b = orF [cmpS a.piece b.piece, cmpZ a.no b.no] := rfl
 rw [hF]
 clear hF
 have hX : Blk ((w.alloc (.cells #[.string a.piece, .int .i64 a.no, .string a.singer, .int .i64 a.since] 65)).alloc (.cells #[.string b.piece, .int .i64 b.no, .string b.singer, .int .i64 b.since] 65)) w.heap.size 65 #[.string a.piece, .int .i64 a.no, .string a.singer, .int .i64 a.since] := (Blk.new' rfl).alloc _
 have hY : Blk ((w.alloc (.cells #[.string a.piece, .int .i64 a.no, .string a.singer, .int .i64 a.since] 65)).alloc (.cells #[.string b.piece, .int .i64 b.no, .string b.singer, .int .i64 b.since] 65)) (w.heap.size + 1) 65 #[.string b.piece, .int .i64 b.no, .string b.singer, .int .i64 b.since] := Blk.new' (by simp)
 go_enter Tryz.func138, Tryz.ntmps138
 go_upto_region 1 with fail
 refine wp_region_planS [(0, true), (1, true), (2, true), (3, true), (4, true), (5, true), (6, true), (7, true), (8, true), (9, true)] 10 (fun w' => Blk w' w.heap.size 65 #[.string a.piece, .int .i64 a.no, .string a.singer, .int .i64 a.since] ∧ Blk w' (w.heap.size + 1) 65 #[.string b.piece, .int .i64 b.no, .string b.singer, .int .i64 b.since]) Drw (by kernel_rfl) (by kernel_rfl) Drw.refl (fun _ _ _ => Drw.trans) (fun _ _ h he => ⟨h.1.drw he, h.2.drw he⟩) ⟨(by (repeat (with_reducible first | assumption | exact Blk.new' (by simp) | refine Blk.drew ?_ | refine Blk.alloc ?_ _ | exact Drw.refl _ | refine Ext.drew ?_ | refine Ext.alloc ?_ _))), (by (repeat (with_reducible first | assumption | exact Blk.new' (by simp) | refine Blk.drew ?_ | refine Blk.alloc ?_ _ | exact Drw.refl _ | refine Ext.drew ?_ | refine Ext.alloc ?_ _)))⟩ ?_
 repeat
  first
   | (refine plan_quiet rfl rfl (fun _ _ _ _ h => h) ?_
      apply Exists.intro
      refine ⟨fun w' hw' => ?_, ?_⟩
      ·obtain ⟨hH0, hH1⟩ := hw'
       unfold Blk at hH0 hH1
       simp [go_sem, quietTo, World.cell?, hH0, hH1, Drw.refl, ↓IntWalk.iteOmega]
       first
        | rfl
        | (exact cmpSE_any _ _ _)
        | (exact cmpIntE_any _ _ _)
      simp only [Act.put, sIA, sCS, sCZ])
   | (refine plan_skip rfl rfl (fun _ _ _ _ h => h) ?_
      simp only [Act.put, sIA, sCS, sCZ])
 refine plan_nil fun wr her hwr => ?_
 obtain ⟨hH0, hH1⟩ := hwr
 obtain ⟨hC0, hF0⟩ := hH0.walk
 obtain ⟨hC1, hF1⟩ := hH1.walk
 simp only [List.drop_succ_cons, List.drop_zero, List.drop_nil]
 go_wp2_with (go_at_call 85; refine (orInt_blk _ _ 2 [cmpS a.piece b.piece, cmpZ a.no b.no] _ (by simp) (Blk.new' rfl)).mono ?_; rintro e w2 ⟨rfl, rfl⟩)
 go_ret
 refine ⟨rfl, ?_⟩
 obtain ⟨q, rfl⟩ := her
 exact ⟨q + 1, _, grow_three _ _ _ _ _⟩
set_option maxRecDepth 100000 in
theorem sortLentD_any {w : World} {base g n cap : Nat} {L : List LentV} (h : w.ownsRow base 65 4 (.slice (some ⟨g, 0, none⟩) n cap) n (L.flatMap lentC)) (hn : L.length = n) (hn1 : n ≤ 100000) (hok : L.Pairwise fun a b => ¬ (a.piece = b.piece ∧ a.no = b.no)) :
 Calls Tryz.prog 128 #[.slice (some ⟨g, 0, none⟩) n cap, .func (.func 138) #[] #[]] w fun e w' => e = .returned (.tuple #[]) ∧ ∃ M : List LentV, M.Perm L ∧ M.Pairwise entLt ∧ w'.ownsRow base 65 4 (.slice (some ⟨g, 0, none⟩) n cap) n (M.flatMap lentC) ∧ ∀ a : World, Ext a w → a.heap.size ≤ g → Ext a w' := by
 have hgl := (h.lt g rfl).2
 subst hn
 have hs := AnyQ.slices_SortFunc Tryz.lsfLent 4 Tryz.isAgg65 Tryz.sizeOf65 lentC lentC_len lentC_one entO ent_swo 138 #[] g 0 cap L.toArray w (fun args u => by rfl) (fun m os dk _ x y => entD_any x y _) (holdsK_own lentC_len h) hgl (by simp; omega)
 refine hs.mono fun e w' ⟨he, d', q, os, hp, hso, hw⟩ => ?_
 obtain ⟨hpm, hri⟩ := sortL_of hok (by simpa using hp) (by simpa using hso)
 refine ⟨he, d'.toList, hpm, hri, ?_, ?_⟩
 ·rw [hw]
  exact own_sortK lentC_len h hpm.length_eq
 ·intro a ha hg
  rw [hw]
  exact ext_sortK ha hg
/-- Open loans for which something is so. -/
def byL (f : LoanV → Bool) (X : List LoanV) : List LentV := (X.filter fun l => decide l.Open && f l).map toL
theorem byL_snoc (f : LoanV → Bool) (X : List LoanV) (l : LoanV) : byL f (X ++ [l]) = byL f X ++ if (decide l.Open && f l) = true then [toL l] else [] := by
 unfold byL
 rw [List.filter_append, List.map_append]
 cases h : (decide l.Open && f l) <;> simp [h]
theorem byL_len (f : LoanV → Bool) (X : List LoanV) : (byL f X).length ≤ X.length := by
 unfold byL
 rw [List.length_map]
 exact List.length_filter_le _ _
theorem byL_diff {each t : Int} {L : LibS} (h : LibI each t L) (f : LoanV → Bool) : (byL f L.loans).Pairwise fun a b => ¬ (a.piece = b.piece ∧ a.no = b.no) := by
 have h1 := out_diff h
 unfold outL at h1
 unfold byL
 rw [List.pairwise_map] at h1 ⊢
 have e : (L.loans.filter fun l => decide l.Open && f l) = (L.loans.filter fun l => decide l.Open).filter f := by rw [List.filter_filter]; congr 1; funext l; exact Bool.and_comm _ _
 rw [e]
 exact h1.filter f
def ByR (f : LoanV → Bool) (X : List LoanV) (w : World) (e : Ending) (w' : World) : Prop := ∃ (v : Value) (M : List LentV), e = .returned v ∧ M.Perm (byL f X) ∧ M.Pairwise entLt ∧ w'.ownsRow w.heap.size 65 4 v M.length (M.flatMap lentC) ∧ Ext w w'
end Go.Proofs.YtkjhbofbcmelgaaGreatDoor
