/- What is out, what a singer has, by the document: the walks. Conditions: sizes; at most 19 slips. (Printed by gen_shn.py.) -/
import Derived.Test.YtkjhbofbcmelgaaGreatDoorFzJ41
import Derived.Test.YtkjhbofbcmelgaaGreatDoorFzCfD
set_option linter.unusedSimpArgs false
set_option linter.unusedVariables false
namespace Go.Proofs.YtkjhbofbcmelgaaGreatDoor
open Go Go.RowKit Go.Sort
set_option maxRecDepth 100000 in
set_option maxHeartbeats 1600000 in
theorem entD_any (a b : LentV) (w : World) :
 Calls Tryz.prog 138 #[.agg #[.string a.piece, .int .i64 a.no, .string a.singer, .int .i64 a.since], .agg #[.string b.piece, .int .i64 b.no, .string b.singer, .int .i64 b.since]] w fun e w' => e = .returned (.int .i64 (entO a b)) ∧ ∃ q os', w' = grow (w.drewN q) os' := by
 have hF : entO a b = orF [cmpS a.piece b.piece, cmpZ a.no b.no] := rfl
 rw [hF]
 clear hF
 have hX : Blk ((w.alloc (.cells #[.string a.piece, .int .i64 a.no, .string a.singer, .int .i64 a.since] 65)).alloc (.cells #[.string b.piece, .int .i64 b.no, .string b.singer, .int .i64 b.since] 65)) w.heap.size 65 #[.string a.piece, .int .i64 a.no, .string a.singer, .int .i64 a.since] := (Blk.new' rfl).alloc _
 have hY : Blk ((w.alloc (.cells #[.string a.piece, .int .i64 a.no, .string a.singer, .int .i64 a.since] 65)).alloc (.cells #[.string b.piece, .int .i64 b.no, .string b.singer, .int .i64 b.since] 65)) (w.heap.size + 1) 65 #[.string b.piece, .int .i64 b.no, .string b.singer, .int .i64 b.since] := Blk.new' (by simp)
 go_enter Tryz.func138, Tryz.ntmps138
 go_upto_region 1 with fail
 refine wp_region_planS [(0, true), (1, true), (2, true), (3, true), (4, true), (5, true), (6, true), (7, true), (8, true), (9, true)] 10 (fun w' => Blk w' w.heap.size 65 #[.string a.piece, .int .i64 a.no, .string a.singer, .int .i64 a.since] ∧ Blk w' (w.heap.size + 1) 65 #[.string b.piece, .int .i64 b.no, .string b.singer, .int .i64 b.since]) Drw (by kernel_rfl) (by kernel_rfl) Drw.refl (fun _ _ _ => Drw.trans) (fun _ _ h he => ⟨h.1.drw he, h.2.drw he⟩) ⟨(by (repeat (with_reducible first | assumption | exact Blk.new' (by simp) | refine Blk.drew ?_ | refine Blk.alloc ?_ _ | exact Drw.refl _ | refine Ext.drew ?_ | refine Ext.alloc ?_ _))), (by (repeat (with_reducible first | assumption | exact Blk.new' (by simp) | refine Blk.drew ?_ | refine Blk.alloc ?_ _ | exact Drw.refl _ | refine Ext.drew ?_ | refine Ext.alloc ?_ _)))⟩ ?_
 repeat
  first
   | (refine plan_quiet rfl rfl (fun _ _ _ _ h => h) ?_
      apply Exists.intro
      refine ⟨fun w' hw' => ?_, ?_⟩
      ·obtain ⟨hH0, hH1⟩ := hw'
       unfold Blk at hH0 hH1
       simp [go_sem, quietTo, World.cell?, hH0, hH1, Drw.refl, ↓IntWalk.iteOmega]
       first
        | rfl
        | (exact cmpSE_any _ _ _)
        | (exact cmpIntE_any _ _ _)
      simp only [Act.put, sIA, sCS, sCZ])
   | (refine plan_skip rfl rfl (fun _ _ _ _ h => h) ?_
      simp only [Act.put, sIA, sCS, sCZ])
 refine plan_nil fun wr her hwr => ?_
 obtain ⟨hH0, hH1⟩ := hwr
 obtain ⟨hC0, hF0⟩ := hH0.walk
 obtain ⟨hC1, hF1⟩ := hH1.walk
 simp only [List.drop_succ_cons, List.drop_zero, List.drop_nil]
 go_wp2_with (go_at_call 85; refine (orInt_blk _ _ 2 [cmpS a.piece b.piece, cmpZ a.no b.no] _ (by simp) (Blk.new' rfl)).mono ?_; rintro e w2 ⟨rfl, rfl⟩)
 go_ret
 refine ⟨rfl, ?_⟩
 obtain ⟨q, rfl⟩ := her
 exact ⟨q + 1, _, grow_three _ _ _ _ _⟩
set_option maxRecDepth 100000 in
theorem sortLentD_any {w : World} {base g n cap : Nat} {L : List LentV} (h : w.ownsRow base 65 4 (.slice (some ⟨g, 0, none⟩) n cap) n (L.flatMap lentC)) (hn : L.length = n) (hn1 : n ≤ 100000) (hok : L.Pairwise fun a b => ¬ (a.piece = b.piece ∧ a.no = b.no)) :
 Calls Tryz.prog 128 #[.slice (some ⟨g, 0, none⟩) n cap, .func (.func 138) #[] #[]] w fun e w' => e = .returned (.tuple #[]) ∧ ∃ M : List LentV, M.Perm L ∧ M.Pairwise entLt ∧ w'.ownsRow base 65 4 (.slice (some ⟨g, 0, none⟩) n cap) n (M.flatMap lentC) ∧ ∀ a : World, Ext a w → a.heap.size ≤ g → Ext a w' := by
 have hgl := (h.lt g rfl).2
 subst hn
 have hs := AnyQ.slices_SortFunc Tryz.lsfLent 4 Tryz.isAgg65 Tryz.sizeOf65 lentC lentC_len lentC_one entO ent_swo 138 #[] g 0 cap L.toArray w (fun args u => by rfl) (fun m os dk _ x y => entD_any x y _) (holdsK_own lentC_len h) hgl (by simp; omega)
 refine hs.mono fun e w' ⟨he, d', q, os, hp, hso, hw⟩ => ?_
 obtain ⟨hpm, hri⟩ := sortL_of hok (by simpa using hp) (by simpa using hso)
 refine ⟨he, d'.toList, hpm, hri, ?_, ?_⟩
 ·rw [hw]
  exact own_sortK lentC_len h hpm.length_eq
 ·intro a ha hg
  rw [hw]
  exact ext_sortK ha hg
/-- Open loans for which something is so. -/
def byL (f : LoanV → Bool) (X : List LoanV) : List LentV := (X.filter fun l => decide l.Open && f l).map toL
theorem byL_snoc (f : LoanV → Bool) (X : List LoanV) (l : LoanV) : byL f (X ++ [l]) = byL f X ++ if (decide l.Open && f l) = true then [toL l] else [] := by
 unfold byL
 rw [List.filter_append, List.map_append]
 cases h : (decide l.Open && f l) <;> simp [h]
theorem byL_len (f : LoanV → Bool) (X : List LoanV) : (byL f X).length ≤ X.length := by
 unfold byL
 rw [List.length_map]
 exact List.length_filter_le _ _
theorem byL_diff {each t : Int} {L : LibS} (h : LibI each t L) (f : LoanV → Bool) : (byL f L.loans).Pairwise fun a b => ¬ (a.piece = b.piece ∧ a.no = b.no) := by
 have h1 := out_diff h
 unfold outL at h1
 unfold byL
 rw [List.pairwise_map] at h1 ⊢
 have e : (L.loans.filter fun l => decide l.Open && f l) = (L.loans.filter fun l => decide l.Open).filter f := by rw [List.filter_filter]; congr 1; funext l; exact Bool.and_comm _ _
 rw [e]
 exact h1.filter f
theorem byL_all (X : List LoanV) : byL (fun _ => true) X = outL X := by unfold byL outL; simp
theorem byL_has (X : List LoanV) (s : ByteArray) : byL (fun l => decide (l.singer = s)) X = hasL X s := by
 unfold byL hasL outL
 rw [List.filter_map, List.filter_filter]
 congr 2
 funext l
 exact Bool.and_comm _ _
def ByR (f : LoanV → Bool) (X : List LoanV) (w : World) (e : Ending) (w' : World) : Prop := ∃ (v : Value) (M : List LentV), e = .returned v ∧ M.Perm (byL f X) ∧ M.Pairwise entLt ∧ w'.ownsRow w.heap.size 65 4 v M.length (M.flatMap lentC) ∧ Ext w w'
set_option maxRecDepth 100000 in
set_option maxHeartbeats 6400000 in
theorem lentByOut_any {base : Nat} {w : World} {bb ms mr q nr : Nat} {tp : Option Addr} {tn tc : Nat} {r : LendR} {L : LibS} {F : Int → Option Int} (h : ShM base w bb ms mr q nr tp tn tc r L F) (hl : L.loans.length ≤ 1000) (f : LoanV → Bool) (hdf : (byL f L.loans).Pairwise fun a b => ¬ (a.piece = b.piece ∧ a.no = b.no))
 (hcl : ∀ u, Ext w u → ∀ l : LoanV, Calls Tryz.prog 80 #[.agg #[.string l.piece, .int .i64 l.no, .string l.singer, .int .i64 l.since, .int .i64 l.till, .bool l.lost]] u fun e w' => e = .returned (.bool (f l)) ∧ Ext u w') :
 Calls Tryz.prog 79 #[.pointer (some ⟨bb, 0, none⟩), .func (.func 80) #[] #[]] w (ByR f L.loans w) := by
 obtain ⟨lv, hrow, -⟩ := h.parts
 obtain ⟨lp, lc, rfl, hS⟩ := slc_of_own loanC_len hrow.2 (by decide) (by omega)
 have c6 := hrow.1.cell 6
 have lb := hrow.1.lt
 unfold shC at c6
 clear h hrow
 generalize L.loans = X at *
 replace hS := Lib.hid hS; replace hdf := Lib.hid hdf; replace hcl := Lib.hid hcl
 go_enter Tryz.func79, Tryz.ntmps79
 go_wp2
 go_loopw [5,13] (fun v3 v11 wr => ∃ (k : Nat) (v : Value), v11 = .int .i64 k ∧ v = v3 ∧ k ≤ X.length ∧ wr.ownsRow w.heap.size 65 4 v (byL f (X.take k)).length ((byL f (X.take k)).flatMap lentC) ∧ Ext w wr) (fun _ v11 _ => X.length - (intOf v11).toNat)
 case atStart => exact ⟨0, _, rfl, rfl, Nat.zero_le _, World.ownsRow_nil _ _ _ _, Ext.refl _⟩
 case round =>
  obtain ⟨k, v, rfl, rfl, hk, hown, he⟩ := hrel
  by_cases hlt : k < X.length
  ·obtain ⟨l, hx⟩ := getD_some (rfl : X.length = X.length) hlt
   obtain ⟨b, off, rfl, hb, hE⟩ := hS.out.1.2.2 (by omega)
   have hEr := hE.ext he hb
   have d0 : wr.cell? ⟨b, off + k * 6, none⟩ = some (.string l.piece) := hEr k _ hx 0 _ rfl
   have d1 : wr.cell? ⟨b, off + k * 6 + 1, none⟩ = some (.int .i64 l.no) := hEr k _ hx 1 _ rfl
   have d2 : wr.cell? ⟨b, off + k * 6 + 2, none⟩ = some (.string l.singer) := hEr k _ hx 2 _ rfl
   have d3 : wr.cell? ⟨b, off + k * 6 + 3, none⟩ = some (.int .i64 l.since) := hEr k _ hx 3 _ rfl
   have d4 : wr.cell? ⟨b, off + k * 6 + 4, none⟩ = some (.int .i64 l.till) := hEr k _ hx 4 _ rfl
   have d5 : wr.cell? ⟨b, off + k * 6 + 5, none⟩ = some (.bool l.lost) := hEr k _ hx 5 _ rfl
   have hkI : (k : Int) < (X.length : Int) := by omega
   have hsn := byL_snoc f (X.take k) l
   rw [← take_snocL hx] at hsn
   have hol : (byL f (X.take k)).length ≤ 1000 := Nat.le_trans (byL_len _ _) (by rw [List.length_take]; omega)
   have hsz := he.size
   have hE1 : Ext wr (wr.alloc (.cells #[.string l.piece, .int .i64 l.no, .string l.singer, .int .i64 l.since, .int .i64 l.till, .bool l.lost] 148)) := (Ext.refl _).alloc _
   have hB1 : Blk (wr.alloc (.cells #[.string l.piece, .int .i64 l.no, .string l.singer, .int .i64 l.since, .int .i64 l.till, .bool l.lost] 148)) wr.heap.size 148 #[.string l.piece, .int .i64 l.no, .string l.singer, .int .i64 l.since, .int .i64 l.till, .bool l.lost] := Blk.new' rfl
   have ho1 := hown.alloc (.cells #[.string l.piece, .int .i64 l.no, .string l.singer, .int .i64 l.since, .int .i64 l.till, .bool l.lost] 148)
   have hc1 := hcl.out _ (he.trans hE1) l
   replace hx := Lib.hid hx; replace hE := Lib.hid hE; replace hE1 := Lib.hid hE1; replace hB1 := Lib.hid hB1; replace ho1 := Lib.hid ho1; clear hEr
   by_cases hop : l.till < 0
   ·rw [decide_eq_true (show l.Open from hop), Bool.true_and] at hsn
    generalize f l = fl at *
    replace hc1 := Lib.hid hc1
    cases fl
    ·rw [if_neg (by decide), List.append_nil] at hsn
     replace hsn := Lib.hid hsn
     go_wp2_with (go_at_call 80; (with_reducible refine Calls.mono hc1.out ?_); rintro e w5 ⟨rfl, hb5⟩; obtain ⟨q5, z5⟩ := (hB1.out.ext hb5).walk; have l5 := (hB1.out.ext hb5).lt)
     go_roundw
     case rel => exact ⟨k + 1, _, by go_num, rfl, by omega, by rw [hsn.out]; exact own_ext hb5 ho1.out, (he.trans hE1.out).trans hb5⟩
     case measure => simp [intOf]; omega
    ·rw [if_pos rfl] at hsn
     replace hsn := Lib.hid hsn
     go_wp2_with (first
      | (go_at_call 80; (with_reducible refine Calls.mono hc1.out ?_); rintro e w5 ⟨rfl, hb5⟩; obtain ⟨q5, z5⟩ := (hB1.out.ext hb5).walk; have l5 := (hB1.out.ext hb5).lt; have ho5 := own_ext hb5 ho1.out; have he5 := (he.trans hE1.out).trans hb5; have hs5 := he5.size)
      | (at_builtin; go_loud (refine wp_app1 _ (.tmp 25) (.tmp 37) 43 65 4 48 _ rfl rfl Tryz.underlying43 lentInfo rfl (by decide) (by decide) w.heap.size _ _ _ rfl (ho5.alloc _) _ (lentC ⟨l.piece, l.no, l.singer, l.since⟩) rfl rfl (Blk.new' (by simp)) (lentC_one _) (by omega) (by simp; omega) ?_; intro v' wz hownz hgrowz _)))
     go_roundw
     case rel => exact ⟨k + 1, v', by go_num, rfl, by omega, by rw [hsn.out, List.length_append, flat_snoc]; exact hownz, (he5.alloc _).app (ho5.alloc _) (Nat.le_refl _) hgrowz⟩
     case measure => simp [intOf]; omega
   ·rw [decide_eq_false (show ¬ l.Open from hop), Bool.false_and, if_neg (by decide), List.append_nil] at hsn
    replace hsn := Lib.hid hsn; clear hc1
    go_wp2
    go_roundw
    case rel => exact ⟨k + 1, _, by go_num, rfl, by omega, by rw [hsn.out]; exact hown.alloc _, he.alloc _⟩
    case measure => simp [intOf]; omega
  ·obtain rfl : X.length = k := by omega
   rw [List.take_length] at hown
   have hol : (byL f X).length ≤ 1000 := Nat.le_trans (byL_len _ _) hl
   clear hcl
   rcases Nat.eq_zero_or_pos (byL f X).length with h0 | h0
   ·obtain ⟨p9, c9, rfl, -⟩ := slc_of_own lentC_len hown (by decide) (by omega)
    have hr : ByR f X w (.returned (.slice p9 (byL f X).length c9)) wr := ⟨_, byL f X, rfl, List.Perm.refl _, by rw [List.eq_nil_of_length_eq_zero h0]; exact List.Pairwise.nil, hown, he⟩
    rw [h0] at hr
    replace hr := Lib.hid hr
    rw [h0]
    replace h0 := Lib.hid h0; clear hown hol
    go_wp2_with (go_at_call 128; (with_reducible refine Calls.mono (sortNoneL_any p9 c9 _ _) ?_); rintro e w5 ⟨rfl, rfl⟩)
    go_ret
    exact hr.out
   ·obtain ⟨g, cap, rfl, hg, hgl2⟩ := hown.form h0
    have hso := sortLentD_any hown rfl (by omega) hdf.out
    replace hso := Lib.hid hso; clear hown hol
    go_wp2_with (go_at_call 128; (with_reducible refine Calls.mono hso.out ?_); rintro e w5 ⟨rfl, M, hSp, hSr, hSo, hSx⟩)
    have hr : ByR f X w (.returned (.slice (some ⟨g, 0, none⟩) (byL f X).length cap)) w5 := ⟨_, M, rfl, hSp, hSr, by rw [hSp.length_eq]; exact hSo, hSx w he hg⟩
    go_ret
    exact hr
set_option maxRecDepth 100000 in
set_option maxHeartbeats 6400000 in
theorem lentByHas_any {base : Nat} {w : World} {bb ms mr q nr : Nat} {tp : Option Addr} {tn tc : Nat} {r : LendR} {L : LibS} {F : Int → Option Int} (h : ShM base w bb ms mr q nr tp tn tc r L F) (hl : L.loans.length ≤ 1000) (gS : Nat) (f : LoanV → Bool) (hdf : (byL f L.loans).Pairwise fun a b => ¬ (a.piece = b.piece ∧ a.no = b.no))
 (hcl : ∀ u, Ext w u → ∀ l : LoanV, Calls Tryz.prog 81 #[.agg #[.string l.piece, .int .i64 l.no, .string l.singer, .int .i64 l.since, .int .i64 l.till, .bool l.lost], .pointer (some ⟨gS, 0, none⟩)] u fun e w' => e = .returned (.bool (f l)) ∧ Ext u w') :
 Calls Tryz.prog 79 #[.pointer (some ⟨bb, 0, none⟩), .func (.func 81) #[] #[.pointer (some ⟨gS, 0, none⟩)]] w (ByR f L.loans w) := by
 obtain ⟨lv, hrow, -⟩ := h.parts
 obtain ⟨lp, lc, rfl, hS⟩ := slc_of_own loanC_len hrow.2 (by decide) (by omega)
 have c6 := hrow.1.cell 6
 have lb := hrow.1.lt
 unfold shC at c6
 clear h hrow
 generalize L.loans = X at *
 replace hS := Lib.hid hS; replace hdf := Lib.hid hdf; replace hcl := Lib.hid hcl
 go_enter Tryz.func79, Tryz.ntmps79
 go_wp2
 go_loopw [5,13] (fun v3 v11 wr => ∃ (k : Nat) (v : Value), v11 = .int .i64 k ∧ v = v3 ∧ k ≤ X.length ∧ wr.ownsRow w.heap.size 65 4 v (byL f (X.take k)).length ((byL f (X.take k)).flatMap lentC) ∧ Ext w wr) (fun _ v11 _ => X.length - (intOf v11).toNat)
 case atStart => exact ⟨0, _, rfl, rfl, Nat.zero_le _, World.ownsRow_nil _ _ _ _, Ext.refl _⟩
 case round =>
  obtain ⟨k, v, rfl, rfl, hk, hown, he⟩ := hrel
  by_cases hlt : k < X.length
  ·obtain ⟨l, hx⟩ := getD_some (rfl : X.length = X.length) hlt
   obtain ⟨b, off, rfl, hb, hE⟩ := hS.out.1.2.2 (by omega)
   have hEr := hE.ext he hb
   have d0 : wr.cell? ⟨b, off + k * 6, none⟩ = some (.string l.piece) := hEr k _ hx 0 _ rfl
   have d1 : wr.cell? ⟨b, off + k * 6 + 1, none⟩ = some (.int .i64 l.no) := hEr k _ hx 1 _ rfl
   have d2 : wr.cell? ⟨b, off + k * 6 + 2, none⟩ = some (.string l.singer) := hEr k _ hx 2 _ rfl
   have d3 : wr.cell? ⟨b, off + k * 6 + 3, none⟩ = some (.int .i64 l.since) := hEr k _ hx 3 _ rfl
   have d4 : wr.cell? ⟨b, off + k * 6 + 4, none⟩ = some (.int .i64 l.till) := hEr k _ hx 4 _ rfl
   have d5 : wr.cell? ⟨b, off + k * 6 + 5, none⟩ = some (.bool l.lost) := hEr k _ hx 5 _ rfl
   have hkI : (k : Int) < (X.length : Int) := by omega
   have hsn := byL_snoc f (X.take k) l
   rw [← take_snocL hx] at hsn
   have hol : (byL f (X.take k)).length ≤ 1000 := Nat.le_trans (byL_len _ _) (by rw [List.length_take]; omega)
   have hsz := he.size
   have hE1 : Ext wr (wr.alloc (.cells #[.string l.piece, .int .i64 l.no, .string l.singer, .int .i64 l.since, .int .i64 l.till, .bool l.lost] 148)) := (Ext.refl _).alloc _
   have hB1 : Blk (wr.alloc (.cells #[.string l.piece, .int .i64 l.no, .string l.singer, .int .i64 l.since, .int .i64 l.till, .bool l.lost] 148)) wr.heap.size 148 #[.string l.piece, .int .i64 l.no, .string l.singer, .int .i64 l.since, .int .i64 l.till, .bool l.lost] := Blk.new' rfl
   have ho1 := hown.alloc (.cells #[.string l.piece, .int .i64 l.no, .string l.singer, .int .i64 l.since, .int .i64 l.till, .bool l.lost] 148)
   have hc1 := hcl.out _ (he.trans hE1) l
   replace hx := Lib.hid hx; replace hE := Lib.hid hE; replace hE1 := Lib.hid hE1; replace hB1 := Lib.hid hB1; replace ho1 := Lib.hid ho1; clear hEr
   by_cases hop : l.till < 0
   ·rw [decide_eq_true (show l.Open from hop), Bool.true_and] at hsn
    generalize f l = fl at *
    replace hc1 := Lib.hid hc1
    cases fl
    ·rw [if_neg (by decide), List.append_nil] at hsn
     replace hsn := Lib.hid hsn
     go_wp2_with (go_at_call 81; (with_reducible refine Calls.mono hc1.out ?_); rintro e w5 ⟨rfl, hb5⟩; obtain ⟨q5, z5⟩ := (hB1.out.ext hb5).walk; have l5 := (hB1.out.ext hb5).lt)
     go_roundw
     case rel => exact ⟨k + 1, _, by go_num, rfl, by omega, by rw [hsn.out]; exact own_ext hb5 ho1.out, (he.trans hE1.out).trans hb5⟩
     case measure => simp [intOf]; omega
    ·rw [if_pos rfl] at hsn
     replace hsn := Lib.hid hsn
     go_wp2_with (first
      | (go_at_call 81; (with_reducible refine Calls.mono hc1.out ?_); rintro e w5 ⟨rfl, hb5⟩; obtain ⟨q5, z5⟩ := (hB1.out.ext hb5).walk; have l5 := (hB1.out.ext hb5).lt; have ho5 := own_ext hb5 ho1.out; have he5 := (he.trans hE1.out).trans hb5; have hs5 := he5.size)
      | (at_builtin; go_loud (refine wp_app1 _ (.tmp 25) (.tmp 37) 43 65 4 48 _ rfl rfl Tryz.underlying43 lentInfo rfl (by decide) (by decide) w.heap.size _ _ _ rfl (ho5.alloc _) _ (lentC ⟨l.piece, l.no, l.singer, l.since⟩) rfl rfl (Blk.new' (by simp)) (lentC_one _) (by omega) (by simp; omega) ?_; intro v' wz hownz hgrowz _)))
     go_roundw
     case rel => exact ⟨k + 1, v', by go_num, rfl, by omega, by rw [hsn.out, List.length_append, flat_snoc]; exact hownz, (he5.alloc _).app (ho5.alloc _) (Nat.le_refl _) hgrowz⟩
     case measure => simp [intOf]; omega
   ·rw [decide_eq_false (show ¬ l.Open from hop), Bool.false_and, if_neg (by decide), List.append_nil] at hsn
    replace hsn := Lib.hid hsn; clear hc1
    go_wp2
    go_roundw
    case rel => exact ⟨k + 1, _, by go_num, rfl, by omega, by rw [hsn.out]; exact hown.alloc _, he.alloc _⟩
    case measure => simp [intOf]; omega
  ·obtain rfl : X.length = k := by omega
   rw [List.take_length] at hown
   have hol : (byL f X).length ≤ 1000 := Nat.le_trans (byL_len _ _) hl
   clear hcl
   rcases Nat.eq_zero_or_pos (byL f X).length with h0 | h0
   ·obtain ⟨p9, c9, rfl, -⟩ := slc_of_own lentC_len hown (by decide) (by omega)
    have hr : ByR f X w (.returned (.slice p9 (byL f X).length c9)) wr := ⟨_, byL f X, rfl, List.Perm.refl _, by rw [List.eq_nil_of_length_eq_zero h0]; exact List.Pairwise.nil, hown, he⟩
    rw [h0] at hr
    replace hr := Lib.hid hr
    rw [h0]
    replace h0 := Lib.hid h0; clear hown hol
    go_wp2_with (go_at_call 128; (with_reducible refine Calls.mono (sortNoneL_any p9 c9 _ _) ?_); rintro e w5 ⟨rfl, rfl⟩)
    go_ret
    exact hr.out
   ·obtain ⟨g, cap, rfl, hg, hgl2⟩ := hown.form h0
    have hso := sortLentD_any hown rfl (by omega) hdf.out
    replace hso := Lib.hid hso; clear hown hol
    go_wp2_with (go_at_call 128; (with_reducible refine Calls.mono hso.out ?_); rintro e w5 ⟨rfl, M, hSp, hSr, hSo, hSx⟩)
    have hr : ByR f X w (.returned (.slice (some ⟨g, 0, none⟩) (byL f X).length cap)) w5 := ⟨_, M, rfl, hSp, hSr, by rw [hSp.length_eq]; exact hSo, hSx w he hg⟩
    go_ret
    exact hr
set_option maxRecDepth 100000 in
theorem outClo_any (w : World) (l : LoanV) : Calls Tryz.prog 80 #[.agg #[.string l.piece, .int .i64 l.no, .string l.singer, .int .i64 l.since, .int .i64 l.till, .bool l.lost]] w fun e w' => e = .returned (.bool true) ∧ Ext w w' := by
 have hE : Ext w (w.alloc (.cells #[.string l.piece, .int .i64 l.no, .string l.singer, .int .i64 l.since, .int .i64 l.till, .bool l.lost] 148)) := (Ext.refl w).alloc _
 replace hE := Lib.hid hE
 go_enter Tryz.func80, Tryz.ntmps80
 go_wp2
 go_ret
 exact ⟨rfl, hE.out⟩
set_option maxRecDepth 100000 in
theorem hasCloD_any {w : World} {gS : Nat} {s : ByteArray} (hB : Blk w gS 9 #[.string s]) (l : LoanV) : Calls Tryz.prog 81 #[.agg #[.string l.piece, .int .i64 l.no, .string l.singer, .int .i64 l.since, .int .i64 l.till, .bool l.lost], .pointer (some ⟨gS, 0, none⟩)] w fun e w' => e = .returned (.bool (decide (l.singer = s))) ∧ Ext w w' := by
 have s0 := hB.cell 0
 have ls := hB.lt
 have hE : Ext w (w.alloc (.cells #[.string l.piece, .int .i64 l.no, .string l.singer, .int .i64 l.since, .int .i64 l.till, .bool l.lost] 148)) := (Ext.refl w).alloc _
 clear hB
 rw [← bytesT]
 replace hE := Lib.hid hE
 cases hq : (l.singer.toList == s.toList)
 all_goals
  go_enter Tryz.func81, Tryz.ntmps81
  go_wp2
  go_ret
  exact ⟨rfl, hE.out⟩
def OutD (T : List TitleV) (r : LendR) (d : List SlipV) (t : Int) (w : World) (e : Ending) (w' : World) : Prop := ∃ (v : Value) (M : List LentV), e = .returned v ∧ M.Perm (outL (libAt T r d t).1.loans) ∧ M.Pairwise entLt ∧ w'.ownsRow w.heap.size 65 4 v M.length (M.flatMap lentC) ∧ Ext w w'
def HasD (T : List TitleV) (r : LendR) (d : List SlipV) (t : Int) (s : ByteArray) (w : World) (e : Ending) (w' : World) : Prop := ∃ (v : Value) (M : List LentV), e = .returned v ∧ M.Perm (hasL (libAt T r d t).1.loans s) ∧ M.Pairwise entLt ∧ w'.ownsRow w.heap.size 65 4 v M.length (M.flatMap lentC) ∧ Ext w w'
set_option maxRecDepth 100000 in
set_option maxHeartbeats 3200000 in
theorem outDoc_any (tp : Option Addr) (tn tc : Nat) (T : List TitleV) (r : LendR) (dp : Option Addr) (dn dc : Nat) (d : List SlipV) (t : Int) (w : World) (h : ListsM w tp tn tc T r dp dn dc d) :
 Calls Tryz.prog 24 #[.slice tp tn tc, lendVal r, .slice dp dn dc, .int .i64 t] w (OutD T r d t w) := by
 have hsh := fun u hu => shelvedL h t u hu
 obtain ⟨L, hLe⟩ : ∃ L, L = (libAt T r d t).1 := ⟨_, rfl⟩
 have hN := libAt_N (T := T) (r := r) (t := t) (slipsF_right (libF_zero h.ok).2.2) h.ss
 have hI := libAt_I (T := T) (r := r) (t := t) (slipsF_right (libF_zero h.ok).2.2) h.ss
 rw [← hLe] at hN hI
 have hdl := h.sl.1.1
 have hdn := h.sn
 have hLl : L.loans.length ≤ 1000 := by have := hN.loans; omega
 have hdf := byL_diff hI (fun _ => true)
 have hE : Ext w (w.alloc (.cells #[.int .i64 r.days, .int .i64 r.late, .int .i64 r.most, .int .i64 r.each] 28)) := (Ext.refl w).alloc _
 have hres : ∀ (v : Value) (M : List LentV) (w' : World), M.Perm (byL (fun _ => true) L.loans) → M.Pairwise entLt → w'.ownsRow w.heap.size 65 4 v M.length (M.flatMap lentC) → Ext w w' → OutD T r d t w (.returned v) w' := fun v M w' h1 h2 h3 h4 => ⟨v, M, rfl, by rw [← hLe, ← byL_all]; exact h1, h2, h3, h4⟩
 unfold lendVal at hsh ⊢
 clear h hN hI hdl hdn; replace hsh := Lib.hid hsh; replace hLe := Lib.hid hLe; replace hE := Lib.hid hE; replace hdf := Lib.hid hdf; replace hres := Lib.hid hres
 go_enter Tryz.func24, Tryz.ntmps24
 go_wp2_with (first
  | (go_at_call 77; (with_reducible refine Calls.mono (hsh.out _ hE.out) ?_); rintro e w4 ⟨base, bb, ms, mr, q, nr, rfl, hSM, hb4⟩; rw [← hLe.out] at hSM; have hby := lentByOut_any hSM hLl (fun _ => true) hdf.out (fun v hv l => outClo_any v l); replace hby := Lib.hid hby; clear hSM)
  | (go_at_call 79; (with_reducible refine Calls.mono hby.out ?_); rintro e w5 ⟨v5, M, rfl, hMp, hMs, hMo, hMx⟩))
 have hr := hres.out v5 M w5 hMp hMs (own_low hMo (hE.out.trans hb4).size) ((hE.out.trans hb4).trans hMx)
 go_ret
 exact hr
set_option maxRecDepth 100000 in
set_option maxHeartbeats 3200000 in
theorem hasDoc_any (tp : Option Addr) (tn tc : Nat) (T : List TitleV) (r : LendR) (dp : Option Addr) (dn dc : Nat) (d : List SlipV) (s : ByteArray) (t : Int) (w : World) (h : ListsM w tp tn tc T r dp dn dc d) :
 Calls Tryz.prog 25 #[.slice tp tn tc, lendVal r, .slice dp dn dc, .string s, .int .i64 t] w (HasD T r d t s w) := by
 have hsh := fun u hu => shelvedL h t u hu
 obtain ⟨L, hLe⟩ : ∃ L, L = (libAt T r d t).1 := ⟨_, rfl⟩
 have hN := libAt_N (T := T) (r := r) (t := t) (slipsF_right (libF_zero h.ok).2.2) h.ss
 have hI := libAt_I (T := T) (r := r) (t := t) (slipsF_right (libF_zero h.ok).2.2) h.ss
 rw [← hLe] at hN hI
 have hdl := h.sl.1.1
 have hdn := h.sn
 have hLl : L.loans.length ≤ 1000 := by have := hN.loans; omega
 have hdf := byL_diff hI (fun l => decide (l.singer = s))
 have hE : Ext w ((w.alloc (.cells #[.int .i64 r.days, .int .i64 r.late, .int .i64 r.most, .int .i64 r.each] 28)).alloc (.cells #[.string s] 9)) := ((Ext.refl w).alloc _).alloc _
 have hSg : Blk ((w.alloc (.cells #[.int .i64 r.days, .int .i64 r.late, .int .i64 r.most, .int .i64 r.each] 28)).alloc (.cells #[.string s] 9)) (w.heap.size + 1) 9 #[.string s] := Blk.new' (by simp)
 replace hSg := Lib.hid hSg
 have hres : ∀ (v : Value) (M : List LentV) (w' : World), M.Perm (byL (fun l => decide (l.singer = s)) L.loans) → M.Pairwise entLt → w'.ownsRow w.heap.size 65 4 v M.length (M.flatMap lentC) → Ext w w' → HasD T r d t s w (.returned v) w' := fun v M w' h1 h2 h3 h4 => ⟨v, M, rfl, by rw [← hLe, ← byL_has]; exact h1, h2, h3, h4⟩
 unfold lendVal at hsh ⊢
 clear h hN hI hdl hdn; replace hsh := Lib.hid hsh; replace hLe := Lib.hid hLe; replace hE := Lib.hid hE; replace hdf := Lib.hid hdf; replace hres := Lib.hid hres
 go_enter Tryz.func25, Tryz.ntmps25
 go_wp2_with (first
  | (go_at_call 77; (with_reducible refine Calls.mono (hsh.out _ hE.out) ?_); rintro e w4 ⟨base, bb, ms, mr, q, nr, rfl, hSM, hb4⟩; rw [← hLe.out] at hSM; have hby := lentByHas_any hSM hLl (w.heap.size + 1) (fun l => decide (l.singer = s)) hdf.out (fun v hv l => hasCloD_any (hSg.out.ext ((hb4.trans hv))) l); replace hby := Lib.hid hby; clear hSM)
  | (go_at_call 79; (with_reducible refine Calls.mono hby.out ?_); rintro e w5 ⟨v5, M, rfl, hMp, hMs, hMo, hMx⟩))
 have hr := hres.out v5 M w5 hMp hMs (own_low hMo (hE.out.trans hb4).size) ((hE.out.trans hb4).trans hMx)
 go_ret
 exact hr
end Go.Proofs.YtkjhbofbcmelgaaGreatDoor
