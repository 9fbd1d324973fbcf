/- What is owed for a loan: the walks of due and owed. Conditions: sizes. Debts sorted, by both texts. Conditions: sizes. The kinds of maps that the property of copies that are out uses. Conditions: as each theorem says. -/
import Derived.Test.YtehboinleolihaaGreatDoorRzJ39
import Derived.Test.YtehboinleolihaaGreatDoorRzJ26
import Derived.Test.YtehboinleolihaaGreatDoorRzJ6
import Derived.Test.YtehboinleolihaaGreatDoorRzJ14
import Derived.Shelf.SlSortCmp.NoneTotal
import Derived.Shelf.SlSortCmp.InsertionK
set_option linter.unusedSimpArgs false
set_option linter.unusedVariables false
namespace Go.Proofs.YtehboinleolihaaGreatDoor
open Go Go.RowKit

set_option maxRecDepth 100000 in
theorem due_any (bb : Nat) (cs : Array Value) (r : LendR) (v : Int) (w : World) (hB : Blk w bb 145 cs) (h1 : cs[1]? = some (.int .i64 r.days)) (hr : LendOk r) (hv : 0 ≤ v ∧ v ≤ 345686399999) :
    Calls Tryz.prog 112 #[.pointer (some ⟨bb, 0, none⟩), .int .i64 v] w fun e w' => e = .returned (.int .i64 (dueF r v)) ∧ w = w' := by
  have hl := hB.lt
  have c1 := (hB.cell 1).trans h1
  obtain ⟨h2, h3⟩ := hr.days
  have hw1 : IntKind.i64.wrap (r.days * 86400000) = r.days * 86400000 := IntWalk.i64_in _ (by omega)
  have hw2 : IntKind.i64.wrap (v + r.days * 86400000) = v + r.days * 86400000 := IntWalk.i64_in _ (by omega)
  replace hr := Lib.hid hr
  replace hB := Lib.hid hB
  go_enter Tryz.func112, Tryz.ntmps112
  go_wp2
  go_ret
  exact ⟨rfl, rfl⟩
set_option maxRecDepth 100000 in
set_option maxHeartbeats 1600000 in
theorem owed_any (bb : Nat) (cs : Array Value) (tp : Option Addr) (tn tc : Nat) (T : List TitleV) (r : LendR) (t : Int) (l : LoanV) (w : World) (hB : Blk w bb 145 cs) (h0 : cs[0]? = some (.slice tp tn tc)) (h1 : cs[1]? = some (.int .i64 r.days)) (h2 : cs[2]? = some (.int .i64 r.late)) (h3 : cs[3]? = some (.int .i64 r.most))
    (hT : Slc 3 titleC w tp tn tc T) (hTo : TitlesOk T) (hr : LendOk r) (ht : 0 ≤ t ∧ t ≤ 345686399999) (hl : LoanT l) :
    Calls Tryz.prog 104 #[.pointer (some ⟨bb, 0, none⟩), .agg (loanC l).toArray, .int .i64 t] w fun e w' => e = .returned (.int .i64 (owedF T r t l)) ∧ Ext w w' := by
  obtain ⟨tl, htl⟩ : ∃ tl, tl = if l.till < 0 then t else l.till := ⟨_, rfl⟩
  have hov : overF r t l = tl - dueF r l.since := by rw [htl]; rfl
  have hob := over_bound hr ht hl
  have hlb := late_bound hr hob.2
  have hcb := cost_bound hTo l.piece
  have hres : owedF T r t l = lateF r (overF r t l) + if l.lost then costF T l.piece else 0 := rfl
  rw [hres]
  have hdu := fun u (hu : Ext w u) => due_any bb cs r l.since u (hB.ext hu) h1 hr hl.1
  have htt := fun u (hu : Ext w u) => title_any bb cs tp tn tc T l.piece u (hB.ext hu) h0 (hT.ext hu) hTo
  have hco : ((titleOf T l.piece).getD ⟨⟨#[]⟩, 0, 0⟩).cost = costF T l.piece := rfl
  have hcell : ∀ u, Ext w u → u.cell? ⟨bb, 2, none⟩ = some (.int .i64 r.late) ∧ u.cell? ⟨bb, 3, none⟩ = some (.int .i64 r.most) := fun u hu => ⟨((hB.ext hu).cell 2).trans h2, ((hB.ext hu).cell 3).trans h3⟩
  have hla : ∀ o, lateF r o = if 0 < o then min ((o + 86399999) / 86400000 * r.late) r.most else 0 := fun o => rfl
  have hlt := hr.late
  have hmo := hr.most
  have hbl := hB.lt
  have hX := Blk.new' (w := w) (g := w.heap.size) (t := 147) (cs := (loanC l).toArray) rfl
  have hE : Ext w (w.alloc (.cells (loanC l).toArray 147)) := (Ext.refl w).alloc _
  have ht1 := hl.2.1
  generalize hov2 : overF r t l = o at *
  generalize dueF r l.since = du at *
  have hwo : IntKind.i64.wrap (tl - du) = o := by rw [← hov]; exact IntWalk.i64_in _ (by omega)
  unfold titleVal at htt
  rw [hco] at htt
  generalize costF T l.piece = co at *
  generalize ((titleOf T l.piece).getD ⟨⟨#[]⟩, 0, 0⟩).piece = tpi at *
  generalize ((titleOf T l.piece).getD ⟨⟨#[]⟩, 0, 0⟩).owned = tow at *
  generalize (titleOf T l.piece).isSome = tis at *
  unfold loanC at hX hE ⊢
  generalize l.lost = lo at *
  obtain ⟨la, hle⟩ : ∃ la, la = lateF r o := ⟨_, rfl⟩
  rw [← hle] at hlb
  replace hle := Lib.hid hle
  clear hr hl hres hco hT hTo hB h0 h1 h2 h3 hov hov2
  replace hdu := Lib.hid hdu
  replace htt := Lib.hid htt
  replace hcell := Lib.hid hcell
  replace hE := Lib.hid hE
  replace hla := Lib.hid hla
  replace htl := Lib.hid htl
  replace hlt := Lib.hid hlt
  replace hmo := Lib.hid hmo
  replace hwo := Lib.hid hwo
  replace hlb := Lib.hid hlb
  replace hcb := Lib.hid hcb
  replace hob := Lib.hid hob
  go_enter Tryz.func104, Tryz.ntmps104
  go_upto_region 1 with fail
  have lx := hX.lt
  have x0 := hX.cell 0
  have x2 := hX.cell 2
  have x3 := hX.cell 3
  have x4 := hX.cell 4
  generalize hgl : w.heap.size = gl at *
  generalize (w.alloc (.cells #[.string l.piece, .int .i64 l.no, .string l.singer, .int .i64 l.since, .int .i64 l.till, .bool lo] 147)) = W1 at *
  replace hgl := Lib.hid hgl
  go_upto_if 16 with fail
  go_cut [7] (fun v7 w' => v7 = .int .i64 tl ∧ w' = W1)
  case first =>
    by_cases hneg : l.till < 0
    · have e := htl.out
      rw [if_pos hneg] at e
      go_wp2
      go_meet
      exact ⟨by rw [e], rfl⟩
    · have e := htl.out
      rw [if_neg hneg] at e
      go_wp2
      go_meet
      exact ⟨by rw [e], rfl⟩
  case rest =>
    obtain ⟨rfl, hwc⟩ := hcut
    subst hwc
    obtain ⟨W1, rfl⟩ : ∃ w9, w9 = wc := ⟨_, rfl⟩
    have hwo2 := hwo.out
    go_upto_if 25 with (go_at_call 112; (with_reducible refine Calls.mono (hdu.out _ hE.out) ?_); rintro e w2 ⟨rfl, rfl⟩)
    clear hwo2
    go_cut [8] (fun v8 w' => v8 = .int .i64 la ∧ Ext W1 w')
    case first =>
      by_cases hpos : 0 < o
      · have hq0 := days_bound hpos hob.out.2
        have hqq : Int.tdiv (o + 86399999) 86400000 = (o + 86399999) / 86400000 := Int.tdiv_eq_ediv_of_nonneg (by omega)
        have hw1 : IntKind.i64.wrap (o + 86400000) = o + 86400000 := IntWalk.i64_in _ (by have := hob.out; omega)
        have hw2 : IntKind.i64.wrap (o + 86400000 - 1) = o + 86399999 := by rw [show o + 86400000 - 1 = o + 86399999 by omega]; exact IntWalk.i64_in _ (by have := hob.out; omega)
        have hml := hla.out o
        rw [if_pos hpos] at hml
        generalize (o + 86399999) / 86400000 = qd at *
        have hwq : IntKind.i64.wrap qd = qd := IntWalk.i64_in _ (by omega)
        have hmb := mul_bound hq0 hlt.out
        have hwm : IntKind.i64.wrap (qd * r.late) = qd * r.late := IntWalk.i64_in _ (by omega)
        replace hml := Lib.hid hml
        replace hmb := Lib.hid hmb
        replace hq0 := Lib.hid hq0
        go_upto_region 8 with fail
        have hm1 : (if r.most < qd * r.late then r.most else qd * r.late) = la := by rw [hle.out, hml.out]; split <;> omega
        have hm2 : min (qd * r.late) r.most = la := by rw [hle.out, hml.out]
        have hm3 : (if qd * r.late ≤ r.most then qd * r.late else r.most) = la := by rw [hle.out, hml.out]; split <;> omega
        refine wp_region_planS [(0, true), (1, true), (2, true), (3, true), (4, true), (5, true), (6, true), (7, true), (8, true), (9, true), (10, true), (11, true), (12, true)] 13 (fun w' => Ext W1 w' ∧ Ext W1 w') Ext (by kernel_rfl) (by kernel_rfl) Ext.refl (fun _ _ _ => Ext.trans) (fun _ _ h he => ⟨h.1.trans he, h.2.trans he⟩) ⟨(by (repeat (with_reducible first | assumption | exact Blk.new' (by simp) | refine Blk.drew ?_ | refine Blk.alloc ?_ _ | exact Ext.refl _ | refine Ext.drew ?_ | refine Ext.alloc ?_ _))), (by (repeat (with_reducible first | assumption | exact Blk.new' (by simp) | refine Blk.drew ?_ | refine Blk.alloc ?_ _ | exact Ext.refl _ | refine Ext.drew ?_ | refine Ext.alloc ?_ _)))⟩ ?_
        repeat
          first
            | (refine plan_quiet rfl rfl (fun _ _ _ _ h => h) ?_
               apply Exists.intro
               refine ⟨fun w' hw' => ?_, ?_⟩
               · obtain ⟨hHq0, hHq1⟩ := hw'
                 have v2 := (hcell.out _ (hE.out.trans hHq0)).1; have v3 := (hcell.out _ (hE.out.trans hHq0)).2
                 skip
                 simp [go_sem, quietTo, Ext.refl, ↓IntWalk.iteOmega, v2, v3, hwm, hm1, hm2, hm3]
                 first
                   | rfl
               simp only [Act.put, List.setIfInBounds_toArray, List.set_cons_succ, List.set_cons_zero])
            | (refine plan_skip rfl rfl (fun _ _ _ _ h => h) ?_
               simp only [Act.put, List.setIfInBounds_toArray, List.set_cons_succ, List.set_cons_zero])
        refine plan_nil fun wrq herq hwrq => ?_
        clear herq
        obtain ⟨hHq0, hHq1⟩ := hwrq

        simp only [List.drop_succ_cons, List.drop_zero, List.drop_nil]
        go_wp2
        go_meet
        exact ⟨rfl, hHq0⟩
      · have hml := hla.out o
        rw [if_neg hpos] at hml
        replace hml := Lib.hid hml
        go_wp2
        go_meet
        exact ⟨by rw [hle.out, hml.out], Ext.refl _⟩
    case rest =>
      obtain ⟨rfl, he⟩ := hcut
      have lw := he.size
      have hX2 := hX.ext he
      have y0 := hX2.cell 0
      have y4 := hX2.cell 5
      have hlb2 := hlb.out
      have hwl : IntKind.i64.wrap (la + co) = la + co := IntWalk.i64_in _ (by have := hcb.out; omega)
      clear hla hX hX2 x0 x2 x3 x4
      cases lo
      · go_wp2
        go_ret
        exact ⟨by simp [hle.out], hE.out.trans he⟩
      · go_wp2_with (go_at_call 132; (with_reducible refine Calls.mono (htt.out _ (hE.out.trans he)) ?_); rintro e w3 ⟨rfl, hb3⟩)
        go_ret
        exact ⟨by simp [hle.out], ((hE.out.trans he).trans hb3).alloc _⟩
end Go.Proofs.YtehboinleolihaaGreatDoor

namespace Go.Proofs.YtehboinleolihaaGreatDoor
open Go Go.RowKit Go.Sort

def debtC (x : DebtV) : List Value := [.string x.1, .int .i64 x.2]
theorem debtC_len (x : DebtV) : (debtC x).length = 2 := rfl
theorem debtC_one (x : DebtV) : ∀ u ∈ debtC x, u.oneCell' = true := by simp [debtC, Value.oneCell']
def debtN (x : DebtV) : Int := -x.2
theorem cmpZ_negD (x y : Int) : cmpZ (-x) (-y) = cmpZ y x := by unfold cmpZ; split <;> split <;> (try split) <;> (try split) <;> omega
theorem debtLt_K (a b : DebtV) : LtK debtN Prod.fst a b ↔ debtLt a b := by unfold LtK debtN debtLt; constructor <;> rintro (h | ⟨h, k⟩) <;> first | exact .inl (by omega) | exact .inr ⟨by omega, k⟩

set_option maxRecDepth 100000 in
set_option maxHeartbeats 1600000 in
theorem debtG_any (a b : DebtV) (w : World) :
    Calls Tryz.prog 106 #[.agg #[.string a.1, .int .i64 a.2], .agg #[.string b.1, .int .i64 b.2]] w fun e w' => e = .returned (.int .i64 (cmpK debtN Prod.fst a b)) ∧ ∃ q os', w' = grow (w.drewN q) os' := by
  have hF : cmpK debtN Prod.fst a b = orF [cmpZ b.2 a.2, cmpS a.1 b.1] := by unfold cmpK debtN; rw [cmpZ_negD]
  rw [hF]
  clear hF
  have hX : Blk ((w.alloc (.cells #[.string a.1, .int .i64 a.2] 170)).alloc (.cells #[.string b.1, .int .i64 b.2] 170)) w.heap.size 170 #[.string a.1, .int .i64 a.2] := (Blk.new' rfl).alloc _
  have hY : Blk ((w.alloc (.cells #[.string a.1, .int .i64 a.2] 170)).alloc (.cells #[.string b.1, .int .i64 b.2] 170)) (w.heap.size + 1) 170 #[.string b.1, .int .i64 b.2] := Blk.new' (by simp)
  go_enter Tryz.func106, Tryz.ntmps106
  go_upto_region 1 with fail
  refine wp_region_planS [(0, true), (1, true), (2, true), (3, true), (4, true), (5, true), (6, true), (7, true), (8, true), (9, true)] 10 (fun w' => Blk w' w.heap.size 170 #[.string a.1, .int .i64 a.2] ∧ Blk w' (w.heap.size + 1) 170 #[.string b.1, .int .i64 b.2]) Drw (by kernel_rfl) (by kernel_rfl) Drw.refl (fun _ _ _ => Drw.trans) (fun _ _ h he => ⟨h.1.drw he, h.2.drw he⟩) ⟨(by (repeat (with_reducible first | assumption | exact Blk.new' (by simp) | refine Blk.drew ?_ | refine Blk.alloc ?_ _ | exact Drw.refl _ | refine Ext.drew ?_ | refine Ext.alloc ?_ _))), (by (repeat (with_reducible first | assumption | exact Blk.new' (by simp) | refine Blk.drew ?_ | refine Blk.alloc ?_ _ | exact Drw.refl _ | refine Ext.drew ?_ | refine Ext.alloc ?_ _)))⟩ ?_
  repeat
    first
      | (refine plan_quiet rfl rfl (fun _ _ _ _ h => h) ?_
         apply Exists.intro
         refine ⟨fun w' hw' => ?_, ?_⟩
         · obtain ⟨hH0, hH1⟩ := hw'
           unfold Blk at hH0 hH1
           simp [go_sem, quietTo, World.cell?, hH0, hH1, Drw.refl, ↓IntWalk.iteOmega]
           first
             | rfl
             | (exact cmpIntE_any _ _ _)
             | (exact cmpSE_any _ _ _)
         simp only [Act.put, List.setIfInBounds_toArray, List.set_cons_succ, List.set_cons_zero])
      | (refine plan_skip rfl rfl (fun _ _ _ _ h => h) ?_
         simp only [Act.put, List.setIfInBounds_toArray, List.set_cons_succ, List.set_cons_zero])
  refine plan_nil fun wr her hwr => ?_
  obtain ⟨hH0, hH1⟩ := hwr
  obtain ⟨hC0, hF0⟩ := hH0.walk
  obtain ⟨hC1, hF1⟩ := hH1.walk
  simp only [List.drop_succ_cons, List.drop_zero, List.drop_nil]
  go_wp2_with (go_at_call 107; refine (orInt_blk _ _ 2 [cmpZ b.2 a.2, cmpS a.1 b.1] _ (by simp) (Blk.new' rfl)).mono ?_; rintro e w2 ⟨rfl, rfl⟩)
  go_ret
  refine ⟨rfl, ?_⟩
  obtain ⟨q, rfl⟩ := her
  exact ⟨q + 1, _, grow_three _ _ _ _ _⟩
set_option maxRecDepth 100000 in
theorem sortDebt_any {w : World} {base g n cap : Nat} {L : List DebtV} (h : w.ownsRow base 170 2 (.slice (some ⟨g, 0, none⟩) n cap) n (L.flatMap debtC)) (hn : L.length = n) (hn1 : n ≤ 1000) (hok : L.Pairwise fun a b => a.1 ≠ b.1) :
    Calls Tryz.prog 105 #[.slice (some ⟨g, 0, none⟩) n cap, .func (.func 106) #[] #[]] w fun e w' => e = .returned (.tuple #[]) ∧ ∃ M : List DebtV, ByK debtN Prod.fst L M ∧ w'.ownsRow base 170 2 (.slice (some ⟨g, 0, none⟩) n cap) n (M.flatMap debtC) ∧ ∀ a : World, Ext a w → a.heap.size ≤ g → Ext a w' := by
  have hgl := (h.lt g rfl).2
  subst hn
  have hs := AnyQ.slices_SortFunc Tryz.lsfDebt 2 Tryz.isAgg170 Tryz.sizeOf170 debtC debtC_len debtC_one (cmpK debtN Prod.fst) (k_swo _ _) 106 #[] g 0 cap L.toArray w (fun args u => by rfl) (fun m os dk _ x y => debtG_any x y _) (holdsK_own debtC_len h) hgl (by simp; omega)
  refine hs.mono fun e w' ⟨he, d', q, os, hp, hso, hw⟩ => ?_
  have hby : ByK debtN Prod.fst L d'.toList := byK_of _ _ hok (by simpa using hp) (by simpa using hso)
  refine ⟨he, d'.toList, hby, ?_, ?_⟩
  · rw [hw]
    exact own_sortK debtC_len h hby.1.length_eq
  · intro a ha hg
    rw [hw]
    exact ext_sortK ha hg
theorem sortDebtNone_any (p : Option Addr) (cap : Nat) (fv : Value) (w : World) :
    Calls Tryz.prog 105 #[.slice p 0 cap, fv] w fun e w' => e = .returned (.tuple #[]) ∧ w = w' := (AnyF.slices_SortFunc_none Tryz.lsfDebt _ _ _ _).mono (fun _ _ h => And.intro h.1 h.2.symm)
theorem sortDebtAll_any {w : World} {base : Nat} {v : Value} {L : List DebtV} (h : w.ownsRow base 170 2 v L.length (L.flatMap debtC)) (hn1 : L.length ≤ 1000) (hok : L.Pairwise fun a b => a.1 ≠ b.1) :
    Calls Tryz.prog 105 #[v, .func (.func 106) #[] #[]] w fun e w' => e = .returned (.tuple #[]) ∧ ∃ M : List DebtV, ByK debtN Prod.fst L M ∧ w'.ownsRow base 170 2 v M.length (M.flatMap debtC) ∧ ∀ a : World, Ext a w → a.heap.size ≤ base → Ext a w' := by
  by_cases h0 : L.length = 0
  · obtain ⟨q, d, rfl, -⟩ := slc_of_own debtC_len h (by decide) (by omega)
    obtain rfl : L = [] := List.eq_nil_of_length_eq_zero h0
    refine (sortDebtNone_any q d _ w).mono fun e w' hh => ?_
    obtain ⟨rfl, rfl⟩ := hh
    exact ⟨rfl, [], ⟨List.Perm.refl _, List.Pairwise.nil⟩, h, fun a ha _ => ha⟩
  · obtain ⟨g, d, rfl, hg, hgl⟩ := h.form (by omega)
    refine (sortDebt_any h rfl (by omega) hok).mono fun e w' hh => ?_
    obtain ⟨rfl, M, hM, ho, hx⟩ := hh
    have hl := hM.1.length_eq
    exact ⟨rfl, M, hM, by rw [hl]; exact ho, fun a ha hb => hx a ha (by omega)⟩
end Go.Proofs.YtehboinleolihaaGreatDoor

namespace Go.Proofs.YtehboinleolihaaGreatDoor
open Go Go.RowKit Go.Maps Go.WideMaps

abbrev SpV := ByteArray × ByteArray
def strN : KMap Tryz.prog ByteArray Int where
  kt := 9
  mt := 167
  vt := 3
  kv := fun p => .string p
  ok := fun p => p.size ≤ 1000000
  val := fun v => .int .i64 v
  dat := fun v => .lit (.int .i64 v)
  rd := intRd
  zero := 0
  keyed := string_keyed Tryz.underlying9
  key := str_keyL
  inj := fun a b _ _ e => by cases e; rfl
  rd_mk := fun _ => rfl
  rd_inv := fun u v ps h => by
    unfold intRd at h
    split at h
    · simp only [Option.some.injEq, Prod.mk.injEq, DataW.lit.injEq, Lit.int.injEq, true_and] at h
      rw [h.1]
    · cases h
  und := Tryz.underlying167
  zer := fun w => Tryz.zeroValue3 w
instance memDecP (a : SpV) (l : List SpV) : Decidable (a ∈ l) := decidable_of_iff ((l.any fun z => decide (z = a)) = true) (by simp)
end Go.Proofs.YtehboinleolihaaGreatDoor
