/- The copies that are out: the walks of lent and of Out. Conditions: sizes; at most 19 slips. -/
import Derived.Test.YtehboinleolihaaGreatDoorZkMgC
import Derived.Test.YtehboinleolihaaGreatDoorZkJ42
set_option linter.unusedSimpArgs false
set_option linter.unusedVariables false
namespace Go.Proofs.YtehboinleolihaaGreatDoor
open Go Go.RowKit Go.Maps Go.Sort
structure LentV where
 piece : ByteArray
 no : Int
 singer : ByteArray
 since : Int
instance : Inhabited LentV := ⟨⟨⟨#[]⟩, 0, ⟨#[]⟩, 0⟩⟩
def lentC (x : LentV) : List Value := [.string x.piece, .int .i64 x.no, .string x.singer, .int .i64 x.since]
theorem lentC_len (x : LentV) : (lentC x).length = 4 := rfl
theorem lentC_one (x : LentV) : ∀ u ∈ lentC x, u.oneCell' = true := by simp [lentC, Value.oneCell']
theorem lentInfo : (Tryz.prog.info? 65).map (fun i => (i.zero, i.size, i.bytes)) = some (some (.agg #[.string ⟨#[]⟩, .int .i64 0, .string ⟨#[]⟩, .int .i64 0]), 4,48) := by kernel_rfl
/-- A copy that is out, as a slip with its piece for a name: so what is known of the order of slips holds of copies. -/
def tsV (x : LentV) : SlipV := ⟨x.piece, x.no, 0,0, ⟨#[]⟩, 0, ⟨#[]⟩⟩
def entO (a b : LentV) : Int := sliO (tsV a) (tsV b)
def entLt (a b : LentV) : Prop := sliLt (tsV a) (tsV b)
theorem ent_swo : SWO (ltOf entO) := ⟨fun x => sli_swo.irrefl (tsV x), fun x y z => sli_swo.trans (tsV x) (tsV y) (tsV z), fun x y z => sli_swo.ntrans (tsV x) (tsV y) (tsV z)⟩
theorem sortL_of {P : List LentV} (hdis : P.Pairwise fun a b => ¬ (a.piece = b.piece ∧ a.no = b.no)) {d : Array LentV} (hp : PermIn 0 P.length P.toArray d) (hs : SortedIn (ltOf entO) 0 P.length d) : d.toList.Perm P ∧ d.toList.Pairwise entLt := by
 have hsz : d.size = P.length := by have := hp.1; simpa using this
 have hperm : d.toList.Perm P := by
  have h9 := hp.2.2
  have e2 : d.extract 0 P.length = d := by simp [← hsz]
  rw [e2] at h9
  simpa using h9
 refine ⟨hperm, ?_⟩
 have hdd := (hperm.pairwise_iff fun {a b} (h : ¬ (a.piece = b.piece ∧ a.no = b.no)) => (fun k => h ⟨k.1.symm, k.2.symm⟩ : ¬ (b.piece = a.piece ∧ b.no = a.no))).2 hdis
 rw [List.pairwise_iff_getElem] at hdd ⊢
 intro i j hi hj hij
 have h1 := hdd i j hi hj hij
 have h9 := hs i j (Nat.zero_le _) hij (by simp at hj; omega)
 simp at hi hj
 rw [getElem!_pos d j hj, getElem!_pos d i hi] at h9
 have h8 : ltOf sliO (tsV d[j]) (tsV d[i]) = false := h9
 rw [← Bool.not_eq_true, ltS_iff] at h8
 rcases sliLt_tri (tsV d[i]) (tsV d[j]) with h | h | h
 ·exact h
 ·exact absurd h h8
 ·exact absurd h h1
set_option maxRecDepth 100000 in
set_option maxHeartbeats 1600000 in
theorem idsG_any (a b : ByteArray) (i j : Int) (w : World) :
 Calls Tryz.prog 178 #[.agg #[.string a, .int .i64 i], .agg #[.string b, .int .i64 j]] w fun e w' => e = .returned (.int .i64 (orF [cmpS a b, cmpZ i j])) ∧ ∃ q os', w' = grow (w.drewN q) os' := by
 have hX : Blk ((w.alloc (.cells #[.string a, .int .i64 i] 135)).alloc (.cells #[.string b, .int .i64 j] 135)) w.heap.size 135 #[.string a, .int .i64 i] := (Blk.new' rfl).alloc _
 have hY : Blk ((w.alloc (.cells #[.string a, .int .i64 i] 135)).alloc (.cells #[.string b, .int .i64 j] 135)) (w.heap.size + 1) 135 #[.string b, .int .i64 j] := Blk.new' (by simp)
 go_enter Tryz.func178, Tryz.ntmps178
 go_upto_region 1 with fail
 refine wp_region_planS [(0, true), (1, true), (2, true), (3, true), (4, true), (5, true), (6, true), (7, true), (8, true), (9, true)] 10 (fun w' => Blk w' w.heap.size 135 #[.string a, .int .i64 i] ∧ Blk w' (w.heap.size + 1) 135 #[.string b, .int .i64 j]) Drw (by kernel_rfl) (by kernel_rfl) Drw.refl (fun _ _ _ => Drw.trans) (fun _ _ h he => ⟨h.1.drw he, h.2.drw he⟩) ⟨(by (repeat (with_reducible first | assumption | exact Blk.new' (by simp) | refine Blk.drew ?_ | refine Blk.alloc ?_ _ | exact Drw.refl _ | refine Ext.drew ?_ | refine Ext.alloc ?_ _))), (by (repeat (with_reducible first | assumption | exact Blk.new' (by simp) | refine Blk.drew ?_ | refine Blk.alloc ?_ _ | exact Drw.refl _ | refine Ext.drew ?_ | refine Ext.alloc ?_ _)))⟩ ?_
 repeat
  first
   | (refine plan_quiet rfl rfl (fun _ _ _ _ h => h) ?_
      apply Exists.intro
      refine ⟨fun w' hw' => ?_, ?_⟩
      ·obtain ⟨hH0, hH1⟩ := hw'
       unfold Blk at hH0 hH1
       simp [go_sem, quietTo, World.cell?, hH0, hH1, Drw.refl, ↓IntWalk.iteOmega]
       first
        | rfl
        | (exact cmpSE_any _ _ _)
        | (exact cmpIntE_any _ _ _)
      simp only [Act.put, sIA, sCS, sCZ])
   | (refine plan_skip rfl rfl (fun _ _ _ _ h => h) ?_
      simp only [Act.put, sIA, sCS, sCZ])
 refine plan_nil fun wr her hwr => ?_
 obtain ⟨hH0, hH1⟩ := hwr
 obtain ⟨hC0, hF0⟩ := hH0.walk
 obtain ⟨hC1, hF1⟩ := hH1.walk
 simp only [List.drop_succ_cons, List.drop_zero, List.drop_nil]
 go_wp2_with (go_at_call 107; refine (orInt_blk _ _ 2 [cmpS a b, cmpZ i j] _ (by simp) (Blk.new' rfl)).mono ?_; rintro e w2 ⟨rfl, rfl⟩)
 go_ret
 refine ⟨rfl, ?_⟩
 obtain ⟨q, rfl⟩ := her
 exact ⟨q + 1, _, grow_three _ _ _ _ _⟩
theorem grow_more (w : World) (q : Nat) (A B : Obj) (os : Array Obj) : grow (((w.alloc A).alloc B).drewN q) os = grow (w.drewN q) (#[A, B] ++ os) := by
 rw [grow_two]
 simp [grow]
set_option maxRecDepth 100000 in
set_option maxHeartbeats 1600000 in
theorem entG_any (a b : LentV) (w : World) :
 Calls Tryz.prog 177 #[.agg #[.string a.piece, .int .i64 a.no, .string a.singer, .int .i64 a.since], .agg #[.string b.piece, .int .i64 b.no, .string b.singer, .int .i64 b.since]] w fun e w' => e = .returned (.int .i64 (entO a b)) ∧ ∃ q os', w' = grow (w.drewN q) os' := by
 have hF : entO a b = orF [cmpS a.piece b.piece, cmpZ a.no b.no] := rfl
 rw [hF]
 have hc := idsG_any a.piece b.piece a.no b.no ((w.alloc (.cells #[.string a.piece, .int .i64 a.no, .string a.singer, .int .i64 a.since] 65)).alloc (.cells #[.string b.piece, .int .i64 b.no, .string b.singer, .int .i64 b.since] 65))
 generalize orF [cmpS a.piece b.piece, cmpZ a.no b.no] = f at *
 clear hF; replace hc := Lib.hid hc
 go_enter Tryz.func177, Tryz.ntmps177
 go_wp2_with (go_at_call 178; (with_reducible refine Calls.mono hc.out ?_); rintro e w1 ⟨rfl, q, os, rfl⟩)
 go_ret
 exact ⟨rfl, q, _, grow_more w q _ _ os⟩
set_option maxRecDepth 100000 in
theorem sortLent_any {w : World} {base g n cap : Nat} {L : List LentV} (h : w.ownsRow base 65 4 (.slice (some ⟨g, 0, none⟩) n cap) n (L.flatMap lentC)) (hn : L.length = n) (hn1 : n ≤ 100000) (hok : L.Pairwise fun a b => ¬ (a.piece = b.piece ∧ a.no = b.no)) :
 Calls Tryz.prog 176 #[.slice (some ⟨g, 0, none⟩) n cap, .func (.func 177) #[] #[]] w fun e w' => e = .returned (.tuple #[]) ∧ ∃ M : List LentV, M.Perm L ∧ M.Pairwise entLt ∧ w'.ownsRow base 65 4 (.slice (some ⟨g, 0, none⟩) n cap) n (M.flatMap lentC) ∧ ∀ a : World, Ext a w → a.heap.size ≤ g → Ext a w' := by
 have hgl := (h.lt g rfl).2
 subst hn
 have hs := AnyQ.slices_SortFunc Tryz.lsfLent 4 Tryz.isAgg65 Tryz.sizeOf65 lentC lentC_len lentC_one entO ent_swo 177 #[] g 0 cap L.toArray w (fun args u => by rfl) (fun m os dk _ x y => entG_any x y _) (holdsK_own lentC_len h) hgl (by simp; omega)
 refine hs.mono fun e w' ⟨he, d', q, os, hp, hso, hw⟩ => ?_
 obtain ⟨hpm, hri⟩ := sortL_of hok (by simpa using hp) (by simpa using hso)
 refine ⟨he, d'.toList, hpm, hri, ?_, ?_⟩
 ·rw [hw]
  exact own_sortK lentC_len h hpm.length_eq
 ·intro a ha hg
  rw [hw]
  exact ext_sortK ha hg
theorem sortNoneL_any (p : Option Addr) (cap : Nat) (fv : Value) (w : World) :
 Calls Tryz.prog 176 #[.slice p 0 cap, fv] w fun e w' => e = .returned (.tuple #[]) ∧ w = w' := (AnyF.slices_SortFunc_none Tryz.lsfLent _ _ _ _).mono (fun _ _ h => And.intro h.1 h.2.symm)
/-- The loans that are not ended. -/
def toL (l : LoanV) : LentV := ⟨l.piece, l.no, l.singer, l.since⟩
def outL (X : List LoanV) : List LentV := (X.filter fun l => decide l.Open).map toL
theorem outL_snoc (X : List LoanV) (l : LoanV) : outL (X ++ [l]) = outL X ++ if l.Open then [toL l] else [] := by
 unfold outL
 rw [List.filter_append, List.map_append]
 by_cases h : l.Open <;> simp [h]
theorem outL_len (X : List LoanV) : (outL X).length ≤ X.length := by
 unfold outL
 rw [List.length_map]
 exact List.length_filter_le _ _
theorem out_diff {each t : Int} {L : LibS} (h : LibI each t L) : (outL L.loans).Pairwise fun a b => ¬ (a.piece = b.piece ∧ a.no = b.no) := by
 unfold outL
 rw [List.pairwise_map, List.pairwise_filter, List.pairwise_iff_getElem]
 intro i j hi hj hij ho1 ho2 he
 have ho1 : L.loans[i].Open := by simpa using ho1
 have ho2 : L.loans[j].Open := by simpa using ho2
 have h1 := (h.open_ i _ (List.getElem?_eq_getElem hi) ho1).2
 have h2 := (h.open_ j _ (List.getElem?_eq_getElem hj) ho2).2
 have e : idL L.loans[i] = idL L.loans[j] := Prod.ext he.1 he.2
 rw [e, h2] at h1
 have := Option.some.inj h1
 omega
def LentR (X : List LoanV) (w : World) (e : Ending) (w' : World) : Prop := ∃ (v : Value) (M : List LentV), e = .returned v ∧ M.Perm (outL X) ∧ M.Pairwise entLt ∧ w'.ownsRow w.heap.size 65 4 v M.length (M.flatMap lentC) ∧ Ext w w'
set_option maxRecDepth 100000 in
set_option maxHeartbeats 3200000 in
theorem lent_any {base : Nat} {w : World} {bb ms ml mh q : Nat} {tp : Option Addr} {tn tc : Nat} {r : LendR} {L : LibS} (h : LibM base w bb ms ml mh q tp tn tc r L) (hl : L.loans.length ≤ 1000) (hdf : (outL L.loans).Pairwise fun a b => ¬ (a.piece = b.piece ∧ a.no = b.no)) :
 Calls Tryz.prog 90 #[.pointer (some ⟨bb, 0, none⟩)] w (LentR L.loans w) := by
 obtain ⟨⟨lv, hB, ho⟩, -⟩ := h
 obtain ⟨lp, lc, rfl, hS⟩ := slc_of_own loanC_len ho (by decide) (by omega)
 have c7 := hB.cell 7
 have lb := hB.lt
 unfold libC at c7
 generalize L.loans = X at *
 clear hB ho; replace hS := Lib.hid hS; replace hdf := Lib.hid hdf
 go_enter Tryz.func90, Tryz.ntmps90
 go_wp2
 go_loopw [3,11] (fun v3 v11 wr => ∃ (k : Nat) (v : Value), v11 = .int .i64 k ∧ v = v3 ∧ k ≤ X.length ∧ wr.ownsRow w.heap.size 65 4 v (outL (X.take k)).length ((outL (X.take k)).flatMap lentC) ∧ Ext w wr) (fun _ v11 _ => X.length - (intOf v11).toNat)
 case atStart => exact ⟨0, _, rfl, rfl, Nat.zero_le _, World.ownsRow_nil _ _ _ _, Ext.refl _⟩
 case round =>
  obtain ⟨k, v, rfl, rfl, hk, hown, he⟩ := hrel
  by_cases hlt : k < X.length
  ·obtain ⟨l, hx⟩ := getD_some (rfl : X.length = X.length) hlt
   obtain ⟨b, off, rfl, hb, hE⟩ := hS.out.1.2.2 (by omega)
   have hEr := hE.ext he hb
   have d0 : wr.cell? ⟨b, off + k * 6, none⟩ = some (.string l.piece) := hEr k _ hx 0 _ rfl
   have d1 : wr.cell? ⟨b, off + k * 6 + 1, none⟩ = some (.int .i64 l.no) := hEr k _ hx 1 _ rfl
   have d2 : wr.cell? ⟨b, off + k * 6 + 2, none⟩ = some (.string l.singer) := hEr k _ hx 2 _ rfl
   have d3 : wr.cell? ⟨b, off + k * 6 + 3, none⟩ = some (.int .i64 l.since) := hEr k _ hx 3 _ rfl
   have d4 : wr.cell? ⟨b, off + k * 6 + 4, none⟩ = some (.int .i64 l.till) := hEr k _ hx 4 _ rfl
   have d5 : wr.cell? ⟨b, off + k * 6 + 5, none⟩ = some (.bool l.lost) := hEr k _ hx 5 _ rfl
   have hkI : (k : Int) < (X.length : Int) := by omega
   have hsn := outL_snoc (X.take k) l
   rw [← take_snocL hx] at hsn
   have hol : (outL (X.take k)).length ≤ 1000 := Nat.le_trans (outL_len _) (by rw [List.length_take]; omega)
   have hsz := he.size
   replace hx := Lib.hid hx; replace hE := Lib.hid hE; clear hEr
   by_cases hop : l.till < 0
   ·rw [if_pos (show l.Open from hop)] at hsn
    replace hsn := Lib.hid hsn
    go_wp2_with (at_builtin; go_loud (refine wp_app1 _ (.tmp 18) (.tmp 30) 43 65 4 48 _ rfl rfl Tryz.underlying43 lentInfo rfl (by decide) (by decide) w.heap.size _ _ _ rfl ((hown.alloc _).alloc _) _ (lentC ⟨l.piece, l.no, l.singer, l.since⟩) rfl rfl (Blk.new' (by simp)) (lentC_one _) (by omega) (by simp; omega) ?_; intro v' wz hownz hgrowz _))
    go_roundw
    case rel => exact ⟨k + 1, v', by go_num, rfl, by omega, by rw [hsn.out, List.length_append, flat_snoc]; exact hownz, ((he.alloc _).alloc _).app ((hown.alloc _).alloc _) (Nat.le_refl _) hgrowz⟩
    case measure => simp [intOf]; omega
   ·rw [if_neg (show ¬ l.Open from hop), List.append_nil] at hsn
    replace hsn := Lib.hid hsn
    go_wp2
    go_roundw
    case rel => exact ⟨k + 1, _, by go_num, rfl, by omega, by rw [hsn.out]; exact hown.alloc _, he.alloc _⟩
    case measure => simp [intOf]; omega
  ·obtain rfl : X.length = k := by omega
   rw [List.take_length] at hown
   have hol : (outL X).length ≤ 1000 := Nat.le_trans (outL_len _) hl
   rcases Nat.eq_zero_or_pos (outL X).length with h0 | h0
   ·obtain ⟨p9, c9, rfl, -⟩ := slc_of_own lentC_len hown (by decide) (by omega)
    have hr : LentR X w (.returned (.slice p9 (outL X).length c9)) wr := ⟨_, outL X, rfl, List.Perm.refl _, by rw [List.eq_nil_of_length_eq_zero h0]; exact List.Pairwise.nil, hown, he⟩
    rw [h0] at hr
    replace hr := Lib.hid hr
    rw [h0]
    replace h0 := Lib.hid h0; clear hown hol
    go_wp2_with (go_at_call 176; (with_reducible refine Calls.mono (sortNoneL_any p9 c9 _ _) ?_); rintro e w5 ⟨rfl, rfl⟩)
    go_ret
    exact hr.out
   ·obtain ⟨g, cap, rfl, hg, hgl2⟩ := hown.form h0
    have hso := sortLent_any hown rfl (by omega) hdf.out
    replace hso := Lib.hid hso; clear hown hol
    go_wp2_with (go_at_call 176; (with_reducible refine Calls.mono hso.out ?_); rintro e w5 ⟨rfl, M, hSp, hSr, hSo, hSx⟩)
    have hr : LentR X w (.returned (.slice (some ⟨g, 0, none⟩) (outL X).length cap)) w5 := ⟨_, M, rfl, hSp, hSr, by rw [hSp.length_eq]; exact hSo, hSx w he hg⟩
    go_ret
    exact hr
end Go.Proofs.YtehboinleolihaaGreatDoor
