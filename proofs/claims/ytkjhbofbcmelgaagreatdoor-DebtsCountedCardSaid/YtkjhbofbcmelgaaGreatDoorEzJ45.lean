/- Copies that are late: the walks of Late and of LateAt. Conditions: sizes; at most 19 slips. (Printed by gen_shu.py.) What is owed, in one form, whatever is wrong. Conditions: sizes; at most 19 slips; the table of the powers of ten stands. (Printed by gen_lawdt.py.) -/
import Derived.Test.YtkjhbofbcmelgaaGreatDoorEzJ39
import Derived.Test.YtkjhbofbcmelgaaGreatDoorEzShS
import Derived.Test.YtkjhbofbcmelgaaGreatDoorEzJ29
import Derived.Test.YtkjhbofbcmelgaaGreatDoorEzJ44
set_option linter.unusedSimpArgs false
set_option linter.unusedVariables false
namespace Go.Proofs.YtkjhbofbcmelgaaGreatDoor
open Go Go.RowKit Go.Sort
set_option maxRecDepth 100000 in
set_option maxHeartbeats 6400000 in
theorem delLate_any {base g cap : Nat} {gs gt : Nat} {M : List LentV} {kp : LentV → Bool} {w : World} (ho : w.ownsRow base 65 4 (.slice (some ⟨g, 0, none⟩) M.length cap) M.length (M.flatMap lentC)) (hn1 : M.length ≤ 1000) (hn0 : 0 < M.length)
 (hcl : ∀ W, ExtS g w W → ∀ y : LentV, Calls Tryz.prog 89 #[.agg #[.string y.piece, .int .i64 y.no, .string y.singer, .int .i64 y.since], .pointer (some ⟨gs, 0, none⟩), .pointer (some ⟨gt, 0, none⟩)] W fun e w' => e = .returned (.bool (!kp y)) ∧ Ext W w') :
 Calls Tryz.prog 70 #[.slice (some ⟨g, 0, none⟩) M.length cap, .func (.func 89) #[] #[.pointer (some ⟨gs, 0, none⟩), .pointer (some ⟨gt, 0, none⟩)]] w fun e w' => e = .returned (.slice (some ⟨g, 0, none⟩) (M.filter kp).length cap) ∧ w'.ownsRow base 65 4 (.slice (some ⟨g, 0, none⟩) (M.filter kp).length cap) (M.filter kp).length ((M.filter kp).flatMap lentC) ∧ ExtS g w w' := by
 obtain ⟨p', c', e9, hSl⟩ := slc_of_own lentC_len ho (by decide) (by omega)
 cases e9
 have hmc := hSl.2.1
 have hgl := (ho.lt g rfl).2
 have hcm : cap ≤ 9223372036854775807 := by
  rcases ho.2 with ⟨h1, -⟩ | ⟨g', cap', cur, h1, h2, h3, h4, h5, -⟩
  ·cases h1
  ·cases h1; exact Nat.le_trans h5 (by decide)
 have eg : ∀ args w, (callFunc 89 args).run Tryz.prog w = .ok (.enter 89 args) w := enters_of Tryz.func89 (by kernel_rfl) rfl
 rcases (slcC hSl).2 with ⟨h9, -⟩ | ⟨sb, so, e9, hsb, hEl⟩
 ·cases h9
 cases e9
 have hpr : PredBelow Tryz.prog 89 #[.pointer (some ⟨gs, 0, none⟩), .pointer (some ⟨gt, 0, none⟩)] (fun y : LentV => .agg (lentC y).toArray) (fun y => !kp y) w := fun W y hb => by
  have hE : Ext w W := hb
  exact (hcl W hE.extS y).mono fun e w' h => ⟨h.1, hE.trans h.2⟩
 have hfi := AnyQ.slices_IndexFunc Tryz.lqiLent 4 Tryz.isAgg65 Tryz.sizeOf65 lentC lentC_len (fun y => !kp y) 89 #[.pointer (some ⟨gs, 0, none⟩), .pointer (some ⟨gt, 0, none⟩)] eg g 0 M.length cap M _
       hpr (Nat.le_refl _) (by omega) hsb (fun j hj i v hi => hEl j _ (by rw [List.getElem?_eq_getElem hj, getElem!_pos M j hj]) i v hi)
 rw [List.take_length] at hfi
 unfold Lib.idxBy at hfi
 rcases idxFirst (fun y : LentV => !kp y) default M 0 with ⟨h1, h2⟩ | ⟨k, x0, hx0, hp0, hk0, ha⟩
 ·rw [h1] at hfi
  have hall : M.filter kp = M := List.filter_eq_self.2 fun y hy => by have := h2 y hy; simpa using this
  rw [hall]
  replace hfi := Lib.hid hfi; replace ho := Lib.hid ho; clear hEl hSl h2 h1 hall hcl hpr
  go_enter Tryz.func70, Tryz.ntmps70
  go_wp2_with (go_at_call 133; refine hfi.out.mono ?_; rintro e w1 ⟨rfl, hb1⟩)
  go_ret
  have hE1 : Ext w w1 := hb1
  exact ⟨rfl, own_ext hE1 ho.out, hE1.extS⟩
 ·rw [hk0, Nat.zero_add] at hfi
  have hkl := (List.getElem?_eq_some_iff.1 hx0).1
  have hst := delL_start hx0 (by simpa using hp0) ha
  replace hfi := Lib.hid hfi; replace hst := Lib.hid hst; replace ho := Lib.hid ho; replace hcl := Lib.hid hcl
  have hne : (((k : Nat) : Int) == -1) = false := beq_eq_false_iff_ne.2 (by omega)
  clear hEl hSl hx0 hp0 hk0 ha hpr
  go_enter Tryz.func70, Tryz.ntmps70
  go_wp2_with (go_at_call 133; refine hfi.out.mono ?_; rintro e w1 ⟨rfl, hb1⟩)
  have hE1 : Ext w w1 := hb1
  clear hb1
  go_loopw [5,6] (fun v5 v6 wr => ∃ (i j : Nat) (R : List LentV), v5 = .int .i64 i ∧ v6 = .int .i64 j ∧ i < j ∧ j ≤ M.length ∧ R.length = M.length ∧ R.take i = (M.take j).filter kp ∧ R.drop j = M.drop j ∧ wr.ownsRow base 65 4 (.slice (some ⟨g, 0, none⟩) M.length cap) M.length (R.flatMap lentC) ∧ ExtS g w wr) (fun _ v6 _ => M.length - (intOf v6).toNat)
  case atStart => exact ⟨k, k + 1, M, rfl, by go_num, by omega, by omega, rfl, hst.out, rfl, own_ext hE1 ho.out, hE1.extS⟩
  case round =>
   obtain ⟨i, j, R, rfl, rfl, hij, hj, hRl, hRt, hRd, hown, hE⟩ := hrel
   by_cases hlt : j < M.length
   ·obtain ⟨x, hx⟩ := getD_some (rfl : M.length = M.length) hlt
    have hjI : (j : Int) < M.length := by omega
    have hiI : (i : Int) < M.length := by omega
    have hxR := (dropL_at hRd).trans hx
    obtain ⟨y, hy⟩ := getD_some hRl (show i < M.length by omega)
    have c0 : wr.cell? ⟨g, j * 4, none⟩ = some (.string x.piece) := own_cell lentC_len hown hxR 0 (v := .string x.piece) rfl hlt
    have c1 := own_cell lentC_len hown hxR 1 (v := .int .i64 x.no) rfl hlt
    have c2 := own_cell lentC_len hown hxR 2 (v := .string x.singer) rfl hlt
    have c3 := own_cell lentC_len hown hxR 3 (v := .int .i64 x.since) rfl hlt
    have hgw := (hown.lt g rfl).2
    have hE1' : Ext wr (wr.alloc (.cells #[.string x.piece, .int .i64 x.no, .string x.singer, .int .i64 x.since] 65)) := (Ext.refl _).alloc _
    have hY : Blk (wr.alloc (.cells #[.string x.piece, .int .i64 x.no, .string x.singer, .int .i64 x.since] 65)) wr.heap.size 65 #[.string x.piece, .int .i64 x.no, .string x.singer, .int .i64 x.since] := Blk.new' rfl
    have hsc := hcl.out _ (hE.ext hE1') x
    have hown1 := own_ext hE1' hown
    have hkp := fun h => delL_keep (kp := kp) hx h hRt hij hRl hRd
    have hsk := fun h => delL_skip (kp := kp) (M := M) hx h
    have hd1 : R.drop (j + 1) = M.drop (j + 1) := by rw [← List.drop_drop, ← List.drop_drop, hRd]
    replace hsc := Lib.hid hsc; replace hkp := Lib.hid hkp; replace hsk := Lib.hid hsk; replace hown1 := Lib.hid hown1; replace hRt := Lib.hid hRt; replace hd1 := Lib.hid hd1; replace hy := Lib.hid hy; clear hx hxR hown hRd
    cases hk : kp x
    ·rw [hk] at hsc
     go_wp2_with (go_at_call 89; (with_reducible refine Calls.mono hsc.out ?_); rintro e w2 ⟨rfl, hb2⟩)
     have hE2 := hE1'.trans hb2
     go_roundw
     case rel => exact ⟨i, j + 1, R, rfl, by go_num, by omega, by omega, hRl, by rw [hsk.out hk]; exact hRt.out, hd1.out, own_ext hb2 hown1.out, hE.ext hE2⟩
     case measure => simp [intOf]; omega
    ·rw [hk] at hsc
     go_wp2_with (go_at_call 89; (with_reducible refine Calls.mono hsc.out ?_); rintro e w2 ⟨rfl, hb2⟩; obtain ⟨y1, -⟩ := (hY.ext hb2).walk; have yl := (hY.ext hb2).lt; have hown2 := own_ext hb2 hown1.out; have d0 : w2.cell? ⟨g, i * 4, none⟩ = some (.string y.piece) := own_cell lentC_len hown2 hy.out 0 rfl (show i < M.length by omega); have d1 := own_cell lentC_len hown2 hy.out 1 rfl (show i < M.length by omega); have d2 := own_cell lentC_len hown2 hy.out 2 rfl (show i < M.length by omega); have d3 := own_cell lentC_len hown2 hy.out 3 rfl (show i < M.length by omega); have z0 : ∀ o, w2.frozen? ⟨g, o, none⟩ = false := fun o => hown2.frozenAt o; have zl := (hown2.lt g rfl).2; replace hown2 := Lib.hid hown2)
     have hE2 := hE1'.trans hb2
     have h3 := lent_mod hown2.out hy.out x
     obtain ⟨k1, k2⟩ := hkp.out hk
     go_roundw
     case rel => exact ⟨i + 1, j + 1, R.set i x, by go_num, by go_num, by omega, by omega, by rw [List.length_set]; exact hRl, k1, k2, h3, ((((hE.ext hE2).setCell (p := ⟨g, i * 4, none⟩) (.inl rfl) _).setCell (p := ⟨g, i * 4 + 1, none⟩) (.inl rfl) _).setCell (p := ⟨g, i * 4 + 2, none⟩) (.inl rfl) _).setCell (p := ⟨g, i * 4 + 3, none⟩) (.inl rfl) _⟩
     case measure => simp [intOf]; omega
   ·obtain rfl : j = M.length := by omega
    rw [List.take_length] at hRt
    have hil : (M.filter kp).length = i := by rw [← hRt, List.length_take]; omega
    have hiI : (i : Int) < M.length := by omega
    obtain ⟨cs, hcl9, ho2, hE2⟩ := own_clearL hown hij
    have e5 : (R.flatMap lentC).take (i * 4) = (M.filter kp).flatMap lentC := by
     rw [← hRt]
     exact flat_takeK lentC_len R i
    rw [e5] at ho2
    replace ho2 := Lib.hid ho2
    have hic : i < cap := by omega
    have hicI : (i : Int) < cap := by omega
    clear hown hRt hRd hRl hst hfi ho e5
    go_wp2
    go_ret
    exact ⟨by rw [hil]; rfl, by rw [hil]; exact ho2.out, hE.trans hE2⟩
/-- Copies that are out, and due before a moment. -/
def lateL (r : LendR) (t : Int) (X : List LoanV) : List LentV := (outL X).filter fun y => decide (dueF r y.since < t)
def dueW (r : LendR) (v : Int) : Int := IntKind.i64.wrap (v + r.days * 86400000)
theorem dueW_is {r : LendR} (hr : LendOk r) {v : Int} (hv : 0 ≤ v ∧ v ≤ 345686399999) : dueW r v = dueF r v := by
 have := hr.days
 unfold dueW dueF
 exact IntWalk.i64_in _ (by omega)
theorem byL_late {r : LendR} (hr : LendOk r) (t : Int) {X : List LoanV} (hX : ∀ l ∈ X, LoanT l) : byL (fun l => decide (dueW r l.since < t)) X = lateL r t X := by
 unfold byL lateL outL
 rw [List.filter_map, List.filter_filter]
 congr 1
 refine List.filter_congr fun l hl => ?_
 show (decide l.Open && decide (dueW r l.since < t)) = (decide (dueF r l.since < t) && decide l.Open)
 rw [dueW_is hr (hX l hl).1]
 exact Bool.and_comm _ _
theorem out_since {X : List LoanV} (hX : ∀ l ∈ X, LoanT l) : ∀ y ∈ outL X, 0 ≤ y.since ∧ y.since ≤ 345686399999 := fun y hy => by
 unfold outL at hy
 obtain ⟨l, hl, rfl⟩ := List.mem_map.1 hy
 exact (hX l (List.mem_filter.1 hl).1).1
set_option maxRecDepth 100000 in
theorem due_tot (bb : Nat) (cs : Array Value) (r : LendR) (v : Int) (w : World) (hB : Blk w bb 130 cs) (h1 : cs[1]? = some (.int .i64 r.days)) (hr : LendOk r) :
 Calls Tryz.prog 90 #[.pointer (some ⟨bb, 0, none⟩), .int .i64 v] w fun e w' => e = .returned (.int .i64 (dueW r v)) ∧ w = w' := by
 have hl := hB.lt
 have c1 := (hB.cell 1).trans h1
 obtain ⟨h2, h3⟩ := hr.days
 have hw1 : IntKind.i64.wrap (r.days * 86400000) = r.days * 86400000 := IntWalk.i64_in _ (by omega)
 obtain ⟨z, hw2⟩ : ∃ z, IntKind.i64.wrap (v + r.days * 86400000) = z := ⟨_, rfl⟩
 rw [show dueW r v = z from hw2]
 replace hr := Lib.hid hr; replace hB := Lib.hid hB
 go_enter Tryz.func90, Tryz.ntmps90
 go_wp2
 go_ret
 exact ⟨rfl, rfl⟩
/-- The rows of late copies, told by when they were lent. -/
def LateT (A : List LentV) (w : World) (v : Value) (w' : World) : Prop := ∃ (p : Option Addr) (c : Nat) (M : List LentV), v = .slice p M.length c ∧ M.Perm A ∧ M.Pairwise lateLt ∧ M.length ≤ 1000 ∧ Slc 4 lentC w' p M.length c M ∧ Ext w w'
theorem lateT_of {A M : List LentV} {w w' : World} {v : Value} {base : Nat} (hp : M.Perm A) (hs : M.Pairwise lateLt) (ho : w'.ownsRow base 65 4 v M.length (M.flatMap lentC)) (hl : A.length ≤ 1000) (he : Ext w w') : LateT A w v w' := by
 have hM : M.length ≤ 1000 := by rw [hp.length_eq]; exact hl
 obtain ⟨p, c, rfl, hS⟩ := slc_of_own lentC_len ho (by decide) (by omega)
 exact ⟨p, c, M, rfl, hp, hs, hM, hS, he⟩
theorem lateT_nil {w w' : World} (he : Ext w w') : LateT [] w (.slice none 0 0) w' := ⟨none, 0,[], rfl, List.Perm.refl _, List.Pairwise.nil, by simp, Slc.nil _ _ _, he⟩
theorem late_same {A M N : List LentV} (h1 : M.Perm A) (h2 : M.Pairwise lateLt) (k1 : N.Perm A) (k2 : N.Pairwise lateLt) : M = N := List.Perm.eq_of_pairwise (le := lateLt) (fun a b _ _ h k => (lateLt_asym h k).elim) h2 k2 (h1.trans k1.symm)
set_option maxRecDepth 100000 in
theorem lateClo_any {w : World} {gs gt bb ms ml mh : Nat} {tp : Option Addr} {tn tc : Nat} {r : LendR} {lv : Value} {t : Int} (hG : Blk w gs 106 #[.pointer (some ⟨bb, 0, none⟩)]) (hU : Blk w gt 3 #[.int .i64 t]) (hB : Blk w bb 130 (libC tp tn tc r ms ml mh lv)) (hr : LendOk r) (y : LentV) :
 Calls Tryz.prog 89 #[.agg #[.string y.piece, .int .i64 y.no, .string y.singer, .int .i64 y.since], .pointer (some ⟨gs, 0, none⟩), .pointer (some ⟨gt, 0, none⟩)] w fun e w' => e = .returned (.bool (!decide (dueW r y.since < t))) ∧ Ext w w' := by
 have hX : Blk (w.alloc (.cells #[.string y.piece, .int .i64 y.no, .string y.singer, .int .i64 y.since] 65)) w.heap.size 65 #[.string y.piece, .int .i64 y.no, .string y.singer, .int .i64 y.since] := Blk.new' rfl
 have hE : Ext w (w.alloc (.cells #[.string y.piece, .int .i64 y.no, .string y.singer, .int .i64 y.since] 65)) := (Ext.refl w).alloc _
 have hdu := fun u (hu : Ext w u) => due_tot bb _ r y.since u (hB.ext hu) rfl hr
 have hGE := hG.ext hE
 have hUE := hU.ext hE
 have g0 := hGE.cell 0
 have lg := hGE.lt
 have u0 := hUE.cell 0
 have lu := hUE.lt
 have x3 := hX.cell 3
 have lx := hX.lt
 generalize dueW r y.since = dv at *
 clear hG hU hB hX hGE hUE; replace hdu := Lib.hid hdu; replace hE := Lib.hid hE
 have hbb : (!decide (dv < t)) = decide (t ≤ dv) := by
  by_cases h : dv < t
  ·rw [decide_eq_true h, decide_eq_false (by omega)]; rfl
  ·rw [decide_eq_false h, decide_eq_true (by omega)]; rfl
 rw [hbb]
 clear hbb
 go_enter Tryz.func89, Tryz.ntmps89
 go_upto_region 1 with fail
 generalize w.heap.size = gx at *
 generalize (w.alloc (.cells #[.string y.piece, .int .i64 y.no, .string y.singer, .int .i64 y.since] 65)) = W1 at *
 refine wp_region_facts [] [([],false,false),([],false,false),([1],false,false),([0,1,2],false,false),([],false,false),([0,1,2,3,4],false,false)] (Ext) Ext (fun _ => True) (by kernel_rfl) (by kernel_rfl) Ext.refl (fun _ _ _ => Ext.trans) (fun _ _ h => h) (fun _ _ h => h.size) (fun _ _ h _ => h) trivial ?_
 dsimp only [List.length_cons, List.length_nil, List.drop_succ_cons, List.drop_zero, List.drop_nil]
 refine fq 0 rfl rfl rfl cK rfl rfl ?_; apply Exists.intro; constructor
 ·intro sv w' hw' hfa
  have hk9 := (Ext.refl W1).drew.trans hw'; obtain ⟨hc, -, -⟩ := hk9.walk; have y0 := (hc gs 0 lg).trans g0
  refine ⟨rfl, ?_⟩; simp only [putsL]; change qT _; simp only [qT, Act.put, sIA, sCS, sCZ]; simp [go_sem, quietTo, Ext.refl, ↓IntWalk.iteOmega, y0]; (all_goals try simp (disch := omega) only [IntWalk.i64_in]); all_goals rfl
 refine fq 1 rfl rfl rfl cK rfl rfl ?_; apply Exists.intro; constructor
 ·intro sv w' hw' hfa
  refine ⟨rfl, ?_⟩; simp only [putsL]; change qT _; simp only [qT, Act.put, sIA, sCS, sCZ]; simp [go_sem, quietTo, Ext.refl]; all_goals rfl
 refine fq 2 rfl rfl rfl cK rfl rfl ?_; apply Exists.intro; constructor
 ·rintro sv w' hw' ⟨(f1 : sv 1 = _), -⟩; (try dsimp only at f1)
  have hk9 := (Ext.refl W1).drew.trans hw'; obtain ⟨hc, -, -⟩ := hk9.walk; have y3 := (hc gx 3 lx).trans x3
  refine ⟨rfl, ?_⟩; simp only [putsL]; change qT (pT _ 6 (sv 1)); simp only [qT, pT, Act.put, sIA, sCS, sCZ]; simp [go_sem, quietTo, Ext.refl, ↓IntWalk.iteOmega, f1, y3]; (all_goals try simp (disch := omega) only [IntWalk.i64_in]); all_goals rfl
 refine fac_any 3 rfl rfl rfl cK ?_
 refine ⟨(fun y _ => y 3 = .int .i64 dv), fun sv w' hw' hfa => ?_, ?_, ?_⟩
 ·obtain ⟨(f0 : sv 0 = _), (f1 : sv 1 = _), (f2 : sv 2 = _), -⟩ := hfa; (try dsimp only at f0 f1 f2)
  have hk9 := (Ext.refl W1).drew.trans hw'
  refine ⟨rfl, ?_⟩
  simp only [putsL]
  change outc _ _ (Sem.run _ (execOp (Act.eval (pT (pT (pT _ 7 (sv 2)) 6 (sv 1)) 5 (sv 0))) _) _)
  try simp only [pT, Act.put, sIA, sCS, sCZ]
  simp [go_sem, outc, f0, f2]
  refine (hdu.out _ (hE.out.trans hk9)).mono ?_
  rintro e w9 ⟨rfl, rfl⟩
  exact ⟨_, rfl, Ext.refl _, by simp [upd]⟩
 ·exact fun x w w' h he => h
 refine fq 4 rfl rfl rfl cK rfl rfl ?_; apply Exists.intro; constructor
 ·intro sv w' hw' hfa
  have hk9 := (Ext.refl W1).drew.trans hw'; obtain ⟨hc, -, -⟩ := hk9.walk; have y4 := (hc gt 0 lu).trans u0
  refine ⟨rfl, ?_⟩; simp only [putsL]; change qT _; simp only [qT, Act.put, sIA, sCS, sCZ]; simp [go_sem, quietTo, Ext.refl, ↓IntWalk.iteOmega, y4]; (all_goals try simp (disch := omega) only [IntWalk.i64_in]); all_goals rfl
 refine fq 5 rfl rfl rfl cK rfl rfl ?_; apply Exists.intro; constructor
 ·rintro sv w' hw' ⟨_, _, _, (f3 : sv 3 = _), (f4 : sv 4 = _), -⟩; (try dsimp only at f4)
  refine ⟨rfl, ?_⟩; simp only [putsL]; change qT (pT (pT (pT (pT (pT _ 9 (sv 4)) 8 (sv 3)) 7 (sv 2)) 6 (sv 1)) 5 (sv 0)); simp only [qT, pT, Act.put, sIA, sCS, sCZ]; simp [go_sem, quietTo, Ext.refl, ↓IntWalk.iteOmega, f3, f4]; (all_goals try simp (disch := omega) only [IntWalk.i64_in]); all_goals rfl
 refine fac_nil fun xa wra hera hfra hcra holda hapa => ?_
 obtain ⟨(f0 : xa 0 = _), (f1 : xa 1 = _), (f2 : xa 2 = _), (f3 : xa 3 = _), (f4 : xa 4 = _), (f5 : xa 5 = _), -⟩ := hfra; (try dsimp only at f0 f1 f2 f4 f5)
 change wpList _ _ _ _ (pT (pT (pT (pT (pT (pT _ 5 (xa 0)) 6 (xa 1)) 7 (xa 2)) 8 (xa 3)) 9 (xa 4)) 10 (xa 5)) _
 simp only [putsL, Nat.reduceAdd, List.drop_succ_cons, List.drop_zero, List.drop_nil, pT, Act.put, sIA, sCS, sCZ]
 try simp only [f0, f1, f2, f3, f4, f5]
 clear f0 f1 f2 f4 f5; clear holda hapa
 have hka := hE.out.trans ((Ext.refl W1).drew.trans hera)
 go_wp2
 go_ret
 exact ⟨rfl, hka⟩
theorem delLateAll {base gs gt bb ms ml mh : Nat} {tp : Option Addr} {tn tc : Nat} {r : LendR} {lv : Value} {t : Int} {v : Value} {M : List LentV} {w : World} (ho : w.ownsRow base 65 4 v M.length (M.flatMap lentC)) (hn : M.length ≤ 1000) (hG : Blk w gs 106 #[.pointer (some ⟨bb, 0, none⟩)]) (hU : Blk w gt 3 #[.int .i64 t]) (hB : Blk w bb 130 (libC tp tn tc r ms ml mh lv)) (hr : LendOk r) (hgs : gs < base ∧ gt < base ∧ bb < base) (hM : ∀ y ∈ M, 0 ≤ y.since ∧ y.since ≤ 345686399999) :
 Calls Tryz.prog 70 #[v, .func (.func 89) #[] #[.pointer (some ⟨gs, 0, none⟩), .pointer (some ⟨gt, 0, none⟩)]] w fun e w' => ∃ v' : Value, e = .returned v' ∧ w'.ownsRow base 65 4 v' (M.filter fun y => decide (dueF r y.since < t)).length ((M.filter fun y => decide (dueF r y.since < t)).flatMap lentC) ∧ ∀ a : World, Ext a w → a.heap.size ≤ base → Ext a w' := by
 have hfe : (M.filter fun y => decide (dueF r y.since < t)) = M.filter fun y => decide (dueW r y.since < t) := List.filter_congr fun y hy => by rw [dueW_is hr (hM y hy)]
 rw [hfe]
 rcases Nat.eq_zero_or_pos M.length with h0 | h0
 ·obtain ⟨p9, c9, rfl, -⟩ := slc_of_own lentC_len ho (by decide) (by omega)
  obtain rfl := List.eq_nil_of_length_eq_zero h0
  exact (delNoneL p9 c9 _ w).mono fun e w' h => ⟨_, h.1, own_ext h.2 ho, fun a ha _ => ha.trans h.2⟩
 ·obtain ⟨g, cap, rfl, hg, hgl⟩ := ho.form h0
  exact (delLate_any (kp := fun y => decide (dueW r y.since < t)) ho hn h0 fun W hW y => lateClo_any ((hW.2.2.2.2 gs hG.lt (by omega)).trans hG) ((hW.2.2.2.2 gt hU.lt (by omega)).trans hU) ((hW.2.2.2.2 bb hB.lt (by omega)).trans hB) hr y).mono fun e w' h => ⟨_, h.1, h.2.1, fun a ha hb => ExtS.back ha (Nat.le_trans hb hg) h.2.2⟩
set_option maxRecDepth 100000 in
set_option maxHeartbeats 6400000 in
theorem late_any (tp : Option Addr) (tn tc : Nat) (T : List TitleV) (r : LendR) (dp : Option Addr) (dn dc : Nat) (d : List SlipV) (t : Int) (w : World) (h : ListsM w tp tn tc T r dp dn dc d) (hto : outB t 0 345686399999 = false) :
 Calls Tryz.prog 33 #[.slice tp tn tc, lendVal r, .slice dp dn dc, .int .i64 t] w fun e w' => ∃ v : Value, e = .returned (.tuple #[v, .int .i64 0]) ∧ LateT (lateL r t (libAt T r d t).1.loans) w v w' := by
 obtain ⟨L, hLe⟩ : ∃ L, L = (libAt T r d t).1 := ⟨_, rfl⟩
 have hLo := lend_ok (libF_zero h.ok).2.1
 have hN := libAt_N (T := T) (r := r) (t := t) (slipsF_right (libF_zero h.ok).2.2) h.ss
 have hI := libAt_I (T := T) (r := r) (t := t) (slipsF_right (libF_zero h.ok).2.2) h.ss
 have hLT := libAt_T (T := T) (r := r) (t := t) (slipsF_right (libF_zero h.ok).2.2) h.ss
 rw [← hLe] at hN hI hLT ⊢
 have hos := out_since (X := L.loans) hLT
 have hdl := h.sl.1.1
 have hdn := h.sn
 have hLl : L.loans.length ≤ 19 := by have := hN.loans; omega
 have hdf := out_diff hI
 have hat := fun u (hu : Ext w u) => atN_any tp tn tc T r dp dn dc d t u (h.ext hu) hto
 unfold lendVal at hat ⊢
 have hE : Ext w ((w.alloc (.cells #[.int .i64 r.days, .int .i64 r.late, .int .i64 r.most, .int .i64 r.each] 28)).alloc (.cells #[.int .i64 t] 3)) := ((Ext.refl w).alloc _).alloc _
 have hU : Blk ((w.alloc (.cells #[.int .i64 r.days, .int .i64 r.late, .int .i64 r.most, .int .i64 r.each] 28)).alloc (.cells #[.int .i64 t] 3)) (w.heap.size + 1) 3 #[.int .i64 t] := Blk.new' (by simp)
 have hres : ∀ (v : Value) (A M : List LentV) (w' : World), A.Perm (outL L.loans) → M.Perm (A.filter fun y => decide (dueF r y.since < t)) → M.Pairwise lateLt → w'.ownsRow w.heap.size 65 4 v M.length (M.flatMap lentC) → Ext w w' → LateT (lateL r t L.loans) w v w' := fun v A M w' h1 h2 h3 h4 h5 =>
  lateT_of (h2.trans (h1.filter _)) h3 h4 (Nat.le_trans (List.length_filter_le _ _) (Nat.le_trans (outL_len _) (by omega))) h5
 clear h hN hI hdl hdn; replace hat := Lib.hid hat; replace hE := Lib.hid hE; replace hLe := Lib.hid hLe; replace hdf := Lib.hid hdf; replace hU := Lib.hid hU; replace hres := Lib.hid hres; replace hos := Lib.hid hos
 go_enter Tryz.func33, Tryz.ntmps33
 go_wp2_with (first
  | (go_at_call 64; (with_reducible refine Calls.mono (hat.out _ hE.out) ?_); rintro e w4 ⟨base, bb, ms, ml, mh, q, rfl, hLM, hb4⟩; rw [← hLe.out] at hLM; have hE5 : Ext w4 (w4.alloc (.cells #[.pointer (some ⟨bb, 0, none⟩)] 106)) := (Ext.refl _).alloc _; have hG5 : Blk (w4.alloc (.cells #[.pointer (some ⟨bb, 0, none⟩)] 106)) w4.heap.size 106 #[.pointer (some ⟨bb, 0, none⟩)] := Blk.new' rfl; have hLM5 := hLM.ext hE5; have hlt := lent_any hLM5 (by omega) hdf.out; obtain ⟨⟨lv, hB5, -⟩, -⟩ := hLM5; have hU5 := (hU.out.ext hb4).ext hE5; have hbl := hLM.lt; have hul := (hU.out.ext hb4).lt; replace hlt := Lib.hid hlt; replace hE5 := Lib.hid hE5; replace hG5 := Lib.hid hG5; replace hU5 := Lib.hid hU5; replace hB5 := Lib.hid hB5; clear hLM)
  | (go_at_call 68; (with_reducible refine Calls.mono hlt.out ?_); rintro e w6 ⟨v6, M, rfl, hMp, hMs, hMo, hMx⟩; have hML : M.length ≤ 19 := (by rw [hMp.length_eq]; exact Nat.le_trans (outL_len _) hLl); have hMb : ∀ y ∈ M, 0 ≤ y.since ∧ y.since ≤ 345686399999 := fun y hy => hos.out y (hMp.mem_iff.1 hy); have hdel := delLateAll hMo (by omega) (hG5.out.ext hMx) (hU5.out.ext hMx) (hB5.out.ext hMx) hLo (by simp; omega) hMb; replace hdel := Lib.hid hdel)
  | (go_at_call 70; (with_reducible refine Calls.mono hdel.out ?_); rintro e w7 ⟨v7, rfl, hVo, hVx⟩; have hso := stablePAll hVo (Nat.le_trans (List.length_filter_le _ _) hML) (fun y hy => hMb y (List.mem_filter.1 hy).1) (List.Pairwise.filter _ hMs); replace hso := Lib.hid hso; have hE7 := hVx _ hMx (Nat.le_refl _))
  | (go_at_call 91; (with_reducible refine Calls.mono hso.out ?_); rintro e w8 ⟨rfl, N, hN1, hN2, hN3, hN4⟩; have hE8 := hN4 _ hE7 (Nat.le_refl _)))
 have hE48 := hE5.out.trans hE8
 have hb := (hE.out.trans hb4).size
 have hr := hres.out v7 M N w8 hMp hN1 hN2 (own_low hN3 (by simp; omega)) ((hE.out.trans hb4).trans hE48)
 go_ret2
 exact ⟨_, rfl, hr⟩
set_option maxRecDepth 100000 in
set_option maxHeartbeats 6400000 in
theorem lentByLate_any {base : Nat} {w : World} {bb ms mr q nr : Nat} {tp : Option Addr} {tn tc : Nat} {r : LendR} {L : LibS} {F : Int → Option Int} (h : ShM base w bb ms mr q nr tp tn tc r L F) (hl : L.loans.length ≤ 1000) (gS gU : Nat) (f : LoanV → Bool) (hdf : (byL f L.loans).Pairwise fun a b => ¬ (a.piece = b.piece ∧ a.no = b.no))
 (hcl : ∀ u, Ext w u → ∀ l : LoanV, Calls Tryz.prog 97 #[.agg #[.string l.piece, .int .i64 l.no, .string l.singer, .int .i64 l.since, .int .i64 l.till, .bool l.lost], .pointer (some ⟨gS, 0, none⟩), .pointer (some ⟨gU, 0, none⟩)] u fun e w' => e = .returned (.bool (f l)) ∧ Ext u w') :
 Calls Tryz.prog 79 #[.pointer (some ⟨bb, 0, none⟩), .func (.func 97) #[] #[.pointer (some ⟨gS, 0, none⟩), .pointer (some ⟨gU, 0, none⟩)]] w (ByR f L.loans w) := by
 obtain ⟨lv, hrow, -⟩ := h.parts
 obtain ⟨lp, lc, rfl, hS⟩ := slc_of_own loanC_len hrow.2 (by decide) (by omega)
 have c6 := hrow.1.cell 6
 have lb := hrow.1.lt
 unfold shC at c6
 clear h hrow
 generalize L.loans = X at *
 replace hS := Lib.hid hS; replace hdf := Lib.hid hdf; replace hcl := Lib.hid hcl
 go_enter Tryz.func79, Tryz.ntmps79
 go_wp2
 go_loopw [5,13] (fun v3 v11 wr => ∃ (k : Nat) (v : Value), v11 = .int .i64 k ∧ v = v3 ∧ k ≤ X.length ∧ wr.ownsRow w.heap.size 65 4 v (byL f (X.take k)).length ((byL f (X.take k)).flatMap lentC) ∧ Ext w wr) (fun _ v11 _ => X.length - (intOf v11).toNat)
 case atStart => exact ⟨0, _, rfl, rfl, Nat.zero_le _, World.ownsRow_nil _ _ _ _, Ext.refl _⟩
 case round =>
  obtain ⟨k, v, rfl, rfl, hk, hown, he⟩ := hrel
  by_cases hlt : k < X.length
  ·obtain ⟨l, hx⟩ := getD_some (rfl : X.length = X.length) hlt
   obtain ⟨b, off, rfl, hb, hE⟩ := hS.out.1.2.2 (by omega)
   have hEr := hE.ext he hb
   have d0 : wr.cell? ⟨b, off + k * 6, none⟩ = some (.string l.piece) := hEr k _ hx 0 _ rfl
   have d1 : wr.cell? ⟨b, off + k * 6 + 1, none⟩ = some (.int .i64 l.no) := hEr k _ hx 1 _ rfl
   have d2 : wr.cell? ⟨b, off + k * 6 + 2, none⟩ = some (.string l.singer) := hEr k _ hx 2 _ rfl
   have d3 : wr.cell? ⟨b, off + k * 6 + 3, none⟩ = some (.int .i64 l.since) := hEr k _ hx 3 _ rfl
   have d4 : wr.cell? ⟨b, off + k * 6 + 4, none⟩ = some (.int .i64 l.till) := hEr k _ hx 4 _ rfl
   have d5 : wr.cell? ⟨b, off + k * 6 + 5, none⟩ = some (.bool l.lost) := hEr k _ hx 5 _ rfl
   have hkI : (k : Int) < (X.length : Int) := by omega
   have hsn := byL_snoc f (X.take k) l
   rw [← take_snocL hx] at hsn
   have hol : (byL f (X.take k)).length ≤ 1000 := Nat.le_trans (byL_len _ _) (by rw [List.length_take]; omega)
   have hsz := he.size
   have hE1 : Ext wr (wr.alloc (.cells #[.string l.piece, .int .i64 l.no, .string l.singer, .int .i64 l.since, .int .i64 l.till, .bool l.lost] 148)) := (Ext.refl _).alloc _
   have hB1 : Blk (wr.alloc (.cells #[.string l.piece, .int .i64 l.no, .string l.singer, .int .i64 l.since, .int .i64 l.till, .bool l.lost] 148)) wr.heap.size 148 #[.string l.piece, .int .i64 l.no, .string l.singer, .int .i64 l.since, .int .i64 l.till, .bool l.lost] := Blk.new' rfl
   have ho1 := hown.alloc (.cells #[.string l.piece, .int .i64 l.no, .string l.singer, .int .i64 l.since, .int .i64 l.till, .bool l.lost] 148)
   have hc1 := hcl.out _ (he.trans hE1) l
   replace hx := Lib.hid hx; replace hE := Lib.hid hE; replace hE1 := Lib.hid hE1; replace hB1 := Lib.hid hB1; replace ho1 := Lib.hid ho1; clear hEr
   by_cases hop : l.till < 0
   ·rw [decide_eq_true (show l.Open from hop), Bool.true_and] at hsn
    generalize f l = fl at *
    replace hc1 := Lib.hid hc1
    cases fl
    ·rw [if_neg (by decide), List.append_nil] at hsn
     replace hsn := Lib.hid hsn
     go_wp2_with (go_at_call 97; (with_reducible refine Calls.mono hc1.out ?_); rintro e w5 ⟨rfl, hb5⟩; obtain ⟨q5, z5⟩ := (hB1.out.ext hb5).walk; have l5 := (hB1.out.ext hb5).lt)
     go_roundw
     case rel => exact ⟨k + 1, _, by go_num, rfl, by omega, by rw [hsn.out]; exact own_ext hb5 ho1.out, (he.trans hE1.out).trans hb5⟩
     case measure => simp [intOf]; omega
    ·rw [if_pos rfl] at hsn
     replace hsn := Lib.hid hsn
     go_wp2_with (first
      | (go_at_call 97; (with_reducible refine Calls.mono hc1.out ?_); rintro e w5 ⟨rfl, hb5⟩; obtain ⟨q5, z5⟩ := (hB1.out.ext hb5).walk; have l5 := (hB1.out.ext hb5).lt; have ho5 := own_ext hb5 ho1.out; have he5 := (he.trans hE1.out).trans hb5; have hs5 := he5.size)
      | (at_builtin; go_loud (refine wp_app1 _ (.tmp 25) (.tmp 37) 43 65 4 48 _ rfl rfl Tryz.underlying43 lentInfo rfl (by decide) (by decide) w.heap.size _ _ _ rfl (ho5.alloc _) _ (lentC ⟨l.piece, l.no, l.singer, l.since⟩) rfl rfl (Blk.new' (by simp)) (lentC_one _) (by omega) (by simp; omega) ?_; intro v' wz hownz hgrowz _)))
     go_roundw
     case rel => exact ⟨k + 1, v', by go_num, rfl, by omega, by rw [hsn.out, List.length_append, flat_snoc]; exact hownz, (he5.alloc _).app (ho5.alloc _) (Nat.le_refl _) hgrowz⟩
     case measure => simp [intOf]; omega
   ·rw [decide_eq_false (show ¬ l.Open from hop), Bool.false_and, if_neg (by decide), List.append_nil] at hsn
    replace hsn := Lib.hid hsn; clear hc1
    go_wp2
    go_roundw
    case rel => exact ⟨k + 1, _, by go_num, rfl, by omega, by rw [hsn.out]; exact hown.alloc _, he.alloc _⟩
    case measure => simp [intOf]; omega
  ·obtain rfl : X.length = k := by omega
   rw [List.take_length] at hown
   have hol : (byL f X).length ≤ 1000 := Nat.le_trans (byL_len _ _) hl
   clear hcl
   rcases Nat.eq_zero_or_pos (byL f X).length with h0 | h0
   ·obtain ⟨p9, c9, rfl, -⟩ := slc_of_own lentC_len hown (by decide) (by omega)
    have hr : ByR f X w (.returned (.slice p9 (byL f X).length c9)) wr := ⟨_, byL f X, rfl, List.Perm.refl _, by rw [List.eq_nil_of_length_eq_zero h0]; exact List.Pairwise.nil, hown, he⟩
    rw [h0] at hr
    replace hr := Lib.hid hr
    rw [h0]
    replace h0 := Lib.hid h0; clear hown hol
    go_wp2_with (go_at_call 128; (with_reducible refine Calls.mono (sortNoneL_any p9 c9 _ _) ?_); rintro e w5 ⟨rfl, rfl⟩)
    go_ret
    exact hr.out
   ·obtain ⟨g, cap, rfl, hg, hgl2⟩ := hown.form h0
    have hso := sortLentD_any hown rfl (by omega) hdf.out
    replace hso := Lib.hid hso; clear hown hol
    go_wp2_with (go_at_call 128; (with_reducible refine Calls.mono hso.out ?_); rintro e w5 ⟨rfl, M, hSp, hSr, hSo, hSx⟩)
    have hr : ByR f X w (.returned (.slice (some ⟨g, 0, none⟩) (byL f X).length cap)) w5 := ⟨_, M, rfl, hSp, hSr, by rw [hSp.length_eq]; exact hSo, hSx w he hg⟩
    go_ret
    exact hr
set_option maxRecDepth 100000 in
theorem lateCloD_any {w : World} {gS gU : Nat} {r : LendR} {t : Int} (hG : Blk w gS 28 #[.int .i64 r.days, .int .i64 r.late, .int .i64 r.most, .int .i64 r.each]) (hU : Blk w gU 3 #[.int .i64 t]) (hr : LendOk r) (l : LoanV) :
 Calls Tryz.prog 97 #[.agg #[.string l.piece, .int .i64 l.no, .string l.singer, .int .i64 l.since, .int .i64 l.till, .bool l.lost], .pointer (some ⟨gS, 0, none⟩), .pointer (some ⟨gU, 0, none⟩)] w fun e w' => e = .returned (.bool (decide (dueW r l.since < t))) ∧ Ext w w' := by
 have hE : Ext w (w.alloc (.cells #[.string l.piece, .int .i64 l.no, .string l.singer, .int .i64 l.since, .int .i64 l.till, .bool l.lost] 148)) := (Ext.refl w).alloc _
 have g0 := hG.cell 0
 have lg := hG.lt
 have u0 := hU.cell 0
 have lu := hU.lt
 obtain ⟨h2, h3⟩ := hr.days
 have hw1 : IntKind.i64.wrap (r.days * 86400000) = r.days * 86400000 := IntWalk.i64_in _ (by omega)
 obtain ⟨z, hw2⟩ : ∃ z, IntKind.i64.wrap (l.since + r.days * 86400000) = z := ⟨_, rfl⟩
 rw [show dueW r l.since = z from hw2]
 clear hG hU hr; replace hE := Lib.hid hE
 go_enter Tryz.func97, Tryz.ntmps97
 go_wp2
 go_ret
 exact ⟨rfl, hE.out⟩
set_option maxRecDepth 100000 in
set_option maxHeartbeats 6400000 in
theorem lateDoc_any (tp : Option Addr) (tn tc : Nat) (T : List TitleV) (r : LendR) (dp : Option Addr) (dn dc : Nat) (d : List SlipV) (t : Int) (w : World) (h : ListsM w tp tn tc T r dp dn dc d) :
 Calls Tryz.prog 36 #[.slice tp tn tc, lendVal r, .slice dp dn dc, .int .i64 t] w fun e w' => ∃ v : Value, e = .returned v ∧ LateT (lateL r t (libAt T r d t).1.loans) w v w' := by
 have hsh := fun u hu => shelvedL h t u hu
 obtain ⟨L, hLe⟩ : ∃ L, L = (libAt T r d t).1 := ⟨_, rfl⟩
 have hLo := lend_ok (libF_zero h.ok).2.1
 have hN := libAt_N (T := T) (r := r) (t := t) (slipsF_right (libF_zero h.ok).2.2) h.ss
 have hI := libAt_I (T := T) (r := r) (t := t) (slipsF_right (libF_zero h.ok).2.2) h.ss
 have hLT := libAt_T (T := T) (r := r) (t := t) (slipsF_right (libF_zero h.ok).2.2) h.ss
 rw [← hLe] at hN hI hLT ⊢
 have hdl := h.sl.1.1
 have hdn := h.sn
 have hLl : L.loans.length ≤ 19 := by have := hN.loans; omega
 have hdf := byL_diff hI (fun l => decide (dueW r l.since < t))
 have hbl := byL_late hLo t (X := L.loans) hLT
 have hE : Ext w ((w.alloc (.cells #[.int .i64 r.days, .int .i64 r.late, .int .i64 r.most, .int .i64 r.each] 28)).alloc (.cells #[.int .i64 t] 3)) := ((Ext.refl w).alloc _).alloc _
 have hG0 : Blk ((w.alloc (.cells #[.int .i64 r.days, .int .i64 r.late, .int .i64 r.most, .int .i64 r.each] 28)).alloc (.cells #[.int .i64 t] 3)) w.heap.size 28 #[.int .i64 r.days, .int .i64 r.late, .int .i64 r.most, .int .i64 r.each] := (Blk.new' rfl).alloc _
 have hU0 : Blk ((w.alloc (.cells #[.int .i64 r.days, .int .i64 r.late, .int .i64 r.most, .int .i64 r.each] 28)).alloc (.cells #[.int .i64 t] 3)) (w.heap.size + 1) 3 #[.int .i64 t] := Blk.new' (by simp)
 have hres : ∀ (v : Value) (M : List LentV) (w' : World), M.Perm (lateL r t L.loans) → M.Pairwise lateLt → w'.ownsRow w.heap.size 65 4 v M.length (M.flatMap lentC) → Ext w w' → LateT (lateL r t L.loans) w v w' := fun v M w' h2 h3 h4 h5 =>
  lateT_of h2 h3 h4 (Nat.le_trans (List.length_filter_le _ _) (Nat.le_trans (outL_len _) (by omega))) h5
 have hll : (lateL r t L.loans).length ≤ 19 := Nat.le_trans (List.length_filter_le _ _) (Nat.le_trans (outL_len _) hLl)
 unfold lendVal at hsh ⊢
 clear h hN hI hdl hdn; replace hsh := Lib.hid hsh; replace hLe := Lib.hid hLe; replace hE := Lib.hid hE; replace hdf := Lib.hid hdf; replace hbl := Lib.hid hbl; replace hG0 := Lib.hid hG0; replace hU0 := Lib.hid hU0; replace hres := Lib.hid hres
 go_enter Tryz.func36, Tryz.ntmps36
 go_wp2_with (first
  | (go_at_call 77; (with_reducible refine Calls.mono (hsh.out _ hE.out) ?_); rintro e w4 ⟨base, bb, ms, mr, q, nr, rfl, hSM, hb4⟩; rw [← hLe.out] at hSM; have hby := lentByLate_any hSM (by omega) w.heap.size (w.heap.size + 1) (fun l => decide (dueW r l.since < t)) hdf.out (fun v hv l => lateCloD_any (hG0.out.ext (hb4.trans hv)) (hU0.out.ext (hb4.trans hv)) hLo l); replace hby := Lib.hid hby; clear hSM)
  | (go_at_call 79; (with_reducible refine Calls.mono hby.out ?_); rintro e w5 ⟨v5, M, rfl, hMp, hMs, hMo, hMx⟩; rw [hbl.out] at hMp; have hML : M.length ≤ 19 := (by rw [hMp.length_eq]; exact hll); have hso := stableDAll hMo hML hMs; replace hso := Lib.hid hso)
  | (go_at_call 91; (with_reducible refine Calls.mono hso.out ?_); rintro e w8 ⟨rfl, N, hN1, hN2, hN3, hN4⟩; have hE8 := hN4 _ hMx (Nat.le_refl _)))
 have hr := hres.out v5 N w8 (hN1.trans hMp) hN2 (own_low hN3 (hE.out.trans hb4).size) ((hE.out.trans hb4).trans hE8)
 go_ret
 exact ⟨_, rfl, hr⟩
end Go.Proofs.YtkjhbofbcmelgaaGreatDoor
namespace Go.Proofs.YtkjhbofbcmelgaaGreatDoor
open Go Go.RowKit Go.Sort
theorem debt_few2 {T : List TitleV} {r : LendR} {t : Int} {X : List LoanV} {M : List DebtV} (h : DebtP T r t X M) : M.length ≤ X.length := by
 have h1 : (M.map Prod.fst).Nodup := by
  have h2 : M.Pairwise fun a b => a.1 ≠ b.1 := by
   have h3 := debt_nodup h.1
   refine h3.imp_of_mem fun {a b} ha hb hab e => hab ?_
   have ea := ((h.2 a).1 ha).1
   have eb := ((h.2 b).1 hb).1
   rw [e, eb] at ea
   exact Prod.ext e (Option.some.inj ea).symm
  exact List.pairwise_map.2 h2
 have h2 := nodup_sub h1 (B := X.map LoanV.singer) fun s hs => by
  obtain ⟨z, hz, rfl⟩ := List.mem_map.1 hs
  have h3 := ((h.2 z).1 hz).1
  unfold owedM at h3
  split at h3
  ·rename_i h4
   obtain ⟨l, hl, he⟩ := List.any_eq_true.1 h4
   exact List.mem_map.2 ⟨l, hl, of_decide_eq_true he⟩
  ·cases h3
 simpa using h2
def owesA (T : List TitleV) (r : LendR) (d : List SlipV) (t : Int) (s : ByteArray) : Int := if atF T r d t (keyE s) = 0 then sumD T r t (libAt T r d t).1.loans s else 0
theorem mom_in {t : Int} (h : outB t 0 345686399999 = false) : 0 ≤ t ∧ t ≤ 345686399999 := by unfold outB at h; simp at h; omega
theorem owes_uni (tp : Option Addr) (tn tc : Nat) (T : List TitleV) (r : LendR) (dp : Option Addr) (dn dc : Nat) (d : List SlipV) (s : ByteArray) (t : Int) (w : World) (h : ListsW w tp tn tc T r dp dn dc d) (hs : s.size ≤ 1000000) :
 Calls Tryz.prog 31 #[.slice tp tn tc, lendVal r, .slice dp dn dc, .string s, .int .i64 t] w fun e w' => e = .returned (.tuple #[.int .i64 (owesA T r d t s), .int .i64 (atF T r d t (keyE s))]) ∧ Ext w w' := by
 unfold owesA
 by_cases hF : atF T r d t (keyE s) = 0
 ·obtain ⟨h1, h2, h3⟩ := atF_zero hF
  rw [if_pos hF, hF]
  exact owes_any tp tn tc T r dp dn dc d s t w (h.ok h1) hs h2 h3 (mom_in h3)
 ·rw [if_neg hF]
  exact owes_bad tp tn tc T r dp dn dc d s t w h hs hF
theorem owesD_uni (tp : Option Addr) (tn tc : Nat) (T : List TitleV) (r : LendR) (dp : Option Addr) (dn dc : Nat) (d : List SlipV) (s : ByteArray) (t : Int) (w : World) (h : ListsW w tp tn tc T r dp dn dc d) (hF : atF T r d t (keyE s) = 0) :
 Calls Tryz.prog 34 #[.slice tp tn tc, lendVal r, .slice dp dn dc, .string s, .int .i64 t] w fun e w' => e = .returned (.int .i64 (owesA T r d t s)) ∧ Ext w w' := by
 obtain ⟨h1, h2, h3⟩ := atF_zero hF
 unfold owesA
 rw [if_pos hF]
 exact owedBy_any tp tn tc T r dp dn dc d s t w (h.ok h1) (mom_in h3)
theorem owesA_bad {T : List TitleV} {r : LendR} {d : List SlipV} {t : Int} {s : ByteArray} (h : atF T r d t (keyE s) ≠ 0) : owesA T r d t s = 0 := by unfold owesA; rw [if_neg h]
/-- What all owe; nothing where something is wrong. -/
def debtC2 (T : List TitleV) (r : LendR) (d : List SlipV) (t : Int) (M : List DebtV) : Prop := if atF T r d t 0 = 0 then DebtP T r t (libAt T r d t).1.loans M else M = []
theorem debtC2_uniq {T : List TitleV} {r : LendR} {d : List SlipV} {t : Int} {M N : List DebtV} (h : debtC2 T r d t M) (k : debtC2 T r d t N) : M = N := by
 unfold debtC2 at h k
 by_cases hF : atF T r d t 0 = 0
 ·rw [if_pos hF] at h k
  exact debt_uniq h k
 ·rw [if_neg hF] at h k
  rw [h, k]
theorem debtC2_bad {T : List TitleV} {r : LendR} {d : List SlipV} {t : Int} (h : atF T r d t 0 ≠ 0) : debtC2 T r d t [] := by unfold debtC2; rw [if_neg h]
def DebtT (C : List DebtV → Prop) (w : World) (v : Value) (w' : World) : Prop := ∃ (p : Option Addr) (c : Nat) (M : List DebtV), v = .slice p M.length c ∧ C M ∧ M.length ≤ 1000 ∧ Slc 2 lpC w' p M.length c (M.map debtPair) ∧ Ext w w'
theorem debtT_of {C : List DebtV → Prop} {M : List DebtV} {w w' : World} {v : Value} {base : Nat} (hC : C M) (hl : M.length ≤ 1000) (ho : w'.ownsRow base 77 2 v M.length ((M.map debtPair).flatMap lpC)) (he : Ext w w') : DebtT C w v w' := by
 have e1 : M.length = (M.map debtPair).length := by simp
 rw [e1] at ho
 obtain ⟨p, c, rfl, hS⟩ := slc_of_own lpC_len ho (by decide) (by omega)
 rw [← e1] at hS
 exact ⟨p, c, M, by rw [← e1], hC, hl, hS, he⟩
theorem debtT_nil {C : List DebtV → Prop} {w w' : World} (hC : C []) (he : Ext w w') : DebtT C w (.slice none 0 0) w' := ⟨none, 0,[], rfl, hC, by simp, Slc.nil _ _ _, he⟩
theorem loans_few {T : List TitleV} {r : LendR} {d : List SlipV} (hF : libF T r d = 0) (hs : ∀ x ∈ d, x.Small) (hn : d.length ≤ 19) (t : Int) : (libAt T r d t).1.loans.length ≤ 1000 := by
 have hN := libAt_N (T := T) (r := r) (t := t) (slipsF_right (libF_zero hF).2.2) hs
 have := hN.loans
 omega
theorem debts_uni (B : Nat) (tp : Option Addr) (tn tc : Nat) (T : List TitleV) (r : LendR) (dp : Option Addr) (dn dc : Nat) (d : List SlipV) (t : Int) (w : World) (h : ListsW w tp tn tc T r dp dn dc d) (hB : Tab B w) :
 Calls Tryz.prog 32 #[.slice tp tn tc, lendVal r, .slice dp dn dc, .int .i64 t] w fun e w' => ∃ v : Value, e = .returned (.tuple #[v, .int .i64 (atF T r d t 0)]) ∧ DebtT (debtC2 T r d t) w v w' := by
 by_cases hF : atF T r d t 0 = 0
 ·obtain ⟨h1, h2, h3⟩ := atF_zero hF
  have hl := loans_few h1 h.ss (by have := h.sl.1.1; have := h.sn; omega) t
  rw [hF]
  refine (debts_any B tp tn tc T r dp dn dc d t w (h.ok h1) h3 hB).mono fun e w' h9 => ?_
  obtain ⟨v, M, hP, rfl, ho, hx⟩ := h9
  exact ⟨v, rfl, debtT_of (by unfold debtC2; rw [if_pos hF]; exact hP) (Nat.le_trans (debt_few2 hP) hl) ho hx⟩
 ·exact (debts_bad tp tn tc T r dp dn dc d t w h hF).mono fun e w' h9 => ⟨_, h9.1, debtT_nil (debtC2_bad hF) h9.2⟩
theorem debtsD_uni (B : Nat) (tp : Option Addr) (tn tc : Nat) (T : List TitleV) (r : LendR) (dp : Option Addr) (dn dc : Nat) (d : List SlipV) (t : Int) (w : World) (h : ListsW w tp tn tc T r dp dn dc d) (hB : Tab B w) (hF : atF T r d t 0 = 0) :
 Calls Tryz.prog 35 #[.slice tp tn tc, lendVal r, .slice dp dn dc, .int .i64 t] w fun e w' => ∃ v : Value, e = .returned v ∧ DebtT (debtC2 T r d t) w v w' := by
 obtain ⟨h1, h2, h3⟩ := atF_zero hF
 have hl := loans_few h1 h.ss (by have := h.sl.1.1; have := h.sn; omega) t
 refine (debtsDoc_any B tp tn tc T r dp dn dc d t w (h.ok h1) (mom_in h3) hB).mono fun e w' h9 => ?_
 obtain ⟨v, M, hP, rfl, ho, hx⟩ := h9
 exact ⟨v, rfl, debtT_of (by unfold debtC2; rw [if_pos hF]; exact hP) (Nat.le_trans (debt_few2 hP) hl) ho hx⟩
def lateA (T : List TitleV) (r : LendR) (d : List SlipV) (t : Int) : List LentV := if atF T r d t 0 = 0 then lateL r t (libAt T r d t).1.loans else []
theorem lateA_bad {T : List TitleV} {r : LendR} {d : List SlipV} {t : Int} (h : atF T r d t 0 ≠ 0) : lateA T r d t = [] := by unfold lateA; rw [if_neg h]
theorem late_uni (tp : Option Addr) (tn tc : Nat) (T : List TitleV) (r : LendR) (dp : Option Addr) (dn dc : Nat) (d : List SlipV) (t : Int) (w : World) (h : ListsW w tp tn tc T r dp dn dc d) :
 Calls Tryz.prog 33 #[.slice tp tn tc, lendVal r, .slice dp dn dc, .int .i64 t] w fun e w' => ∃ v : Value, e = .returned (.tuple #[v, .int .i64 (atF T r d t 0)]) ∧ LateT (lateA T r d t) w v w' := by
 unfold lateA
 by_cases hF : atF T r d t 0 = 0
 ·obtain ⟨h1, h2, h3⟩ := atF_zero hF
  rw [if_pos hF, hF]
  exact late_any tp tn tc T r dp dn dc d t w (h.ok h1) h3
 ·rw [if_neg hF]
  exact (late_bad tp tn tc T r dp dn dc d t w h hF).mono fun e w' h9 => ⟨_, h9.1, lateT_nil h9.2⟩
theorem lateD_uni (tp : Option Addr) (tn tc : Nat) (T : List TitleV) (r : LendR) (dp : Option Addr) (dn dc : Nat) (d : List SlipV) (t : Int) (w : World) (h : ListsW w tp tn tc T r dp dn dc d) (hF : atF T r d t 0 = 0) :
 Calls Tryz.prog 36 #[.slice tp tn tc, lendVal r, .slice dp dn dc, .int .i64 t] w fun e w' => ∃ v : Value, e = .returned v ∧ LateT (lateA T r d t) w v w' := by
 obtain ⟨h1, h2, h3⟩ := atF_zero hF
 unfold lateA
 rw [if_pos hF]
 exact lateDoc_any tp tn tc T r dp dn dc d t w (h.ok h1)
end Go.Proofs.YtkjhbofbcmelgaaGreatDoor
