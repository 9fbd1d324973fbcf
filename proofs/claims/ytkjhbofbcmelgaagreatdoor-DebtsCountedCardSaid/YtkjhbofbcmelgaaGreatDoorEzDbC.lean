/- What all owe: the walk of Debts when all is right. Conditions: sizes; at most 19 slips; the table of the powers of ten stands. -/
import Derived.Test.YtkjhbofbcmelgaaGreatDoorEzJ32
import Derived.Test.YtkjhbofbcmelgaaGreatDoorEzJ18
import Derived.Test.YtkjhbofbcmelgaaGreatDoorEzLcA
import Derived.Test.YtkjhbofbcmelgaaGreatDoorEzLbV
set_option linter.unusedSimpArgs false
set_option linter.unusedVariables false
namespace Go.Proofs.YtkjhbofbcmelgaaGreatDoor
open Go Go.RowKit Go.Sort
def DebtsR (T : List TitleV) (r : LendR) (d : List SlipV) (t : Int) (w : World) (e : Ending) (w' : World) : Prop :=
 ∃ (v : Value) (M : List DebtV), DebtP T r t (libAt T r d t).1.loans M ∧ e = .returned (.tuple #[v, .int .i64 0]) ∧ w'.ownsRow w.heap.size 77 2 v M.length ((M.map debtPair).flatMap lpC) ∧ Ext w w'
theorem debtInfo : (Tryz.prog.info? 155).map (fun i => (i.zero, i.size, i.bytes)) = some (some (.agg #[.string ⟨#[]⟩, .int .i64 0]), 2,24) := by kernel_rfl
/-- The debts of some singers. -/
def dbL (T : List TitleV) (r : LendR) (t : Int) (X : List LoanV) (ks : List ByteArray) : List DebtV := (ks.map fun s => (s, sumD T r t X s)).filter fun z => decide (0 < z.2)
theorem dbL_snoc (T : List TitleV) (r : LendR) (t : Int) (X : List LoanV) (ks : List ByteArray) (s : ByteArray) : dbL T r t X (ks ++ [s]) = dbL T r t X ks ++ if 0 < sumD T r t X s then [(s, sumD T r t X s)] else [] := by
 unfold dbL
 rw [List.map_append, List.filter_append]
 by_cases h : 0 < sumD T r t X s <;> simp [h]
theorem dbL_len (T : List TitleV) (r : LendR) (t : Int) (X : List LoanV) (ks : List ByteArray) : (dbL T r t X ks).length ≤ ks.length := by
 unfold dbL
 exact Nat.le_trans (List.length_filter_le _ _) (by simp)
theorem dbL_diff {T : List TitleV} {r : LendR} {t : Int} {X : List LoanV} {ks : List ByteArray} (h : ks.Nodup) : (dbL T r t X ks).Pairwise fun a b => a.1 ≠ b.1 := by
 unfold dbL
 exact List.Pairwise.filter _ (List.pairwise_map.2 (h.imp fun h => h))
theorem key_small {s : ByteArray} (h : keyB s = true) : s.size ≤ 40 := by
 unfold keyB at h
 simp only [Bool.and_eq_true, decide_eq_true_eq] at h
 exact h.1.1.2
theorem debtP_of {T : List TitleV} {r : LendR} {t : Int} {X : List LoanV} {ks : List ByteArray} {M : List DebtV} (hX : ∀ l ∈ X, LoanT l) (hall : ∀ k : ByteArray, k.size ≤ 1000000 → (k ∈ ks ↔ (owedM T r t X k).isSome = true)) (hok : ∀ k ∈ ks, k.size ≤ 1000000) (hM : ByK debtN Prod.fst (dbL T r t X ks) M) : DebtP T r t X M := by
 refine ⟨hM.2.imp fun h => (debtLt_K _ _).1 h, fun z => ?_⟩
 rw [hM.1.mem_iff]
 unfold dbL
 simp only [List.mem_filter, List.mem_map, decide_eq_true_eq]
 constructor
 ·rintro ⟨⟨s, hs, rfl⟩, h0⟩
  have h1 := (hall s (hok s hs)).1 hs
  refine ⟨?_, h0⟩
  unfold owedM at h1 ⊢
  split at h1
  ·rename_i h2
   rw [if_pos h2]
  ·cases h1
 ·rintro ⟨h1, h0⟩
  have h2 : X.any (fun l => decide (l.singer = z.1)) = true ∧ sumD T r t X z.1 = z.2 := by
   unfold owedM at h1
   split at h1
   ·rename_i h2; exact ⟨h2, Option.some.inj h1⟩
   ·cases h1
  obtain ⟨l, hl, he⟩ := List.any_eq_true.1 h2.1
  have he := of_decide_eq_true he
  have hs := key_small (hX l hl).2.2
  rw [he] at hs
  exact ⟨⟨z.1, (hall z.1 (by omega)).2 (by rw [h1]; rfl), by rw [h2.2]⟩, h0⟩
theorem take_map {α β : Type} {f : α → β} {X : List α} {k : Nat} {x : α} (h : X[k]? = some x) : (X.map f).take (k + 1) = (X.map f).take k ++ [f x] := take_snocL (by rw [List.getElem?_map, h]; rfl)
set_option maxRecDepth 100000 in
set_option maxHeartbeats 3200000 in
theorem debts_any (B : Nat) (tp : Option Addr) (tn tc : Nat) (T : List TitleV) (r : LendR) (dp : Option Addr) (dn dc : Nat) (d : List SlipV) (t : Int) (w : World) (h : ListsM w tp tn tc T r dp dn dc d) (ht : outB t 0 345686399999 = false) (hB : Tab B w) :
 Calls Tryz.prog 32 #[.slice tp tn tc, lendVal r, .slice dp dn dc, .int .i64 t] w (DebtsR T r d t w) := by
 have hat := fun u (hu : Ext w u) => atN_any tp tn tc T r dp dn dc d t u (h.ext hu) ht
 have hTo := titlesF_ok (libF_zero h.ok).1
 have hLo := lend_ok (libF_zero h.ok).2.1
 have hd := slipsF_right (libF_zero h.ok).2.2
 have hN := libAt_N (T := T) (r := r) (t := t) hd h.ss
 have hLT := libAt_T (T := T) (r := r) (t := t) hd h.ss
 have htb : 0 ≤ t ∧ t ≤ 345686399999 := by unfold outB at ht; simp at ht; omega
 have hTT := h.ti
 have hdl := h.sl.1.1
 have hdn := h.sn
 have hmm := @run_makeMap Tryz.prog
 obtain ⟨L, hLe⟩ : ∃ L, L = (libAt T r d t).1 := ⟨_, rfl⟩
 have hX19 : L.loans.length ≤ 19 := by have := hN.loans; rw [← hLe] at this; omega
 rw [← hLe] at hLT
 have hat2 : ∀ u, Ext w u → Calls Tryz.prog 64 #[.slice tp tn tc, lendVal r, .slice dp dn dc, .int .i64 t, .func (.func 67) #[] #[]] u fun e w' => ∃ (base bb ms ml mh q : Nat), e = .returned (.tuple #[.pointer (some ⟨bb, 0, none⟩), .int .i64 0]) ∧ LibM base w' bb ms ml mh q tp tn tc r L ∧ Ext u w' := fun u hu => by
  have := hat u hu
  unfold AtR at this
  rw [← hLe] at this
  exact this
 unfold lendVal at hat2 ⊢
 have hE : Ext w (w.alloc (.cells #[.int .i64 r.days, .int .i64 r.late, .int .i64 r.most, .int .i64 r.each] 28)) := (Ext.refl w).alloc _
 clear h hd hat hN hdl hdn; replace hat2 := Lib.hid hat2; replace hE := Lib.hid hE; replace hTo := Lib.hid hTo; replace hTT := Lib.hid hTT; replace hLo := Lib.hid hLo; replace hLT := Lib.hid hLT; replace htb := Lib.hid htb; replace hLe := Lib.hid hLe
 go_enter Tryz.func32, Tryz.ntmps32
 go_upto_region 5 with (first
  | (go_at_call 64; (with_reducible refine Calls.mono (hat2.out _ hE.out) ?_); rintro e w1 ⟨base, bb, ms, ml, mh, q, rfl, hL, hb1⟩))
 have hEw := hE.out.trans hb1
 have hw1s := hEw.size
 have hO0 : OwnX strN (w1.alloc (.map #[] 0)) w1.heap.size 0 (owedM T r t []) := by rw [owedM_nil]; exact OwnX.made w1
 have hE0 : Ext w1 (w1.alloc (.map #[] 0)) := (Ext.refl w1).alloc _
 obtain ⟨⟨lv, hBl, ho⟩, -⟩ := hL
 obtain ⟨lp, lc, rfl, hS⟩ := slc_of_own loanC_len ho (by decide) (by omega)
 have c7 := hBl.cell 7
 have lb := hBl.lt
 have how := fun u (hu : Ext w1 u) (l : LoanV) (hl : l ∈ L.loans) => owed_any bb _ tp tn tc T r t l u (hBl.ext hu) rfl rfl rfl rfl (hTT.out.ext (hEw.trans hu)) hTo.out hLo.out htb.out (hLT.out l hl)
 have htbl := fun u (hu : Ext w1 u) => hB.ext (hEw.trans hu)
 have hres : ∀ v w' M, DebtP T r t L.loans M → w'.ownsRow w1.heap.size 77 2 v M.length ((M.map debtPair).flatMap lpC) → Ext w1 w' → DebtsR T r d t w (.returned (.tuple #[v, .int .i64 0])) w' := fun v w' M h1 h2 h3 => ⟨v, M, by rw [← hLe.out]; exact h1, rfl, own_low h2 hw1s, hEw.trans h3⟩
 unfold libC at c7
 have hLT2 : ∀ l ∈ L.loans, LoanT l := hLT.out
 generalize L.loans = X at *
 have hsb := fun (s : ByteArray) (k : Nat) => sumD_bound hTo.out hLo.out htb.out s (X := X.take k) (fun l hl => hLT2 l (List.mem_of_mem_take hl))
 have hob := fun l (hl : l ∈ X) => owed_bound hTo.out hLo.out htb.out (hLT2 l hl)
 clear ho hBl hb1 hE hat2 hB hEw; replace how := Lib.hid how; replace htbl := Lib.hid htbl; replace hres := Lib.hid hres; replace hsb := Lib.hid hsb; replace hob := Lib.hid hob; replace hS := Lib.hid hS; replace hO0 := Lib.hid hO0; replace hE0 := Lib.hid hE0; replace hLT2 := Lib.hid hLT2
 go_wp2
 generalize hgm : w1.heap.size = gm at *
 replace hgm := Lib.hid hgm
 go_loopw [38] (fun v38 wr => ∃ (k n : Nat), v38 = .int .i64 k ∧ k ≤ X.length ∧ n ≤ k ∧ OwnX strN wr gm n (owedM T r t (X.take k)) ∧ Ext w1 wr) (fun v38 _ => X.length - (intOf v38).toNat)
 case atStart => exact ⟨0,0, rfl, Nat.zero_le _, Nat.le_refl _, hO0.out, hE0.out⟩
 case round =>
  clear hO0 hE0
  obtain ⟨k, n, rfl, hk2, hnk, hO, he⟩ := hrel
  by_cases hlt : k < X.length
  ·obtain ⟨l, hx⟩ := getD_some (rfl : X.length = X.length) hlt
   obtain ⟨b, off, rfl, hb, hEl⟩ := hS.out.1.2.2 (by omega)
   have hEr := hEl.ext he hb
   have d0 : wr.cell? ⟨b, off + k * 6, none⟩ = some (.string l.piece) := hEr k _ hx 0 _ rfl
   have d1 : wr.cell? ⟨b, off + k * 6 + 1, none⟩ = some (.int .i64 l.no) := hEr k _ hx 1 _ rfl
   have d2 : wr.cell? ⟨b, off + k * 6 + 2, none⟩ = some (.string l.singer) := hEr k _ hx 2 _ rfl
   have d3 : wr.cell? ⟨b, off + k * 6 + 3, none⟩ = some (.int .i64 l.since) := hEr k _ hx 3 _ rfl
   have d4 : wr.cell? ⟨b, off + k * 6 + 4, none⟩ = some (.int .i64 l.till) := hEr k _ hx 4 _ rfl
   have d5 : wr.cell? ⟨b, off + k * 6 + 5, none⟩ = some (.bool l.lost) := hEr k _ hx 5 _ rfl
   have hkI : (k : Int) < (X.length : Int) := by omega
   have hmx := List.mem_of_getElem? hx
   have how1 := fun u (hu : Ext w1 u) => how.out u hu l hmx
   have hsz := key_small (hLT2.out l hmx).2.2
   have hput := owedM_put T r t (X.take k) l
   rw [← take_snocL hx] at hput
   have hget := owedM_get T r t (X.take k) l.singer
   have hb1 := hsb.out l.singer k
   rw [List.length_take] at hb1
   have hb2 := hob.out l hmx
   have hXa := Blk.new' (w := wr) (g := wr.heap.size) (t := 132) (cs := (loanC l).toArray) rfl
   have hEx : Ext wr (wr.alloc (.cells (loanC l).toArray 132)) := (Ext.refl wr).alloc _
   have hO1 := hO.ext hEx
   have hks : strN.ok l.singer := by show _ ≤ _; omega
   have hgl := hO.lt
   generalize sumD T r t (X.take k) l.singer = sm at *
   generalize owedF T r t l = ow at *
   have hws : IntKind.i64.wrap (sm + ow) = sm + ow := IntWalk.i64_in _ (by omega)
   unfold loanC at hXa hEx hO1 how1
   have lx := hXa.lt
   have x0 := hXa.cell 0
   have x1 := hXa.cell 1
   have x2 := hXa.cell 2
   have x3 := hXa.cell 3
   have x4 := hXa.cell 4
   have x5 := hXa.cell 5
   replace hx := Lib.hid hx; replace hEl := Lib.hid hEl; replace how1 := Lib.hid how1; replace hput := Lib.hid hput; replace hget := Lib.hid hget; replace hws := Lib.hid hws; replace hO1 := Lib.hid hO1; replace hEx := Lib.hid hEx; replace hks := Lib.hid hks; clear hEr hXa hO
   go_upto_region 8 with fail
   clear d0 d1 d2 d3 d4 d5
   generalize wr.heap.size = gx at *
   generalize (wr.alloc (.cells #[.string l.piece, .int .i64 l.no, .string l.singer, .int .i64 l.since, .int .i64 l.till, .bool l.lost] 132)) = W2 at *
   have hlk : ∀ u, Ext W2 u → (Instr.lookup 152 (.map (some gm)) (.string l.singer) false).run Tryz.prog u = .ok (.int .i64 sm) u := fun u hu => by
    have h9 := (hO1.out.ext hu).lookB hks.out
    rw [show strN.zero = 0 from rfl, hget.out] at h9
    exact h9
   replace hlk := Lib.hid hlk
   refine wp_region_facts [] [([],false,false),([],false,false),([1],false,false),([0,1,2],false,false),([],false,false),([],false,false),([],false,false),([4,5,6],false,false),([0,1,2,3,4,5,6,7],false,false)] (Ext) Ext (fun _ => True) (by kernel_rfl) (by kernel_rfl) Ext.refl (fun _ _ _ => Ext.trans) (fun _ _ h => h) (fun _ _ h => h.size) (fun _ _ h _ => h) trivial ?_
   dsimp only [List.length_cons, List.length_nil, List.drop_succ_cons, List.drop_zero, List.drop_nil]
   refine fq 0 rfl rfl rfl cK rfl rfl ?_; apply Exists.intro; constructor
   ·intro sv w' hw' hfa
    refine ⟨rfl, ?_⟩; simp only [putsL]; change qT _; simp only [qT, Act.put, sIA, sCS, sCZ]; simp [go_sem, quietTo, Ext.refl]; all_goals rfl
   refine fq 1 rfl rfl rfl cK rfl rfl ?_; apply Exists.intro; constructor
   ·intro sv w' hw' hfa
    refine ⟨rfl, ?_⟩; simp only [putsL]; change qT _; simp only [qT, Act.put, sIA, sCS, sCZ]; simp [go_sem, quietTo, Ext.refl]; all_goals rfl
   refine fq 2 rfl rfl rfl cK rfl rfl ?_; apply Exists.intro; constructor
   ·rintro sv w' hw' ⟨(f1 : sv 1 = _), -⟩; (try dsimp only at f1)
    have hk9 := (Ext.refl W2).drew.trans hw'; obtain ⟨hc, -, -⟩ := hk9.walk; have y2 := (hc gx 2 lx).trans x2
    refine ⟨rfl, ?_⟩; simp only [putsL]; change qT (pT _ 43 (sv 1)); simp only [qT, pT, Act.put, sIA, sCS, sCZ]; simp [go_sem, quietTo, Ext.refl, ↓IntWalk.iteOmega, f1, y2]; (all_goals try simp (disch := omega) only [IntWalk.i64_in]); all_goals rfl
   refine fq 3 rfl rfl rfl cK rfl rfl ?_; apply Exists.intro; constructor
   ·rintro sv w' hw' ⟨(f0 : sv 0 = _), _, (f2 : sv 2 = _), -⟩; (try dsimp only at f0 f2)
    have hk9 := (Ext.refl W2).drew.trans hw'; have z9 := hlk.out _ hk9
    refine ⟨rfl, ?_⟩; simp only [putsL]; change qT (pT (pT (pT _ 44 (sv 2)) 43 (sv 1)) 42 (sv 0)); simp only [qT, pT, Act.put, sIA, sCS, sCZ]; simp [go_sem, quietTo, Ext.refl, ↓IntWalk.iteOmega, f0, f2, z9]; (all_goals try simp (disch := omega) only [IntWalk.i64_in]); all_goals rfl
   refine fq 4 rfl rfl rfl cK rfl rfl ?_; apply Exists.intro; constructor
   ·intro sv w' hw' hfa
    refine ⟨rfl, ?_⟩; simp only [putsL]; change qT _; simp only [qT, Act.put, sIA, sCS, sCZ]; simp [go_sem, quietTo, Ext.refl]; all_goals rfl
   refine fq 5 rfl rfl rfl cK rfl rfl ?_; apply Exists.intro; constructor
   ·intro sv w' hw' hfa
    have hk9 := (Ext.refl W2).drew.trans hw'; obtain ⟨hc, -, -⟩ := hk9.walk; have y0 := (hc gx 0 lx).trans x0; have y1 := (hc gx 1 lx).trans x1; have y2 := (hc gx 2 lx).trans x2; have y3 := (hc gx 3 lx).trans x3; have y4 := (hc gx 4 lx).trans x4; have y5 := (hc gx 5 lx).trans x5
    refine ⟨rfl, ?_⟩; simp only [putsL]; change qT _; simp only [qT, Act.put, sIA, sCS, sCZ]; simp [go_sem, quietTo, Ext.refl, ↓IntWalk.iteOmega, y0, y1, y2, y3, y4, y5]; (all_goals try simp (disch := omega) only [IntWalk.i64_in]); all_goals rfl
   refine fq 6 rfl rfl rfl cK rfl rfl ?_; apply Exists.intro; constructor
   ·intro sv w' hw' hfa
    refine ⟨rfl, ?_⟩; simp only [putsL]; change qT _; simp only [qT, Act.put, sIA, sCS, sCZ]; simp [go_sem, quietTo, Ext.refl]; all_goals rfl
   refine fq 7 rfl rfl rfl cK rfl rfl ?_; apply Exists.intro; constructor
   ·rintro sv w' hw' ⟨(f4 : sv 4 = _), (f5 : sv 5 = _), (f6 : sv 6 = _), -⟩; (try dsimp only at f4 f5 f6)
    have hk9 := (Ext.refl W2).drew.trans hw'
    refine ⟨rfl, ?_⟩; simp only [putsL]; change qT (pT (pT (pT _ 48 (sv 6)) 47 (sv 5)) 46 (sv 4)); simp only [qT, pT, Act.put, sIA, sCS, sCZ]; simp [go_sem, quietTo, Ext.refl, ↓IntWalk.iteOmega, f4, f5, f6]; (all_goals try simp (disch := omega) only [IntWalk.i64_in]); all_goals first | rfl | (exact how1.out _ ((he.trans hEx.out).trans hk9))
   refine fq 8 rfl rfl rfl cK rfl rfl ?_; apply Exists.intro; constructor
   ·rintro sv w' hw' ⟨_, _, _, (f3 : sv 3 = _), _, _, _, (f7 : sv 7 = _), -⟩; (try dsimp only at f3 f7)
    refine ⟨rfl, ?_⟩; simp only [putsL]; change qT (pT (pT (pT (pT (pT (pT (pT (pT _ 49 (sv 7)) 48 (sv 6)) 47 (sv 5)) 46 (sv 4)) 45 (sv 3)) 44 (sv 2)) 43 (sv 1)) 42 (sv 0)); simp only [qT, pT, Act.put, sIA, sCS, sCZ]; simp [go_sem, quietTo, Ext.refl, ↓IntWalk.iteOmega, f3, f7, hws.out]; (all_goals try simp (disch := omega) only [IntWalk.i64_in]); all_goals rfl
   refine fac_nil fun xa wra hera hfra hcra holda hapa => ?_
   obtain ⟨(f0 : xa 0 = _), (f1 : xa 1 = _), (f2 : xa 2 = _), (f3 : xa 3 = _), (f4 : xa 4 = _), (f5 : xa 5 = _), (f6 : xa 6 = _), (f7 : xa 7 = _), (f8 : xa 8 = _), -⟩ := hfra; (try dsimp only at f0 f1 f2 f3 f4 f5 f6 f7 f8)
   change wpList _ _ _ _ (pT (pT (pT (pT (pT (pT (pT (pT (pT _ 42 (xa 0)) 43 (xa 1)) 44 (xa 2)) 45 (xa 3)) 46 (xa 4)) 47 (xa 5)) 48 (xa 6)) 49 (xa 7)) 50 (xa 8)) _
   simp only [putsL, Nat.reduceAdd, List.drop_succ_cons, List.drop_zero, List.drop_nil, pT, Act.put, sIA, sCS, sCZ]
   try simp only [f0, f1, f2, f3, f4, f5, f6, f7, f8]
   clear f0 f1 f2 f3 f4 f5 f6 f7 f8; clear holda hapa
   have hka := (Ext.refl W2).drew.trans hera
   have hE2 := (he.trans hEx.out).trans hka
   obtain ⟨w6, hrun, hO6, hg6⟩ := (hO1.out.ext hka).put hks.out (by omega) (sm + ow)
   rw [hput.out] at hO6
   change (Instr.mapUpdate 152 (.map (some gm)) (.string l.singer) (.int .i64 (sm + ow))).run Tryz.prog wra = .ok () w6 at hrun
   have hE6 : Ext w1 w6 := hE2.grown hg6 (fun q e => by cases e; have := hgm.out; omega)
   replace hrun := Lib.hid hrun; clear hera hka hcra x0 x1 x2 x3 x4 x5 hlk
   go_wp2_with (refine wpList_putM rfl _ _ _ 152 rfl (.map (some gm)) (.string l.singer) (.int .i64 (sm + ow)) rfl rfl rfl w6 hrun.out ?_)
   go_roundw
   case rel => exact ⟨k + 1, _, by go_num, by omega, by split <;> omega, hO6, hE6⟩
   case measure => simp [intOf]; omega
  ·obtain rfl : X.length = k := by omega
   rw [List.take_length] at hO
   have hall : ∀ s : ByteArray, s.size ≤ 1000000 → ∀ ks : List ByteArray, (s ∈ ks ↔ (owedM T r t X s).isSome = true) → (s ∈ ks ↔ (owedM T r t X s).isSome = true) := fun _ _ _ h => h
   clear hall
   have hfb : ∀ s n', owedM T r t X s = some n' → n' = sumD T r t X s ∧ 0 ≤ n' ∧ n' ≤ 380000 := fun s n' hs => by
    have h1 := hsb.out s X.length
    rw [List.take_length] at h1
    have h2 := owedM_get T r t X s
    rw [hs] at h2
    simp only [Option.getD_some] at h2
    exact ⟨h2, by omega, by omega⟩
   replace hfb := Lib.hid hfb
   have hgl := hO.lt
   go_wp2_with (at_range; go_loud (refine wpList_range_X _ rfl _ rfl gm n (owedM T r t X) rfl hO ?_; intro w6 hr6 hg6 hs6))
   go_frame
   have hE6 : Ext w1 w6 := he.grown hg6 fun q e => by cases e
   generalize hrr : wr.heap.size = rr at *
   have hrg : w1.heap.size ≤ rr := by have := he.size; omega
   replace hr6 := Lib.hid hr6; replace hE6 := Lib.hid hE6
   have hgr : gm < rr := hgl
   replace hgl := Lib.hid hgl; clear hg6 hO he
   go_loopw [15] (fun v15 wr => ∃ (ks : List ByteArray) (cnt : Nat), RngX strN wr gm rr n (owedM T r t X) ks cnt ∧ ks.Nodup ∧ wr.ownsRow (rr + 1) 155 2 v15 (dbL T r t X ks).length ((dbL T r t X ks).flatMap debtC) ∧ Ext w1 wr) (fun _ wr => wr.rangeLeft gm rr)
   case atStart => exact ⟨[], n, hr6.out, List.nodup_nil, World.ownsRow_nil _ _ _ _, hE6.out⟩
   case round =>
    clear hr6 hE6
    obtain ⟨ks, cnt, hR, hnd, hown, hE⟩ := hrel
    obtain ⟨hoks, hcn⟩ := hR.oks
    have hRl0 := hR.left_eq
    have hdl := dbL_len T r t X ks
    go_wp2_with (at_next; go_loud (refine wpList_next_V rfl _ rfl intRd_shape datI_inj gm rr n (owedM T r t X) ks cnt rfl hR ?_ ?_))
    ·intro hc0 hall
     have hPP := fun M hM => debtP_of (T := T) (r := r) (t := t) (X := X) (ks := ks) (M := M) hLT2.out hall hoks hM
     have hso := sortDebtAll_any hown (by omega) (dbL_diff hnd)
     replace hso := Lib.hid hso; replace hPP := Lib.hid hPP; replace hall := Lib.hid hall; replace hown := Lib.hid hown
     go_upto_region 18 with (go_at_call 83; (with_reducible refine Calls.mono hso.out ?_); rintro e w3 ⟨rfl, M, hM, ho3, hx3⟩)
     have hP := hPP.out M hM
     have hMl : M.length ≤ 1000 := by rw [hM.1.length_eq]; omega
     have hE3 := hx3 w1 hE (by omega)
     have hw3 := hE3.size
     have hbnd : ∀ z ∈ M, 0 ≤ z.2 ∧ z.2 ≤ 380000 := fun z hz => (hfb.out z.1 z.2 ((hP.2 z).1 hz).1).2
     obtain ⟨q3, c3, rfl, hS3⟩ := slc_of_own debtC_len ho3 (by decide) (by omega)
     have hr3 := fun v w' h1 h2 => hres.out v w' M hP h1 h2
     replace hr3 := Lib.hid hr3; replace hS3 := Lib.hid hS3; replace hbnd := Lib.hid hbnd; clear hso hPP hx3 ho3 hM hP hE hR hRl0
     go_wp2
     go_loopw [18,71] (fun v18 v71 wr => ∃ (k : Nat) (v : Value), v71 = .int .i64 k ∧ v = v18 ∧ k ≤ M.length ∧ wr.ownsRow w3.heap.size 77 2 v k (((M.map debtPair).take k).flatMap lpC) ∧ Ext w3 wr) (fun _ v71 _ => M.length - (intOf v71).toNat)
     case atStart => exact ⟨0, _, rfl, rfl, Nat.zero_le _, World.ownsRow_nil _ _ _ _, Ext.refl _⟩
     case round =>
      obtain ⟨k, v, rfl, rfl, hk2, hop, he⟩ := hrel
      by_cases hlt : k < M.length
      ·obtain ⟨z, hx⟩ := getD_some (rfl : M.length = M.length) hlt
       obtain ⟨b, off, rfl, hb, hEl⟩ := hS3.out.1.2.2 (by omega)
       have d0 : wr.cell? ⟨b, off + k * 2, none⟩ = some (.string z.1) := (hEl.ext he hb) k _ hx 0 _ rfl
       have d1 : wr.cell? ⟨b, off + k * 2 + 1, none⟩ = some (.int .i64 z.2) := (hEl.ext he hb) k _ hx 1 _ rfl
       have hkI : (k : Int) < (M.length : Int) := by omega
       have hzb := hbnd.out z (List.mem_of_getElem? hx)
       have htk := take_map (f := debtPair) hx
       have hszr := he.size
       have hXa := Blk.new' (w := wr) (g := wr.heap.size) (t := 155) (cs := #[.string z.1, .int .i64 z.2]) rfl
       have hEx : Ext wr (wr.alloc (.cells #[.string z.1, .int .i64 z.2] 155)) := (Ext.refl wr).alloc _
       have hown1 := hop.alloc (.cells #[.string z.1, .int .i64 z.2] 155)
       have lx := hXa.lt
       have x0 := hXa.cell 0
       have x1 := hXa.cell 1
       replace hx := Lib.hid hx; replace hEl := Lib.hid hEl; replace htk := Lib.hid htk; replace hEx := Lib.hid hEx; clear hXa
       go_upto_region 21 with fail
       clear d0 d1
       generalize wr.heap.size = gx at *
       generalize (wr.alloc (.cells #[.string z.1, .int .i64 z.2] 155)) = W2 at *
       refine wp_region_facts [0] [([],false,false),([],false,false),([1],false,false),([],false,false),([3],false,false),([3,4],false,false),([1,2,3,4,5],false,false),([1,2,3,4,5,6], false, true)] (Ext) Ext (fun _ => True) (by kernel_rfl) (by kernel_rfl) Ext.refl (fun _ _ _ => Ext.trans) (fun _ _ h => h) (fun _ _ h => h.size) (fun _ _ h _ => h) trivial ?_
       dsimp only [List.length_cons, List.length_nil, List.drop_succ_cons, List.drop_zero, List.drop_nil]
       refine fac_late 0 rfl rfl Ext.refl cK rfl rfl (fun _ _ _ _ h => h) ?_; apply Exists.intro; constructor
       ·intro sv w' hw' hfa
        refine ⟨rfl, fun w2 => ?_⟩
        simp only [putsL]
        change pureTo _ _ (Sem.run _ (execOp (Act.eval _) _) _)
        try simp only [Act.put, sIA, sCS, sCZ]
        simp [go_sem, pureTo]
        (all_goals try simp (disch := omega) only [IntWalk.i64_in]); all_goals rfl
       refine fq 1 rfl rfl rfl cK rfl rfl ?_; apply Exists.intro; constructor
       ·intro sv w' hw' hfa
        refine ⟨rfl, ?_⟩; simp only [putsL]; change qT _; simp only [qT, Act.put, sIA, sCS, sCZ]; simp [go_sem, quietTo, Ext.refl]; all_goals rfl
       refine fq 2 rfl rfl rfl cK rfl rfl ?_; apply Exists.intro; constructor
       ·rintro sv w' hw' ⟨(f1 : sv 1 = _), -⟩; (try dsimp only at f1)
        have hk9 := (Ext.refl W2).drew.trans hw'; obtain ⟨hc, -, -⟩ := hk9.walk; have y0 := (hc gx 0 lx).trans x0; have y1 := (hc gx 1 lx).trans x1
        refine ⟨rfl, ?_⟩; simp only [putsL]; change qT (pT _ 76 (sv 1)); simp only [qT, pT, Act.put, sIA, sCS, sCZ]; simp [go_sem, quietTo, Ext.refl, ↓IntWalk.iteOmega, f1, y0]; (all_goals try simp (disch := omega) only [IntWalk.i64_in]); all_goals rfl
       refine fq 3 rfl rfl rfl cK rfl rfl ?_; apply Exists.intro; constructor
       ·intro sv w' hw' hfa
        refine ⟨rfl, ?_⟩; simp only [putsL]; change qT _; simp only [qT, Act.put, sIA, sCS, sCZ]; simp [go_sem, quietTo, Ext.refl]; all_goals rfl
       refine fq 4 rfl rfl rfl cK rfl rfl ?_; apply Exists.intro; constructor
       ·rintro sv w' hw' ⟨(f3 : sv 3 = _), -⟩; (try dsimp only at f3)
        have hk9 := (Ext.refl W2).drew.trans hw'; obtain ⟨hc, -, -⟩ := hk9.walk; have y0 := (hc gx 0 lx).trans x0; have y1 := (hc gx 1 lx).trans x1
        refine ⟨rfl, ?_⟩; simp only [putsL]; change qT (pT _ 78 (sv 3)); simp only [qT, pT, Act.put, sIA, sCS, sCZ]; simp [go_sem, quietTo, Ext.refl, ↓IntWalk.iteOmega, f3, y1]; (all_goals try simp (disch := omega) only [IntWalk.i64_in]); all_goals rfl
       refine fq 5 rfl rfl rfl cK rfl rfl ?_; apply Exists.intro; constructor
       ·rintro sv w' hw' ⟨(f3 : sv 3 = _), (f4 : sv 4 = _), -⟩; (try dsimp only at f3 f4)
        have hk9 := (Ext.refl W2).drew.trans hw'; obtain ⟨hc, -, -⟩ := hk9.walk; have y0 := (hc gx 0 lx).trans x0; have y1 := (hc gx 1 lx).trans x1
        refine ⟨rfl, ?_⟩; simp only [putsL]; change qT (pT (pT _ 79 (sv 4)) 78 (sv 3)); simp only [qT, pT, Act.put, sIA, sCS, sCZ]; simp [go_sem, quietTo, Ext.refl, ↓IntWalk.iteOmega, f4]; (all_goals try simp (disch := omega) only [IntWalk.i64_in]); all_goals first | rfl | (exact itoa_any _ (by omega) (by omega) B _ (htbl.out _ (hE3.trans ((he.trans hEx.out).trans hk9))))
       refine fq 6 rfl rfl rfl cK rfl rfl ?_; apply Exists.intro; constructor
       ·rintro sv w' hw' ⟨_, (f2 : sv 2 = _), _, _, (f5 : sv 5 = _), -⟩; (try dsimp only at f2 f5)
        refine ⟨rfl, ?_⟩; simp only [putsL]; change qT (pT (pT (pT (pT (pT _ 80 (sv 5)) 79 (sv 4)) 78 (sv 3)) 77 (sv 2)) 76 (sv 1)); simp only [qT, pT, Act.put, sIA, sCS, sCZ]; simp [go_sem, quietTo, Ext.refl, f2, f5]; all_goals rfl
       refine fac_row 7 rfl rfl rfl cK (fun _ _ h => h.size) (fun _ _ _ _ _ he _ hb => hb.ext he) ?_
       apply Exists.intro
       apply Exists.intro
       apply Exists.intro
       apply Exists.intro
       refine ⟨fun sv w' hw' hfa => ?_, ?_⟩
       ·obtain ⟨_, _, _, _, _, (f6 : sv 6 = _), -⟩ := hfa; (try dsimp only at f6)
        refine ⟨rfl, ?_⟩; simp only [putsL]; change rowTo _ _ _ _ _ (Sem.run _ (execOp (Act.eval (pT (pT (pT (pT (pT (pT _ 81 (sv 6)) 80 (sv 5)) 79 (sv 4)) 78 (sv 3)) 77 (sv 2)) 76 (sv 1))) _) _); (try simp only [pT, Act.put, sIA, sCS, sCZ]); simp [go_sem, rowTo, Ext.refl, f6]; (all_goals try simp (disch := omega) only [IntWalk.i64_in]); all_goals first | rfl | exact ⟨rfl, rfl⟩ | exact ⟨⟨rfl, rfl⟩, rfl⟩
       refine fac_nil fun xa wra hera hfra hcra holda hapa => ?_
       obtain ⟨(f0 : xa 0 = _), (f1 : xa 1 = _), (f2 : xa 2 = _), (f3 : xa 3 = _), (f4 : xa 4 = _), (f5 : xa 5 = _), (f6 : xa 6 = _), f7, -⟩ := hfra; (try dsimp only at f0 f1 f2 f3 f4 f5 f6)
       obtain ⟨g7, f7, l7, b7⟩ := f7; replace f7 : xa 7 = _ := f7; obtain ⟨p7, q7⟩ := b7.walk
       change wpList _ _ _ _ (pT (pT (pT (pT (pT (pT (pT (pT _ 75 (xa 0)) 76 (xa 1)) 77 (xa 2)) 78 (xa 3)) 79 (xa 4)) 80 (xa 5)) 81 (xa 6)) 82 (xa 7)) _
       simp only [putsL, Nat.reduceAdd, List.drop_succ_cons, List.drop_zero, List.drop_nil, pT, Act.put, sIA, sCS, sCZ]
       try simp only [f0, f1, f2, f3, f4, f5, f6, f7]
       clear f0 f1 f2 f3 f4 f5 f6; clear holda hapa
       have hka := (Ext.refl W2).drew.trans hera
       have hown2 := own_ext hka hown1
       have hE2 := (he.trans hEx.out).trans hka
       have hE2s := hE2.size
       clear hop hown1 hera hka x0 x1 lx hcra
       go_wp2_with (at_builtin; go_loud (refine wp_app1 _ (.tmp 75) (.tmp 82) 70 77 2 32 _ rfl rfl Tryz.underlying70 lpInfo rfl (by decide) (by decide) w3.heap.size _ k _ rfl hown2 _ (lpC (debtPair z)) rfl rfl b7 (lpC_one _) (by omega) (by omega) ?_; intro v' w6 hown6 hgrow6 _))
       go_roundw
       case rel => exact ⟨k + 1, v', by go_num, rfl, by omega, by rw [htk.out, flat_snoc]; exact hown6, hE2.app hown2 (Nat.le_refl _) hgrow6⟩
       case measure => simp [intOf]; omega
      ·obtain rfl : M.length = k := by omega
       rw [List.take_of_length_le (by simp)] at hop
       have hr := hr3.out _ _ (own_low hop (by have := hgm.out; omega)) (hE3.trans he)
       replace hr := Lib.hid hr
       go_wp2
       go_ret2
       exact hr.out
    ·intro s v w7 cnt2 hok hfs hnin hR2 hlt2 hg2 hs2 hen
     rw [show strN.kv s = Value.string s from rfl, show strN.val v = Value.int .i64 v from rfl] at hen ⊢
     obtain ⟨e1, e2, e3⟩ := hfb.out s v hfs
     have hgr2 : u15.ownBlock ≠ some rr := fun e => by have := (hown.lt _ e).1; omega
     have hsn := dbL_snoc T r t X ks s
     rw [← e1] at hsn
     replace e1 := Lib.hid e1
     have hrl := hR2.lt.1
     have hown7 := hown.kept hg2 (.inr hgr2)
     have hE7 : Ext w1 w7 := hE.grown hg2 fun q e => by cases e; exact hrg
     have hsl := hR2.oks.2
     rw [List.length_append, List.length_singleton] at hsl
     have hnd2 : (ks ++ [s]).Nodup := List.nodup_append.2 ⟨hnd, by simp, fun a ha b hb e => by rw [List.mem_singleton] at hb; subst hb; subst e; exact hnin ha⟩
     clear hR hown hE hg2 hs2
     have hEa : Ext w7 (w7.alloc (.cells #[.string s, .int .i64 v] 155)) := (Ext.refl w7).alloc _
     have hR8 := hR2.ext hEa
     have ho8 := own_ext hEa hown7
     have hE8 := hE7.trans hEa
     have hgr9 : ∀ row, row = u15.ownBlock → row ≠ some gm ∧ row ≠ some rr := fun row e => by
      subst e
      refine ⟨own_mapX_ne hR8.owns ho8, fun e => ?_⟩
      have := (ho8.lt _ e).1
      omega
     generalize dbL T r t X ks = D at *
     by_cases hpos : 0 < v
     ·rw [if_pos hpos] at hsn
      replace hsn := Lib.hid hsn; replace hR8 := Lib.hid hR8
      go_wp2_with (at_builtin; go_loud (refine wp_app1 _ (.tmp 61) (.tmp 65) 153 155 2 24 _ rfl rfl Tryz.underlying153 debtInfo rfl (by decide) (by decide) (rr + 1) _ D.length _ rfl ho8 w7.heap.size (debtC (s, v)) rfl rfl (Blk.new' rfl) (debtC_one _) (by omega) (by simp; omega) ?_; intro v9 w9 hown9 hgrow9 _))
      have hR9 := hR8.out.kept hgrow9 (fun e => (hgr9 _ rfl).1 e.symm) (fun e => (hgr9 _ rfl).2 e.symm)
      have hl9 : (D ++ [(s, v)]).length = D.length + 1 := by simp
      go_roundw
      case rel => exact ⟨ks ++ [s], cnt2, hR9, hnd2, by rw [hsn.out, hl9, flat_snoc]; exact hown9, hE8.app ho8 (by have := hgm.out; omega) hgrow9⟩
      case measure => rw [hR9.left_eq, hRl0]; exact hlt2
     ·rw [if_neg hpos, List.append_nil] at hsn
      replace hsn := Lib.hid hsn; clear hR8 ho8 hE8 hEa hgr9; replace hR2 := Lib.hid hR2
      go_wp2
      go_roundw
      case rel => exact ⟨ks ++ [s], cnt2, hR2.out, hnd2, by rw [hsn.out]; exact hown7, hE7⟩
      case measure => rw [hR2.out.left_eq, hRl0]; exact hlt2
end Go.Proofs.YtkjhbofbcmelgaaGreatDoor
