/- The loan of a copy ends: the walk. Conditions: sizes. -/
import Derived.Test.YtkjhbofbcmelgaaGreatDoorEzLbE
import Derived.Test.YtkjhbofbcmelgaaGreatDoorEzJ15
import Derived.Test.YtkjhbofbcmelgaaGreatDoorEzJ3
set_option linter.unusedSimpArgs false
set_option linter.unusedVariables false
namespace Go.Proofs.YtkjhbofbcmelgaaGreatDoor
open Go Go.RowKit Go.Maps
theorem endD_upd {L : LibS} {x : SlipV} {lost : Bool} {i : Nat} {o : List ByteArray} (hi : L.last (x.piece, x.copy) = some (i : Int)) (ho : L.has (lastL L (x.piece, x.copy)).singer = some o) :
 endD L x lost = ⟨setF L.st (x.piece, x.copy) (if lost then lostW else inW), L.last, L.loans.set i ⟨(lastL L (x.piece, x.copy)).piece, (lastL L (x.piece, x.copy)).no, (lastL L (x.piece, x.copy)).singer, (lastL L (x.piece, x.copy)).since, x.at_, lost⟩, updK L.has (lastL L (x.piece, x.copy)).singer (o.filter fun p => decide (p ≠ x.piece))⟩ := by
 unfold endD
 rw [lastI_of hi]
 congr 1
 funext s
 unfold updK
 by_cases e : s = (lastL L (x.piece, x.copy)).singer
 ·rw [if_pos e, if_pos e, e, ho]; rfl
 ·rw [if_neg e, if_neg e]
theorem loan_mod45 {w : World} {base g n cap : Nat} {xs : List LoanV} (h : w.ownsRow base 132 6 (.slice (some ⟨g, 0, none⟩) n cap) n (xs.flatMap loanC)) {i : Nat} {l : LoanV} (hx : xs[i]? = some l) (a : Int) (b : Bool) :
 ((w.setCell ⟨g, i * 6 + 4, none⟩ (.int .i64 a)).setCell ⟨g, i * 6 + 5, none⟩ (.bool b)).ownsRow base 132 6 (.slice (some ⟨g, 0, none⟩) n cap) n ((xs.set i ⟨l.piece, l.no, l.singer, l.since, a, b⟩).flatMap loanC) := by
 have hil := (List.getElem?_eq_some_iff.1 hx).1
 have h1 := own_set1 loanC_len h ⟨l.piece, l.no, l.singer, l.since, a, l.lost⟩ hx 4 (by decide) (.int .i64 a) rfl
 have h2 := own_set1 loanC_len h1 ⟨l.piece, l.no, l.singer, l.since, a, b⟩ (List.getElem?_set_self hil) 5 (by decide) (.bool b) rfl
 rw [List.set_set] at h2
 exact h2
theorem loan_mod5 {w : World} {base g n cap : Nat} {xs : List LoanV} (h : w.ownsRow base 132 6 (.slice (some ⟨g, 0, none⟩) n cap) n (xs.flatMap loanC)) {i : Nat} {l : LoanV} (hx : xs[i]? = some l) (b : Bool) :
 (w.setCell ⟨g, i * 6 + 5, none⟩ (.bool b)).ownsRow base 132 6 (.slice (some ⟨g, 0, none⟩) n cap) n ((xs.set i ⟨l.piece, l.no, l.singer, l.since, l.till, b⟩).flatMap loanC) :=
 own_set1 loanC_len h ⟨l.piece, l.no, l.singer, l.since, l.till, b⟩ hx 5 (by decide) (.bool b) rfl
theorem Can.less {base : Nat} {w : World} {ms ml mh q : Nat} {H : ByteArray → Option (List ByteArray)} {s p : ByteArray} {b : Nat} {l : List ByteArray} (h : Can base w ms ml mh q H s b l) (hp : p.size ≤ 1000000) (hn : l.Nodup) :
 ∀ ty, ∃ w', (Builtin.delete_ #[255,9] ty #[.map (some b), .string p]).run Tryz.prog w = .ok (.tuple #[]) w' ∧ HasM base w' ms ml mh q (updK H s (l.filter fun z => decide (z ≠ p))) ∧ w.grownBy w' (some b) := fun ty => by
 obtain ⟨w', r1, r2, r3⟩ := mem_less h.1.own hp hn ty
 exact ⟨w', r1, h.2 w' _ r3 r2, r3⟩
theorem setF_twice {α β : Type} [DecidableEq α] (f : α → Option β) (k : α) (u v : β) : setF (setF f k u) k v = setF f k v := by
 funext z
 unfold setF
 by_cases e : z = k
 ·rw [if_pos e, if_pos e]
 ·rw [if_neg e, if_neg e, if_neg e]
set_option maxRecDepth 100000 in
set_option maxHeartbeats 12800000 in
theorem end_any {base : Nat} {w : World} {bb ms ml mh q : Nat} {tp : Option Addr} {tn tc : Nat} {r : LendR} {L : LibS} (h : LibM base w bb ms ml mh q tp tn tc r L) (x : SlipV) (lost : Bool) (hx : OkX x) (hq : q ≤ 1000000) (hl : L.loans.length ≤ 100000) (hbase : base ≤ w.heap.size) {i : Nat} (hi : L.last (x.piece, x.copy) = some (i : Int)) (hil : i < L.loans.length) {o : List ByteArray}
 (ho : L.has (lastL L (x.piece, x.copy)).singer = some o) (hno : o.Nodup) (hss : (lastL L (x.piece, x.copy)).singer.size ≤ 1000000) :
 Calls Tryz.prog 169 #[.pointer (some ⟨bb, 0, none⟩), .agg #[.string x.by_, .int .i64 x.no, .int .i64 x.at_, .int .i64 x.kind, .string x.piece, .int .i64 x.copy, .string x.singer], .bool lost] w fun e w' => e = .returned (.tuple #[]) ∧ LibM base w' bb ms ml mh (q + 3) tp tn tc r (endD L x lost) ∧ KeepL base bb ms ml mh w w' := by
 obtain ⟨D, hde⟩ : ∃ D, D = endD L x lost := ⟨_, rfl⟩
 rw [← hde]
 rw [endD_upd hi ho] at hde
 have hL := lastL_of hi hil
 generalize lastL L (x.piece, x.copy) = l at *
 replace hde := Lib.hid hde
 have hE0 : Ext w ((w.alloc (.cells #[.string x.by_, .int .i64 x.no, .int .i64 x.at_, .int .i64 x.kind, .string x.piece, .int .i64 x.copy, .string x.singer] 101)).alloc (.cells #[.string x.piece, .int .i64 x.copy] 120)) := ((Ext.refl w).alloc _).alloc _
 have hX : Blk ((w.alloc (.cells #[.string x.by_, .int .i64 x.no, .int .i64 x.at_, .int .i64 x.kind, .string x.piece, .int .i64 x.copy, .string x.singer] 101)).alloc (.cells #[.string x.piece, .int .i64 x.copy] 120)) w.heap.size 101 #[.string x.by_, .int .i64 x.no, .int .i64 x.at_, .int .i64 x.kind, .string x.piece, .int .i64 x.copy, .string x.singer] := (Blk.new' rfl).ext ((Ext.refl _).alloc _)
 have hK : Blk ((w.alloc (.cells #[.string x.by_, .int .i64 x.no, .int .i64 x.at_, .int .i64 x.kind, .string x.piece, .int .i64 x.copy, .string x.singer] 101)).alloc (.cells #[.string x.piece, .int .i64 x.copy] 120)) (w.heap.size + 1) 120 #[.string x.piece, .int .i64 x.copy] := Blk.new' (by simp)
 have hM := h.ext hE0
 have hA0 : KeepL base bb ms ml mh w _ := (KeepL.refl w).ext hE0
 replace hX := Lib.hid hX; replace hK := Lib.hid hK; replace hM := Lib.hid hM; replace hA0 := Lib.hid hA0; clear hE0 h
 go_enter Tryz.func169, Tryz.ntmps169
 go_upto_region 2 with fail
 generalize w.heap.size + 1 = gk at *
 generalize ((w.alloc (.cells #[.string x.by_, .int .i64 x.no, .int .i64 x.at_, .int .i64 x.kind, .string x.piece, .int .i64 x.copy, .string x.singer] 101)).alloc (.cells #[.string x.piece, .int .i64 x.copy] 120)) = W1 at *
 obtain ⟨⟨lv, hB, hrow⟩, hm⟩ := hM.out
 obtain ⟨g, cap, rfl, hg0, hgl⟩ := hrow.form (by omega)
 generalize hgx : w.heap.size = gx at *
 replace hgx := Lib.hid hgx
 have hlk : ∀ u, Ext W1 u → (Instr.lookup 126 (.map (some ml)) (.agg #[.string x.piece, .int .i64 x.copy]) false).run Tryz.prog u = .ok (.int .i64 (i : Int)) u := fun u hu => by
  have h9 := (hm.last.ext hu).look (k := (x.piece, x.copy)) hx.k
  rw [hi] at h9
  exact h9
 have lb := hB.lt
 have lk := hK.out.lt
 have c7 := hB.cell 7
 have c6 := hB.cell 6
 have k0 := hK.out.cell 0
 have k1 := hK.out.cell 1
 have hiI : (i : Int) < (L.loans.length : Int) := by omega
 unfold libC at c7 c6
 replace hlk := Lib.hid hlk; replace hm := Lib.hid hm; replace hB := Lib.hid hB; replace hrow := Lib.hid hrow; clear hM
 refine wp_region_facts [] [([],false,false),([0],false,false),([0,1],false,false),([0,1,2],false,false),([],false,false),([4],false,false),([4,5],false,false),([4,5,6],false,false),([],false,false),([4,5,6,7,8],false,false),([0,1,2,3,4,5,6,7,8,9],false,false),([0,1,2,3,4,5,6,7,8,9,10],false,false)] (Ext) Ext (fun _ => True) (by kernel_rfl) (by kernel_rfl) Ext.refl (fun _ _ _ => Ext.trans) (fun _ _ h => h) (fun _ _ h => h.size) (fun _ _ h _ => h) trivial ?_
 dsimp only [List.length_cons, List.length_nil, List.drop_succ_cons, List.drop_zero, List.drop_nil]
 refine fq 0 rfl rfl rfl cK rfl rfl ?_; apply Exists.intro; constructor
 ·intro sv w' hw' hfa
  refine ⟨rfl, ?_⟩; simp only [putsL]; change qT _; simp only [qT, Act.put, sIA, sCS, sCZ]; simp [go_sem, quietTo, Ext.refl]; all_goals rfl
 refine fq 1 rfl rfl rfl cK rfl rfl ?_; apply Exists.intro; constructor
 ·rintro sv w' hw' ⟨(f0 : sv 0 = _), -⟩; (try dsimp only at f0)
  refine ⟨rfl, ?_⟩; simp only [putsL]; change qT (pT _ 13 (sv 0)); simp only [qT, pT, Act.put, sIA, sCS, sCZ]; simp [go_sem, quietTo, Ext.refl, f0]; all_goals rfl
 refine fq 2 rfl rfl rfl cK rfl rfl ?_; apply Exists.intro; constructor
 ·rintro sv w' hw' ⟨_, (f1 : sv 1 = _), -⟩; (try dsimp only at f1)
  refine ⟨rfl, ?_⟩; simp only [putsL]; change qT (pT (pT _ 14 (sv 1)) 13 (sv 0)); simp only [qT, pT, Act.put, sIA, sCS, sCZ]; simp [go_sem, quietTo, Ext.refl, f1]; all_goals rfl
 refine fq 3 rfl rfl rfl cK rfl rfl ?_; apply Exists.intro; constructor
 ·rintro sv w' hw' ⟨_, _, (f2 : sv 2 = _), -⟩; (try dsimp only at f2)
  obtain ⟨hc, hf, hz9⟩ := ((Ext.refl W1).drew.trans hw').walk; have y7 := (hc bb 7 lb).trans c7
  refine ⟨rfl, ?_⟩; simp only [putsL]; change qT (pT (pT (pT _ 15 (sv 2)) 14 (sv 1)) 13 (sv 0)); simp only [qT, pT, Act.put, sIA, sCS, sCZ]; simp [go_sem, quietTo, Ext.refl, ↓IntWalk.iteOmega, f2, y7]; (all_goals try simp (disch := omega) only [IntWalk.i64_in]); all_goals rfl
 refine fq 4 rfl rfl rfl cK rfl rfl ?_; apply Exists.intro; constructor
 ·intro sv w' hw' hfa
  refine ⟨rfl, ?_⟩; simp only [putsL]; change qT _; simp only [qT, Act.put, sIA, sCS, sCZ]; simp [go_sem, quietTo, Ext.refl]; all_goals rfl
 refine fq 5 rfl rfl rfl cK rfl rfl ?_; apply Exists.intro; constructor
 ·rintro sv w' hw' ⟨(f4 : sv 4 = _), -⟩; (try dsimp only at f4)
  refine ⟨rfl, ?_⟩; simp only [putsL]; change qT (pT _ 17 (sv 4)); simp only [qT, pT, Act.put, sIA, sCS, sCZ]; simp [go_sem, quietTo, Ext.refl, f4]; all_goals rfl
 refine fq 6 rfl rfl rfl cK rfl rfl ?_; apply Exists.intro; constructor
 ·rintro sv w' hw' ⟨_, (f5 : sv 5 = _), -⟩; (try dsimp only at f5)
  refine ⟨rfl, ?_⟩; simp only [putsL]; change qT (pT (pT _ 18 (sv 5)) 17 (sv 4)); simp only [qT, pT, Act.put, sIA, sCS, sCZ]; simp [go_sem, quietTo, Ext.refl, f5]; all_goals rfl
 refine fq 7 rfl rfl rfl cK rfl rfl ?_; apply Exists.intro; constructor
 ·rintro sv w' hw' ⟨_, _, (f6 : sv 6 = _), -⟩; (try dsimp only at f6)
  obtain ⟨hc, hf, hz9⟩ := ((Ext.refl W1).drew.trans hw').walk; have y6 := (hc bb 6 lb).trans c6
  refine ⟨rfl, ?_⟩; simp only [putsL]; change qT (pT (pT (pT _ 19 (sv 6)) 18 (sv 5)) 17 (sv 4)); simp only [qT, pT, Act.put, sIA, sCS, sCZ]; simp [go_sem, quietTo, Ext.refl, ↓IntWalk.iteOmega, f6, y6]; (all_goals try simp (disch := omega) only [IntWalk.i64_in]); all_goals rfl
 refine fq 8 rfl rfl rfl cK rfl rfl ?_; apply Exists.intro; constructor
 ·intro sv w' hw' hfa
  obtain ⟨hc, hf, hz9⟩ := ((Ext.refl W1).drew.trans hw').walk; have z0 := (hc gk 0 lk).trans k0; have z1 := (hc gk 1 lk).trans k1
  refine ⟨rfl, ?_⟩; simp only [putsL]; change qT _; simp only [qT, Act.put, sIA, sCS, sCZ]; simp [go_sem, quietTo, Ext.refl, ↓IntWalk.iteOmega, z0, z1]; (all_goals try simp (disch := omega) only [IntWalk.i64_in]); all_goals rfl
 refine fq 9 rfl rfl rfl cK rfl rfl ?_; apply Exists.intro; constructor
 ·rintro sv w' hw' ⟨_, _, _, (f7 : sv 7 = _), (f8 : sv 8 = _), -⟩; (try dsimp only at f7 f8)
  have hl9 := hlk.out w' ((Ext.refl W1).drew.trans hw')
  refine ⟨rfl, ?_⟩; simp only [putsL]; change qT (pT (pT (pT (pT (pT _ 21 (sv 8)) 20 (sv 7)) 19 (sv 6)) 18 (sv 5)) 17 (sv 4)); simp only [qT, pT, Act.put, sIA, sCS, sCZ]; simp [go_sem, quietTo, Ext.refl, ↓IntWalk.iteOmega, f7, f8, hl9]; (all_goals try simp (disch := omega) only [IntWalk.i64_in]); all_goals rfl
 refine fq 10 rfl rfl rfl cK rfl rfl ?_; apply Exists.intro; constructor
 ·rintro sv w' hw' ⟨_, _, _, (f3 : sv 3 = _), _, _, _, _, _, (f9 : sv 9 = _), -⟩; (try dsimp only at f3 f9)
  refine ⟨rfl, ?_⟩; simp only [putsL]; change qT (pT (pT (pT (pT (pT (pT (pT (pT (pT (pT _ 22 (sv 9)) 21 (sv 8)) 20 (sv 7)) 19 (sv 6)) 18 (sv 5)) 17 (sv 4)) 16 (sv 3)) 15 (sv 2)) 14 (sv 1)) 13 (sv 0)); simp only [qT, pT, Act.put, sIA, sCS, sCZ]; simp [go_sem, quietTo, Ext.refl, ↓IntWalk.iteOmega, f3, f9, hiI]; (all_goals try simp (disch := omega) only [IntWalk.i64_in]); all_goals rfl
 refine fq 11 rfl rfl rfl cK rfl rfl ?_; apply Exists.intro; constructor
 ·rintro sv w' hw' ⟨_, _, _, _, _, _, _, _, _, _, (f10 : sv 10 = _), -⟩; (try dsimp only at f10)
  refine ⟨rfl, ?_⟩; simp only [putsL]; change qT (pT (pT (pT (pT (pT (pT (pT (pT (pT (pT (pT _ 23 (sv 10)) 22 (sv 9)) 21 (sv 8)) 20 (sv 7)) 19 (sv 6)) 18 (sv 5)) 17 (sv 4)) 16 (sv 3)) 15 (sv 2)) 14 (sv 1)) 13 (sv 0)); simp only [qT, pT, Act.put, sIA, sCS, sCZ]; simp [go_sem, quietTo, Ext.refl, f10]; all_goals rfl
 refine fac_nil fun xa wra hera hfra hcra holda hapa => ?_
 obtain ⟨(f0 : xa 0 = _), (f1 : xa 1 = _), (f2 : xa 2 = _), (f3 : xa 3 = _), (f4 : xa 4 = _), (f5 : xa 5 = _), (f6 : xa 6 = _), (f7 : xa 7 = _), (f8 : xa 8 = _), (f9 : xa 9 = _), (f10 : xa 10 = _), (f11 : xa 11 = _), -⟩ := hfra; (try dsimp only at f0 f1 f2 f3 f4 f5 f6 f7 f8 f9 f10 f11)
 change wpList _ _ _ _ (pT (pT (pT (pT (pT (pT (pT (pT (pT (pT (pT (pT _ 13 (xa 0)) 14 (xa 1)) 15 (xa 2)) 16 (xa 3)) 17 (xa 4)) 18 (xa 5)) 19 (xa 6)) 20 (xa 7)) 21 (xa 8)) 22 (xa 9)) 23 (xa 10)) 7 (xa 11)) _
 simp only [putsL, Nat.reduceAdd, List.drop_succ_cons, List.drop_zero, List.drop_nil, pT, Act.put, sIA, sCS, sCZ]
 try simp only [f0, f1, f2, f3, f4, f5, f6, f7, f8, f9, f10, f11]
 clear f0 f1 f2 f3 f4 f5 f6 f7 f8 f9 f10 f11; clear holda hapa
 have hka := (Ext.refl W1).drew.trans hera
 have hrowa := own_ext hka hrow.out
 have hBa := hB.out.ext hka
 have hXa := hX.out.ext hka
 have hKa := hK.out.ext hka
 have hma := hm.out.ext hka
 have hAa := hA0.out.ext hka
 have hbg : bb ≠ g := fun e => own_no hrowa hBa (by decide) (by rw [e]; rfl)
 have hxg : gx ≠ g := fun e => own_no hrowa hXa (by decide) (by rw [e]; rfl)
 have hkg : gk ≠ g := fun e => own_no hrowa hKa (by decide) (by rw [e]; rfl)
 have own3 := loan_mod45 hrowa hL x.at_ lost
 have hown1 := own_set1 loanC_len hrowa ⟨l.piece, l.no, l.singer, l.since, x.at_, l.lost⟩ hL 4 (by decide) (.int .i64 x.at_) rfl
 have hm3 := (hma.kept (grown_set wra ⟨g, i * 6 + 4, none⟩ (.int .i64 x.at_)) (NoMap.own hrowa)).kept (grown_set _ ⟨g, i * 6 + 5, none⟩ (.bool lost)) (NoMap.own hown1)
 have hA3 := (hAa.app hrowa (grown_set wra ⟨g, i * 6 + 4, none⟩ (.int .i64 x.at_))).app hown1 (grown_set _ ⟨g, i * 6 + 5, none⟩ (.bool lost))
 have hB3 := (hBa.far (p := ⟨g, i * 6 + 4, none⟩) hbg (.int .i64 x.at_)).far (p := ⟨g, i * 6 + 5, none⟩) hbg (.bool lost)
 have hX3 := (hXa.far (p := ⟨g, i * 6 + 4, none⟩) hxg (.int .i64 x.at_)).far (p := ⟨g, i * 6 + 5, none⟩) hxg (.bool lost)
 have hK3 := (hKa.far (p := ⟨g, i * 6 + 4, none⟩) hkg (.int .i64 x.at_)).far (p := ⟨g, i * 6 + 5, none⟩) hkg (.bool lost)
 have c4 : wra.cell? ⟨g, i * 6 + 4, none⟩ = some (.int .i64 l.till) := own_cell loanC_len hrowa hL 4 rfl hil
 have c5 : wra.cell? ⟨g, i * 6 + 5, none⟩ = some (.bool l.lost) := own_cell loanC_len hrowa hL 5 rfl hil
 have z0 : ∀ o, wra.frozen? ⟨g, o, none⟩ = false := fun o => hrowa.frozenAt o
 have x2 := hXa.cell 2
 have hgla : g < wra.heap.size := (hrowa.lt g rfl).2
 replace hm3 := Lib.hid hm3; replace hA3 := Lib.hid hA3; replace hB3 := Lib.hid hB3; replace hX3 := Lib.hid hX3; replace hK3 := Lib.hid hK3; replace own3 := Lib.hid own3; clear hrowa hBa hXa hKa hma hAa hown1 hrow hB hX hK hm hA0 lb lk c7 c6 k0 k1 hlk hka hera hcra
 go_upto_region 4 with fail
 clear c4 c5 z0 x2 hgla
 generalize ((wra.setCell ⟨g, i * 6 + 4, none⟩ (.int .i64 x.at_)).setCell ⟨g, i * 6 + 5, none⟩ (.bool lost)) = W3 at *
 have hloan : (L.loans.set i ⟨l.piece, l.no, l.singer, l.since, x.at_, lost⟩)[i]? = some ⟨l.piece, l.no, l.singer, l.since, x.at_, lost⟩ := List.getElem?_set_self hil
 have hXl : (L.loans.set i ⟨l.piece, l.no, l.singer, l.since, x.at_, lost⟩).length = L.loans.length := List.length_set
 generalize L.loans.set i ⟨l.piece, l.no, l.singer, l.since, x.at_, lost⟩ = X at *
 have c2 : W3.cell? ⟨g, i * 6 + 2, none⟩ = some (.string l.singer) := own_cell loanC_len own3.out hloan 2 rfl hil
 have hrow3 : LRow base W3 bb tp tn tc r ms ml mh (.slice (some ⟨g, 0, none⟩) L.loans.length cap) X := ⟨hB3.out, by rw [hXl]; exact own3.out⟩
 have lg := (own3.out.lt g rfl).2
 obtain ⟨mm, hlk3, -, hs3⟩ := hm3.out.has.look2 hss
 obtain ⟨b, rfl, hcan⟩ := hs3 o ho
 obtain ⟨hst3, hla3, -, hsl, hsh, hlh⟩ := hm3.out
 have lb := hB3.out.lt
 have lx := hX3.out.lt
 have c8 := hB3.out.cell 8
 have x4 := hX3.out.cell 4
 unfold libC at c8
 replace hlk3 := Lib.hid hlk3; replace hcan := Lib.hid hcan; replace hrow3 := Lib.hid hrow3; clear own3 hB3 hm3 hs3 hloan
 refine wp_region_facts [] [([],false,false),([0],false,false),([0,1],false,false),([0,1,2],false,false),([],false,false),([4],false,false),([4,5],false,false),([4,5,6],false,false),([0,1,2,3,4,5,6,7],false,false),([],false,false),([9],false,false)] (Ext) Ext (fun _ => True) (by kernel_rfl) (by kernel_rfl) Ext.refl (fun _ _ _ => Ext.trans) (fun _ _ h => h) (fun _ _ h => h.size) (fun _ _ h _ => h) trivial ?_
 dsimp only [List.length_cons, List.length_nil, List.drop_succ_cons, List.drop_zero, List.drop_nil]
 refine fq 0 rfl rfl rfl cK rfl rfl ?_; apply Exists.intro; constructor
 ·intro sv w' hw' hfa
  refine ⟨rfl, ?_⟩; simp only [putsL]; change qT _; simp only [qT, Act.put, sIA, sCS, sCZ]; simp [go_sem, quietTo, Ext.refl]; all_goals rfl
 refine fq 1 rfl rfl rfl cK rfl rfl ?_; apply Exists.intro; constructor
 ·rintro sv w' hw' ⟨(f0 : sv 0 = _), -⟩; (try dsimp only at f0)
  refine ⟨rfl, ?_⟩; simp only [putsL]; change qT (pT _ 33 (sv 0)); simp only [qT, pT, Act.put, sIA, sCS, sCZ]; simp [go_sem, quietTo, Ext.refl, f0]; all_goals rfl
 refine fq 2 rfl rfl rfl cK rfl rfl ?_; apply Exists.intro; constructor
 ·rintro sv w' hw' ⟨_, (f1 : sv 1 = _), -⟩; (try dsimp only at f1)
  refine ⟨rfl, ?_⟩; simp only [putsL]; change qT (pT (pT _ 34 (sv 1)) 33 (sv 0)); simp only [qT, pT, Act.put, sIA, sCS, sCZ]; simp [go_sem, quietTo, Ext.refl, f1]; all_goals rfl
 refine fq 3 rfl rfl rfl cK rfl rfl ?_; apply Exists.intro; constructor
 ·rintro sv w' hw' ⟨_, _, (f2 : sv 2 = _), -⟩; (try dsimp only at f2)
  have hk9 := (Ext.refl W3).drew.trans hw'; obtain ⟨hc, hf, hz9⟩ := hk9.walk; have y8 := (hc bb 8 lb).trans c8
  refine ⟨rfl, ?_⟩; simp only [putsL]; change qT (pT (pT (pT _ 35 (sv 2)) 34 (sv 1)) 33 (sv 0)); simp only [qT, pT, Act.put, sIA, sCS, sCZ]; simp [go_sem, quietTo, Ext.refl, ↓IntWalk.iteOmega, f2, y8]; (all_goals try simp (disch := omega) only [IntWalk.i64_in]); all_goals rfl
 refine fq 4 rfl rfl rfl cK rfl rfl ?_; apply Exists.intro; constructor
 ·intro sv w' hw' hfa
  refine ⟨rfl, ?_⟩; simp only [putsL]; change qT _; simp only [qT, Act.put, sIA, sCS, sCZ]; simp [go_sem, quietTo, Ext.refl]; all_goals rfl
 refine fq 5 rfl rfl rfl cK rfl rfl ?_; apply Exists.intro; constructor
 ·rintro sv w' hw' ⟨(f4 : sv 4 = _), -⟩; (try dsimp only at f4)
  refine ⟨rfl, ?_⟩; simp only [putsL]; change qT (pT _ 37 (sv 4)); simp only [qT, pT, Act.put, sIA, sCS, sCZ]; simp [go_sem, quietTo, Ext.refl, f4]; all_goals rfl
 refine fq 6 rfl rfl rfl cK rfl rfl ?_; apply Exists.intro; constructor
 ·rintro sv w' hw' ⟨_, (f5 : sv 5 = _), -⟩; (try dsimp only at f5)
  refine ⟨rfl, ?_⟩; simp only [putsL]; change qT (pT (pT _ 38 (sv 5)) 37 (sv 4)); simp only [qT, pT, Act.put, sIA, sCS, sCZ]; simp [go_sem, quietTo, Ext.refl, f5]; all_goals rfl
 refine fq 7 rfl rfl rfl cK rfl rfl ?_; apply Exists.intro; constructor
 ·rintro sv w' hw' ⟨_, _, (f6 : sv 6 = _), -⟩; (try dsimp only at f6)
  have hk9 := (Ext.refl W3).drew.trans hw'; obtain ⟨hc, hf, hz9⟩ := hk9.walk; have y2 := (hc g (i * 6 + 2) lg).trans c2
  refine ⟨rfl, ?_⟩; simp only [putsL]; change qT (pT (pT (pT _ 39 (sv 6)) 38 (sv 5)) 37 (sv 4)); simp only [qT, pT, Act.put, sIA, sCS, sCZ]; simp [go_sem, quietTo, Ext.refl, ↓IntWalk.iteOmega, f6, y2]; (all_goals try simp (disch := omega) only [IntWalk.i64_in]); all_goals rfl
 refine fq 8 rfl rfl rfl cK rfl rfl ?_; apply Exists.intro; constructor
 ·rintro sv w' hw' ⟨_, _, _, (f3 : sv 3 = _), _, _, _, (f7 : sv 7 = _), -⟩; (try dsimp only at f3 f7)
  have hk9 := (Ext.refl W3).drew.trans hw'; have hl9 := hlk3.out w' hk9
  refine ⟨rfl, ?_⟩; simp only [putsL]; change qT (pT (pT (pT (pT (pT (pT (pT (pT _ 40 (sv 7)) 39 (sv 6)) 38 (sv 5)) 37 (sv 4)) 36 (sv 3)) 35 (sv 2)) 34 (sv 1)) 33 (sv 0)); simp only [qT, pT, Act.put, sIA, sCS, sCZ]; simp [go_sem, quietTo, Ext.refl, ↓IntWalk.iteOmega, f3, f7, hl9]; (all_goals try simp (disch := omega) only [IntWalk.i64_in]); all_goals rfl
 refine fq 9 rfl rfl rfl cK rfl rfl ?_; apply Exists.intro; constructor
 ·intro sv w' hw' hfa
  refine ⟨rfl, ?_⟩; simp only [putsL]; change qT _; simp only [qT, Act.put, sIA, sCS, sCZ]; simp [go_sem, quietTo, Ext.refl]; all_goals rfl
 refine fq 10 rfl rfl rfl cK rfl rfl ?_; apply Exists.intro; constructor
 ·rintro sv w' hw' ⟨(f9 : sv 9 = _), -⟩; (try dsimp only at f9)
  have hk9 := (Ext.refl W3).drew.trans hw'; obtain ⟨hc, hf, hz9⟩ := hk9.walk; have v4 := (hc gx 4 lx).trans x4
  refine ⟨rfl, ?_⟩; simp only [putsL]; change qT (pT _ 42 (sv 9)); simp only [qT, pT, Act.put, sIA, sCS, sCZ]; simp [go_sem, quietTo, Ext.refl, ↓IntWalk.iteOmega, f9, v4]; (all_goals try simp (disch := omega) only [IntWalk.i64_in]); all_goals rfl
 refine fac_nil fun xb wrb herb hfrb hcrb holdb hapb => ?_
 obtain ⟨(f0 : xb 0 = _), (f1 : xb 1 = _), (f2 : xb 2 = _), (f3 : xb 3 = _), (f4 : xb 4 = _), (f5 : xb 5 = _), (f6 : xb 6 = _), (f7 : xb 7 = _), (f8 : xb 8 = _), (f9 : xb 9 = _), (f10 : xb 10 = _), -⟩ := hfrb; (try dsimp only at f0 f1 f2 f3 f4 f5 f6 f7 f8 f9 f10)
 change wpList _ _ _ _ (pT (pT (pT (pT (pT (pT (pT (pT (pT (pT (pT _ 33 (xb 0)) 34 (xb 1)) 35 (xb 2)) 36 (xb 3)) 37 (xb 4)) 38 (xb 5)) 39 (xb 6)) 40 (xb 7)) 41 (xb 8)) 42 (xb 9)) 43 (xb 10)) _
 simp only [putsL, Nat.reduceAdd, List.drop_succ_cons, List.drop_zero, List.drop_nil, pT, Act.put, sIA, sCS, sCZ]
 try simp only [f0, f1, f2, f3, f4, f5, f6, f7, f8, f9, f10]
 clear f0 f1 f2 f3 f4 f5 f6 f7 f8 f9 f10; clear holdb hapb
 have hkb := (Ext.refl W3).drew.trans herb
 have hcb := hcan.out _ hkb
 obtain ⟨w4, hr4, hh4, hg4⟩ := hcb.less hx.p hno 0
 have hib := hcb.1
 have hrow4 := (hrow3.out.ext hkb).turned hg4 hib.own.isMap
 have hX4 : Blk w4 gx 101 #[.string x.by_, .int .i64 x.no, .int .i64 x.at_, .int .i64 x.kind, .string x.piece, .int .i64 x.copy, .string x.singer] := (hg4.block gx (hX3.out.ext hkb).lt fun e => by cases e; exact blk_mapX_ne hib.own (hX3.out.ext hkb) rfl).trans (hX3.out.ext hkb)
 have hK4 : Blk w4 gk 120 #[.string x.piece, .int .i64 x.copy] := (hg4.block gk (hK3.out.ext hkb).lt fun e => by cases e; exact blk_mapX_ne hib.own (hK3.out.ext hkb) rfl).trans (hK3.out.ext hkb)
 have hm4 : MapsM base w4 ms ml mh q ⟨L.st, L.last, X, updK L.has l.singer (o.filter fun p => decide (p ≠ x.piece))⟩ := ⟨(hst3.ext hkb).grown hg4 (by simpa using hib.ns.symm), (hla3.ext hkb).grown hg4 (by simpa using hib.nl.symm), hh4, hsl, hsh, hlh⟩
 have hA4 := (hA3.out.ext hkb).grown hg4 (.inr (.inr (.inr (.inr hib.low))))
 replace hr4 := Lib.hid hr4; replace hm4 := Lib.hid hm4; replace hA4 := Lib.hid hA4; replace hrow4 := Lib.hid hrow4; clear hX3 hK3 hA3 hst3 hla3 hh4 hg4 hcb hib hrow3 hcan hlk3 c2 c8 x4 lb lx lg ho hno hss hL
 generalize updK L.has l.singer (o.filter fun p => decide (p ≠ x.piece)) = H at *
 go_upto_region 5 with (refine wpList_dropM rfl _ _ _ _ rfl (.map (some b)) (.string x.piece) rfl rfl w4 (fun _ => hr4.out) ?_)
 clear hr4 hkb herb hcrb
 have lb := hrow4.out.1.lt
 have lk := hK4.lt
 have c5 := hrow4.out.1.cell 5
 have k0 := hK4.cell 0
 have k1 := hK4.cell 1
 unfold libC at c5
 refine wp_region_facts [] [([],false,false),([0],false,false),([0,1],false,false),([0,1,2],false,false),([],false,false)] (Ext) Ext (fun _ => True) (by kernel_rfl) (by kernel_rfl) Ext.refl (fun _ _ _ => Ext.trans) (fun _ _ h => h) (fun _ _ h => h.size) (fun _ _ h _ => h) trivial ?_
 dsimp only [List.length_cons, List.length_nil, List.drop_succ_cons, List.drop_zero, List.drop_nil]
 refine fq 0 rfl rfl rfl cK rfl rfl ?_; apply Exists.intro; constructor
 ·intro sv w' hw' hfa
  refine ⟨rfl, ?_⟩; simp only [putsL]; change qT _; simp only [qT, Act.put, sIA, sCS, sCZ]; simp [go_sem, quietTo, Ext.refl]; all_goals rfl
 refine fq 1 rfl rfl rfl cK rfl rfl ?_; apply Exists.intro; constructor
 ·rintro sv w' hw' ⟨(f0 : sv 0 = _), -⟩; (try dsimp only at f0)
  refine ⟨rfl, ?_⟩; simp only [putsL]; change qT (pT _ 44 (sv 0)); simp only [qT, pT, Act.put, sIA, sCS, sCZ]; simp [go_sem, quietTo, Ext.refl, f0]; all_goals rfl
 refine fq 2 rfl rfl rfl cK rfl rfl ?_; apply Exists.intro; constructor
 ·rintro sv w' hw' ⟨_, (f1 : sv 1 = _), -⟩; (try dsimp only at f1)
  refine ⟨rfl, ?_⟩; simp only [putsL]; change qT (pT (pT _ 45 (sv 1)) 44 (sv 0)); simp only [qT, pT, Act.put, sIA, sCS, sCZ]; simp [go_sem, quietTo, Ext.refl, f1]; all_goals rfl
 refine fq 3 rfl rfl rfl cK rfl rfl ?_; apply Exists.intro; constructor
 ·rintro sv w' hw' ⟨_, _, (f2 : sv 2 = _), -⟩; (try dsimp only at f2)
  obtain ⟨hc, hf, hz9⟩ := ((Ext.refl w4).drew.trans hw').walk; have y5 := (hc bb 5 lb).trans c5
  refine ⟨rfl, ?_⟩; simp only [putsL]; change qT (pT (pT (pT _ 46 (sv 2)) 45 (sv 1)) 44 (sv 0)); simp only [qT, pT, Act.put, sIA, sCS, sCZ]; simp [go_sem, quietTo, Ext.refl, ↓IntWalk.iteOmega, f2, y5]; (all_goals try simp (disch := omega) only [IntWalk.i64_in]); all_goals rfl
 refine fq 4 rfl rfl rfl cK rfl rfl ?_; apply Exists.intro; constructor
 ·intro sv w' hw' hfa
  obtain ⟨hc, hf, hz9⟩ := ((Ext.refl w4).drew.trans hw').walk; have z0 := (hc gk 0 lk).trans k0; have z1 := (hc gk 1 lk).trans k1
  refine ⟨rfl, ?_⟩; simp only [putsL]; change qT _; simp only [qT, Act.put, sIA, sCS, sCZ]; simp [go_sem, quietTo, Ext.refl, ↓IntWalk.iteOmega, z0, z1]; (all_goals try simp (disch := omega) only [IntWalk.i64_in]); all_goals rfl
 refine fac_nil fun xc wrc herc hfrc hcrc holdc hapc => ?_
 obtain ⟨(f0 : xc 0 = _), (f1 : xc 1 = _), (f2 : xc 2 = _), (f3 : xc 3 = _), (f4 : xc 4 = _), -⟩ := hfrc; (try dsimp only at f0 f1 f2 f3 f4)
 change wpList _ _ _ _ (pT (pT (pT (pT (pT _ 44 (xc 0)) 45 (xc 1)) 46 (xc 2)) 47 (xc 3)) 48 (xc 4)) _
 simp only [putsL, Nat.reduceAdd, List.drop_succ_cons, List.drop_zero, List.drop_nil, pT, Act.put, sIA, sCS, sCZ]
 try simp only [f0, f1, f2, f3, f4]
 clear f0 f1 f2 f3 f4; clear holdc hapc
 have hkc := (Ext.refl w4).drew.trans herc
 obtain ⟨w5, hr5, hm5, hg5⟩ := (hm4.out.ext hkc).putSt (k := (x.piece, x.copy)) hx.k (by omega) inW
 unfold snV at hr5
 unfold inW at hr5
 have hrow5 := (hrow4.out.ext hkc).turned hg5 (hm4.out.ext hkc).st.isMap
 have hK5 : Blk w5 gk 120 #[.string x.piece, .int .i64 x.copy] := (hg5.block gk (hK4.ext hkc).lt fun e => by cases e; exact blk_mapK_ne (hm4.out.ext hkc).st (hK4.ext hkc) rfl).trans (hK4.ext hkc)
 have hA5 := (hA4.out.ext hkc).grown hg5 (.inr (.inl rfl))
 replace hr5 := Lib.hid hr5; replace hm5 := Lib.hid hm5; replace hA5 := Lib.hid hA5; replace hrow5 := Lib.hid hrow5; clear hX4 hK4 hm4 hA4 hrow4 hg5 lb lk c5 k0 k1
 go_upto_region 6 with (refine wpList_putM rfl _ _ _ 125 rfl (.map (some ms)) (.agg #[.string x.piece, .int .i64 x.copy]) (.string ⟨#[105,110]⟩) rfl rfl rfl w5 hr5.out ?_)
 clear hr5 hkc herc hcrc
 cases lost with
 | false =>
   go_wp2
   go_end0
   exact ⟨rfl, by rw [hde.out]; exact ⟨⟨_, hrow5.out.1, hrow5.out.2⟩, (hm5.out.le (by omega)).same rfl rfl rfl⟩, hA5.out⟩
 | true =>
   have lb := hrow5.out.1.lt
   have lk := hK5.lt
   have c5 := hrow5.out.1.cell 5
   have k0 := hK5.cell 0
   have k1 := hK5.cell 1
   unfold libC at c5
   go_upto_region 7 with fail
   refine wp_region_facts [] [([],false,false),([0],false,false),([0,1],false,false),([0,1,2],false,false),([],false,false)] (Ext) Ext (fun _ => True) (by kernel_rfl) (by kernel_rfl) Ext.refl (fun _ _ _ => Ext.trans) (fun _ _ h => h) (fun _ _ h => h.size) (fun _ _ h _ => h) trivial ?_
   dsimp only [List.length_cons, List.length_nil, List.drop_succ_cons, List.drop_zero, List.drop_nil]
   refine fq 0 rfl rfl rfl cK rfl rfl ?_; apply Exists.intro; constructor
   ·intro sv w' hw' hfa
    refine ⟨rfl, ?_⟩; simp only [putsL]; change qT _; simp only [qT, Act.put, sIA, sCS, sCZ]; simp [go_sem, quietTo, Ext.refl]; all_goals rfl
   refine fq 1 rfl rfl rfl cK rfl rfl ?_; apply Exists.intro; constructor
   ·rintro sv w' hw' ⟨(f0 : sv 0 = _), -⟩; (try dsimp only at f0)
    refine ⟨rfl, ?_⟩; simp only [putsL]; change qT (pT _ 50 (sv 0)); simp only [qT, pT, Act.put, sIA, sCS, sCZ]; simp [go_sem, quietTo, Ext.refl, f0]; all_goals rfl
   refine fq 2 rfl rfl rfl cK rfl rfl ?_; apply Exists.intro; constructor
   ·rintro sv w' hw' ⟨_, (f1 : sv 1 = _), -⟩; (try dsimp only at f1)
    refine ⟨rfl, ?_⟩; simp only [putsL]; change qT (pT (pT _ 51 (sv 1)) 50 (sv 0)); simp only [qT, pT, Act.put, sIA, sCS, sCZ]; simp [go_sem, quietTo, Ext.refl, f1]; all_goals rfl
   refine fq 3 rfl rfl rfl cK rfl rfl ?_; apply Exists.intro; constructor
   ·rintro sv w' hw' ⟨_, _, (f2 : sv 2 = _), -⟩; (try dsimp only at f2)
    obtain ⟨hc, hf, hz9⟩ := ((Ext.refl w5).drew.trans hw').walk; have y5 := (hc bb 5 lb).trans c5
    refine ⟨rfl, ?_⟩; simp only [putsL]; change qT (pT (pT (pT _ 52 (sv 2)) 51 (sv 1)) 50 (sv 0)); simp only [qT, pT, Act.put, sIA, sCS, sCZ]; simp [go_sem, quietTo, Ext.refl, ↓IntWalk.iteOmega, f2, y5]; (all_goals try simp (disch := omega) only [IntWalk.i64_in]); all_goals rfl
   refine fq 4 rfl rfl rfl cK rfl rfl ?_; apply Exists.intro; constructor
   ·intro sv w' hw' hfa
    obtain ⟨hc, hf, hz9⟩ := ((Ext.refl w5).drew.trans hw').walk; have z0 := (hc gk 0 lk).trans k0; have z1 := (hc gk 1 lk).trans k1
    refine ⟨rfl, ?_⟩; simp only [putsL]; change qT _; simp only [qT, Act.put, sIA, sCS, sCZ]; simp [go_sem, quietTo, Ext.refl, ↓IntWalk.iteOmega, z0, z1]; (all_goals try simp (disch := omega) only [IntWalk.i64_in]); all_goals rfl
   refine fac_nil fun xd wrd herd hfrd hcrd holdd hapd => ?_
   obtain ⟨(f0 : xd 0 = _), (f1 : xd 1 = _), (f2 : xd 2 = _), (f3 : xd 3 = _), (f4 : xd 4 = _), -⟩ := hfrd; (try dsimp only at f0 f1 f2 f3 f4)
   change wpList _ _ _ _ (pT (pT (pT (pT (pT _ 50 (xd 0)) 51 (xd 1)) 52 (xd 2)) 53 (xd 3)) 54 (xd 4)) _
   simp only [putsL, Nat.reduceAdd, List.drop_succ_cons, List.drop_zero, List.drop_nil, pT, Act.put, sIA, sCS, sCZ]
   try simp only [f0, f1, f2, f3, f4]
   clear f0 f1 f2 f3 f4; clear holdd hapd
   have hkd := (Ext.refl w5).drew.trans herd
   obtain ⟨w6, hr6, hm6, hg6⟩ := (hm5.out.ext hkd).putSt (k := (x.piece, x.copy)) hx.k (by omega) lostW
   unfold snV at hr6
   unfold lostW at hr6
   have hrow6 := (hrow5.out.ext hkd).turned hg6 (hm5.out.ext hkd).st.isMap
   have hA6 := (hA5.out.ext hkd).grown hg6 (.inr (.inl rfl))
   replace hr6 := Lib.hid hr6; replace hm6 := Lib.hid hm6; replace hA6 := Lib.hid hA6; replace hrow6 := Lib.hid hrow6; clear hK5 hm5 hA5 hrow5 hg6 lb lk c5 k0 k1
   go_wp2_with (refine wpList_putM rfl _ _ _ 125 rfl (.map (some ms)) (.agg #[.string x.piece, .int .i64 x.copy]) (.string ⟨#[108,111,115,116]⟩) rfl rfl rfl w6 hr6.out ?_)
   go_end0
   exact ⟨rfl, by rw [hde.out]; exact ⟨⟨_, hrow6.out.1, hrow6.out.2⟩, (hm6.out.le (by omega)).same (setF_twice _ _ _ _) rfl rfl⟩, hA6.out⟩
end Go.Proofs.YtkjhbofbcmelgaaGreatDoor
