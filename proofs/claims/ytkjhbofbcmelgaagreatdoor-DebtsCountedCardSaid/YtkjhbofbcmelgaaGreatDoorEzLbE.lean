/- A copy is lent: the walk. Conditions: sizes. -/
import Derived.Test.YtkjhbofbcmelgaaGreatDoorEzJ20
import Derived.Test.YtkjhbofbcmelgaaGreatDoorEzJ3
set_option linter.unusedSimpArgs false
set_option linter.unusedVariables false
namespace Go.Proofs.YtkjhbofbcmelgaaGreatDoor
open Go Go.RowKit Go.Maps
structure OkX (x : SlipV) : Prop where
 k : okSN (x.piece, x.copy)
 s : x.singer.size ≤ 1000000
 p : x.piece.size ≤ 1000000
theorem loanInfo : (Tryz.prog.info? 132).map (fun i => (i.zero, i.size, i.bytes)) = some (some (.agg #[.string ⟨#[]⟩, .int .i64 0, .string ⟨#[]⟩, .int .i64 0, .int .i64 0, .bool false]), 6,64) := by kernel_rfl
theorem HasM.look2 {base : Nat} {w : World} {ms ml mh q : Nat} {H : ByteArray → Option (List ByteArray)} (h : HasM base w ms ml mh q H) {s : ByteArray} (hs : s.size ≤ 1000000) :
 ∃ m : Option Nat, (∀ u, Ext w u → (Instr.lookup 128 (.map (some mh)) (.string s) false).run Tryz.prog u = .ok (.map m) u) ∧ (H s = none → m = none) ∧ ∀ l, H s = some l → ∃ b, m = some b ∧ ∀ u, Ext w u → Can base u ms ml mh q H s b l := by
 obtain ⟨f, h1, h2, h3, h4⟩ := h
 refine ⟨(f s).getD none, fun u hu => (h1.ext hu).look (k := s) hs, fun hn => ?_, fun l hl => ?_⟩
 ·rw [(h2 s).2 hn]; rfl
 ·obtain ⟨b, e, hb⟩ := h3 s l hl
  refine ⟨b, by rw [e]; rfl, fun u hu => ?_⟩
  have hg : w.grownBy u none := ⟨hu.os, hu.tape, hu.output, hu.size, fun k hk _ => hu.block k hk⟩
  refine HasM.can (h1.ext hu) h2 (fun z lz hz => ?_) h4 e (hb.grown hg (by simp))
  obtain ⟨c, hc, hi⟩ := h3 z lz hz
  exact ⟨c, hc, hi.grown hg (by simp)⟩
theorem eqlSomeM (b : Nat) (w : World) : (binOp .eql 255 (.map (some b)) (.map none)).run Tryz.prog w = .ok (.bool false) w := by kernel_rfl
theorem eqlNoneM (w : World) : (binOp .eql 255 (.map none) (.map none)).run Tryz.prog w = .ok (.bool true) w := by kernel_rfl
/-- The library's own cells and its loans. -/
theorem LibM.more {base : Nat} {w : World} {bb ms ml mh q : Nat} {tp : Option Addr} {tn tc : Nat} {r : LendR} {L : LibS} (h : LibM base w bb ms ml mh q tp tn tc r L) {q' : Nat} (hq : q ≤ q') : LibM base w bb ms ml mh q' tp tn tc r L := ⟨h.row, h.maps.le hq⟩
def LRow (base : Nat) (w : World) (bb : Nat) (tp : Option Addr) (tn tc : Nat) (r : LendR) (ms ml mh : Nat) (lv : Value) (X : List LoanV) : Prop :=
 Blk w bb 130 (libC tp tn tc r ms ml mh lv) ∧ w.ownsRow base 132 6 lv X.length (X.flatMap loanC)
section
variable {base : Nat} {w w' : World} {bb ms ml mh q : Nat} {tp : Option Addr} {tn tc : Nat} {r : LendR} {L : LibS} {lv : Value} {X : List LoanV}
theorem LRow.ext (h : LRow base w bb tp tn tc r ms ml mh lv X) (he : Ext w w') : LRow base w' bb tp tn tc r ms ml mh lv X := ⟨h.1.ext he, own_ext he h.2⟩
theorem LRow.turned (h : LRow base w bb tp tn tc r ms ml mh lv X) {m : Nat} (hg : w.grownBy w' (some m)) (hm : ∃ es c, w.heap[m]? = some (.map es c)) : LRow base w' bb tp tn tc r ms ml mh lv X := by
 obtain ⟨es, c, hm⟩ := hm
 refine ⟨(hg.block bb h.1.lt fun e => ?_).trans h.1, h.2.kept hg (.inr fun e => ?_)⟩
 ·cases e
  have h3 : w.heap[bb]? = some (.cells (libC tp tn tc r ms ml mh lv) 130) := h.1
  rw [h3] at hm
  cases hm
 ·rcases h.2.2 with ⟨rfl, _⟩ | ⟨g, cap, cur, rfl, _, h3, _⟩
  ·simp [Value.ownBlock] at e
  ·have e2 : g = m := by simpa [Value.ownBlock] using e
   subst e2
   rw [h3] at hm
   cases hm
theorem NoMap.own {e : TypeId} {k n : Nat} {v : Value} {xs : List Value} (ho : w.ownsRow base e k v n xs) : NoMap w v.ownBlock := fun b es c hb e1 => by
 rcases ho.2 with ⟨rfl, _⟩ | ⟨g, cap, cur, rfl, _, h3, _⟩
 ·simp [Value.ownBlock] at e1
 ·have e2 : b = g := by simpa [Value.ownBlock] using e1
  subst e2
  rw [h3] at hb
  cases hb
/-- One loan more: the row grew, and the library's cell was set. -/
theorem LRow.more (h : LRow base w bb tp tn tc r ms ml mh lv X) {v' : Value} {y : LoanV} (ho : w'.ownsRow base 132 6 v' (X.length + 1) (X.flatMap loanC ++ loanC y)) (hg : w.grownBy w' lv.ownBlock) :
 LRow base (w'.setCell ⟨bb, 7, none⟩ v') bb tp tn tc r ms ml mh v' (X ++ [y]) := by
 have hb : Blk w' bb 130 (libC tp tn tc r ms ml mh lv) := (hg.block bb h.1.lt fun e => own_no h.2 h.1 (by decide) e.symm).trans h.1
 refine ⟨hb.set_ 7 v', ?_⟩
 have e1 : (X ++ [y]).length = X.length + 1 := by simp
 have e2 : (X ++ [y]).flatMap loanC = X.flatMap loanC ++ loanC y := by simp [List.flatMap_append]
 rw [e1, e2]
 exact ho.kept (grown_set w' ⟨bb, 7, none⟩ v') (.inr fun e => own_no ho hb (by decide) e)
end
theorem MapsM.same {base : Nat} {w : World} {ms ml mh q : Nat} {L L2 : LibS} (h : MapsM base w ms ml mh q L) (h1 : L.st = L2.st) (h2 : L.last = L2.last) (h3 : L.has = L2.has) : MapsM base w ms ml mh q L2 := ⟨h1 ▸ h.st, h2 ▸ h.last, h3 ▸ h.has, h.sl, h.sh, h.lh⟩
/-- A piece more for a singer. -/
theorem Can.more {base : Nat} {w : World} {ms ml mh q : Nat} {H : ByteArray → Option (List ByteArray)} {s p : ByteArray} {b : Nat} {l : List ByteArray} (h : Can base w ms ml mh q H s b l) (hp : p.size ≤ 1000000) (hn : p ∉ l) (hl : l.length ≤ 1000000000) :
 ∃ w', (Instr.mapUpdate 255 (.map (some b)) (.string p) (.bool true)).run Tryz.prog w = .ok () w' ∧ HasM base w' ms ml mh q (updK H s (l ++ [p])) ∧ w.grownBy w' (some b) := by
 obtain ⟨w', r1, r2, r3⟩ := mem_more h.1.own hp hn hl
 exact ⟨w', r1, h.2 w' _ r3 r2, r3⟩
set_option maxRecDepth 100000 in
set_option maxHeartbeats 12800000 in
theorem lend_any {base : Nat} {w : World} {bb ms ml mh q : Nat} {tp : Option Addr} {tn tc : Nat} {r : LendR} {L : LibS} (h : LibM base w bb ms ml mh q tp tn tc r L) (x : SlipV) (hx : OkX x) (hq : q ≤ 1000000) (hl : L.loans.length ≤ 100000) (hbase : base ≤ w.heap.size) (hon : ∀ o, L.has x.singer = some o → o.length ≤ 100000) :
 Calls Tryz.prog 168 #[.pointer (some ⟨bb, 0, none⟩), .agg #[.string x.by_, .int .i64 x.no, .int .i64 x.at_, .int .i64 x.kind, .string x.piece, .int .i64 x.copy, .string x.singer]] w fun e w' => e = .returned (.int .i64 (lendD r L x).2) ∧ LibM base w' bb ms ml mh (q + 3) tp tn tc r (lendD r L x).1 ∧ KeepL base bb ms ml mh w w' := by
 obtain ⟨D, hD⟩ : ∃ D, D = lendD r L x := ⟨_, rfl⟩
 rw [← hD]
 have hM := h.ext ((Ext.refl w).alloc (.cells #[.string x.by_, .int .i64 x.no, .int .i64 x.at_, .int .i64 x.kind, .string x.piece, .int .i64 x.copy, .string x.singer] 101))
 have hX := Blk.new' (w := w) (g := w.heap.size) (t := 101) (cs := #[.string x.by_, .int .i64 x.no, .int .i64 x.at_, .int .i64 x.kind, .string x.piece, .int .i64 x.copy, .string x.singer]) rfl
 have hA1 : KeepL base bb ms ml mh w (w.alloc (.cells #[.string x.by_, .int .i64 x.no, .int .i64 x.at_, .int .i64 x.kind, .string x.piece, .int .i64 x.copy, .string x.singer] 101)) := (KeepL.refl w).ext ((Ext.refl w).alloc _)
 have hg1 : base ≤ (w.alloc (.cells #[.string x.by_, .int .i64 x.no, .int .i64 x.at_, .int .i64 x.kind, .string x.piece, .int .i64 x.copy, .string x.singer] 101)).heap.size := by simp; omega
 have hdef : D = if x.piece ∈ ownOf L x.singer then (L, 6) else if r.each ≤ (ownOf L x.singer).length then (L, 12) else
  (⟨setF L.st (x.piece, x.copy) outW, setF L.last (x.piece, x.copy) (L.loans.length : Int), L.loans ++ [⟨x.piece, x.copy, x.singer, x.at_, -1, false⟩], setF L.has x.singer (ownOf L x.singer ++ [x.piece])⟩, 0) := hD
 have hown : ownOf L x.singer = (L.has x.singer).getD [] := rfl
 clear h hD; replace hA1 := Lib.hid hA1; replace hM := Lib.hid hM; replace hX := Lib.hid hX
 go_enter Tryz.func168, Tryz.ntmps168
 go_upto_region 1 with fail
 generalize (w.alloc (.cells #[.string x.by_, .int .i64 x.no, .int .i64 x.at_, .int .i64 x.kind, .string x.piece, .int .i64 x.copy, .string x.singer] 101)) = W1 at *
 obtain ⟨⟨lv, hB, ho⟩, hm⟩ := hM.out
 obtain ⟨pl, cl, rfl, hSl⟩ := slc_of_own loanC_len ho (by decide) (by omega)
 have hrow : LRow base W1 bb tp tn tc r ms ml mh (.slice pl L.loans.length cl) L.loans := ⟨hB, ho⟩
 obtain ⟨m, hlk, hn0, hs0⟩ := hm.has.look2 hx.s
 have lb := hB.lt
 have lx := hX.out.lt
 have c8 := hB.cell 8
 have e6 := hX.out.cell 6
 unfold libC at c8
 generalize hgx : w.heap.size = gx at *
 replace hgx := Lib.hid hgx; replace hlk := Lib.hid hlk; replace hrow := Lib.hid hrow; replace hs0 := Lib.hid hs0; replace hm := Lib.hid hm
 have hM1 := hM
 clear ho hSl hB hM
 cases hH : L.has x.singer with
 | none =>
   rw [hH] at hown
   rw [hown] at hdef
   obtain rfl := hn0 hH
   clear hn0 hs0; replace hdef := Lib.hid hdef
   refine wp_region_facts [] [([],false,false),([0],false,false),([0,1],false,false),([0,1,2],false,false),([],false,false),([4],false,false),([0,1,2,3,4,5],false,false),([0,1,2,3,4,5,6],false,false)] (Ext) Ext (fun _ => True) (by kernel_rfl) (by kernel_rfl) Ext.refl (fun _ _ _ => Ext.trans) (fun _ _ h => h) (fun _ _ h => h.size) (fun _ _ h _ => h) trivial ?_
   dsimp only [List.length_cons, List.length_nil, List.drop_succ_cons, List.drop_zero, List.drop_nil]
   refine fq 0 rfl rfl rfl cK rfl rfl ?_; apply Exists.intro; constructor
   ·intro sv w' hw' hfa
    refine ⟨rfl, ?_⟩; simp only [putsL]; change qT _; simp only [qT, Act.put, sIA, sCS, sCZ]; simp [go_sem, quietTo, Ext.refl]; all_goals rfl
   refine fq 1 rfl rfl rfl cK rfl rfl ?_; apply Exists.intro; constructor
   ·rintro sv w' hw' ⟨(f0 : sv 0 = _), -⟩; (try dsimp only at f0)
    refine ⟨rfl, ?_⟩; simp only [putsL]; change qT (pT _ 7 (sv 0)); simp only [qT, pT, Act.put, sIA, sCS, sCZ]; simp [go_sem, quietTo, Ext.refl, f0]; all_goals rfl
   refine fq 2 rfl rfl rfl cK rfl rfl ?_; apply Exists.intro; constructor
   ·rintro sv w' hw' ⟨_, (f1 : sv 1 = _), -⟩; (try dsimp only at f1)
    refine ⟨rfl, ?_⟩; simp only [putsL]; change qT (pT (pT _ 8 (sv 1)) 7 (sv 0)); simp only [qT, pT, Act.put, sIA, sCS, sCZ]; simp [go_sem, quietTo, Ext.refl, f1]; all_goals rfl
   refine fq 3 rfl rfl rfl cK rfl rfl ?_; apply Exists.intro; constructor
   ·rintro sv w' hw' ⟨_, _, (f2 : sv 2 = _), -⟩; (try dsimp only at f2)
    obtain ⟨hc, hf, hz9⟩ := ((Ext.refl W1).drew.trans hw').walk; have y8 := (hc bb 8 lb).trans c8
    refine ⟨rfl, ?_⟩; simp only [putsL]; change qT (pT (pT (pT _ 9 (sv 2)) 8 (sv 1)) 7 (sv 0)); simp only [qT, pT, Act.put, sIA, sCS, sCZ]; simp [go_sem, quietTo, Ext.refl, ↓IntWalk.iteOmega, f2, y8]; (all_goals try simp (disch := omega) only [IntWalk.i64_in]); all_goals rfl
   refine fq 4 rfl rfl rfl cK rfl rfl ?_; apply Exists.intro; constructor
   ·intro sv w' hw' hfa
    refine ⟨rfl, ?_⟩; simp only [putsL]; change qT _; simp only [qT, Act.put, sIA, sCS, sCZ]; simp [go_sem, quietTo, Ext.refl]; all_goals rfl
   refine fq 5 rfl rfl rfl cK rfl rfl ?_; apply Exists.intro; constructor
   ·rintro sv w' hw' ⟨(f4 : sv 4 = _), -⟩; (try dsimp only at f4)
    obtain ⟨hc, hf, hz9⟩ := ((Ext.refl W1).drew.trans hw').walk; have x6 := (hc gx 6 lx).trans e6
    refine ⟨rfl, ?_⟩; simp only [putsL]; change qT (pT _ 11 (sv 4)); simp only [qT, pT, Act.put, sIA, sCS, sCZ]; simp [go_sem, quietTo, Ext.refl, ↓IntWalk.iteOmega, f4, x6]; (all_goals try simp (disch := omega) only [IntWalk.i64_in]); all_goals rfl
   refine fq 6 rfl rfl rfl cK rfl rfl ?_; apply Exists.intro; constructor
   ·rintro sv w' hw' ⟨_, _, _, (f3 : sv 3 = _), _, (f5 : sv 5 = _), -⟩; (try dsimp only at f3 f5)
    have hl9 := hlk.out w' ((Ext.refl W1).drew.trans hw')
    refine ⟨rfl, ?_⟩; simp only [putsL]; change qT (pT (pT (pT (pT (pT (pT _ 12 (sv 5)) 11 (sv 4)) 10 (sv 3)) 9 (sv 2)) 8 (sv 1)) 7 (sv 0)); simp only [qT, pT, Act.put, sIA, sCS, sCZ]; simp [go_sem, quietTo, Ext.refl, ↓IntWalk.iteOmega, f3, f5, hl9]; (all_goals try simp (disch := omega) only [IntWalk.i64_in]); all_goals rfl
   refine fq 7 rfl rfl rfl cK rfl rfl ?_; apply Exists.intro; constructor
   ·rintro sv w' hw' ⟨_, _, _, _, _, _, (f6 : sv 6 = _), -⟩; (try dsimp only at f6)
    refine ⟨rfl, ?_⟩; simp only [putsL]; change qT (pT (pT (pT (pT (pT (pT (pT _ 13 (sv 6)) 12 (sv 5)) 11 (sv 4)) 10 (sv 3)) 9 (sv 2)) 8 (sv 1)) 7 (sv 0)); simp only [qT, pT, Act.put, sIA, sCS, sCZ]; simp [go_sem, quietTo, Ext.refl, f6]; all_goals rfl
   refine fac_nil fun xa wra hera hfra hcra holda hapa => ?_
   obtain ⟨(f0 : xa 0 = _), (f1 : xa 1 = _), (f2 : xa 2 = _), (f3 : xa 3 = _), (f4 : xa 4 = _), (f5 : xa 5 = _), (f6 : xa 6 = _), (f7 : xa 7 = _), -⟩ := hfra; (try dsimp only at f0 f1 f2 f3 f4 f5 f6 f7)
   change wpList _ _ _ _ (pT (pT (pT (pT (pT (pT (pT (pT _ 7 (xa 0)) 8 (xa 1)) 9 (xa 2)) 10 (xa 3)) 11 (xa 4)) 12 (xa 5)) 13 (xa 6)) 5 (xa 7)) _
   simp only [putsL, Nat.reduceAdd, List.drop_succ_cons, List.drop_zero, List.drop_nil, pT, Act.put, sIA, sCS, sCZ]
   try simp only [f0, f1, f2, f3, f4, f5, f6, f7]
   clear f0 f1 f2 f3 f4 f5 f6 f7; clear holda hapa
   have hka := (Ext.refl W1).drew.trans hera
   have hra := hrow.out.ext hka
   have hxa := hX.out.ext hka
   have ea4 := hxa.cell 4
   have ca4 := hra.1.cell 4
   have la := hxa.lt
   have lba := hra.1.lt
   unfold libC at ca4
   have hlb2 : (Instr.lookup 255 (.map none) (.string x.piece) false).run Tryz.prog wra = .ok (.bool false) wra := look_none (M := strB) hx.p
   replace hlb2 := Lib.hid hlb2
   go_upto_region 4 with (refine wpList_lookM rfl _ _ 255 false rfl (.map none) (.string x.piece) _ rfl rfl hlb2.out ?_)
   clear hlb2
   have hlen : ∀ u ty, (Builtin.len_ #[255] ty #[.map none]).run Tryz.prog u = .ok (.int .i64 0) u := fun u ty => Maps.len_nil strB.und ty
   replace hlen := Lib.hid hlen
   refine wp_region_facts [] [([],false,false),([0],false,false),([],false,false),([2],false,false),([2,3],false,false),([2,3,4],false,false),([2,3,4,5],false,false),([0,1,2,3,4,5,6],false,false)] (Ext) Ext (fun _ => True) (by kernel_rfl) (by kernel_rfl) Ext.refl (fun _ _ _ => Ext.trans) (fun _ _ h => h) (fun _ _ h => h.size) (fun _ _ h _ => h) trivial ?_
   dsimp only [List.length_cons, List.length_nil, List.drop_succ_cons, List.drop_zero, List.drop_nil]
   refine fq 0 rfl rfl rfl cK rfl rfl ?_; apply Exists.intro; constructor
   ·intro sv w' hw' hfa
    refine ⟨rfl, ?_⟩; simp only [putsL]; change qT _; simp only [qT, Act.put, sIA, sCS, sCZ]; simp [go_sem, quietTo, Ext.refl]; all_goals rfl
   refine fq 1 rfl rfl rfl cK rfl rfl ?_; apply Exists.intro; constructor
   ·rintro sv w' hw' ⟨(f0 : sv 0 = _), -⟩; (try dsimp only at f0)
    obtain ⟨hc, hf, hz9⟩ := ((Ext.refl wra).drew.trans hw').walk; have y4 := (hc bb 4 lba).trans ca4; have hl9 := hlen.out w'
    refine ⟨rfl, ?_⟩; simp only [putsL]; change qT (pT _ 18 (sv 0)); simp only [qT, pT, Act.put, sIA, sCS, sCZ]; simp [go_sem, quietTo, Ext.refl, ↓IntWalk.iteOmega, f0, hl9]; (all_goals try simp (disch := omega) only [IntWalk.i64_in]); all_goals rfl
   refine fq 2 rfl rfl rfl cK rfl rfl ?_; apply Exists.intro; constructor
   ·intro sv w' hw' hfa
    refine ⟨rfl, ?_⟩; simp only [putsL]; change qT _; simp only [qT, Act.put, sIA, sCS, sCZ]; simp [go_sem, quietTo, Ext.refl]; all_goals rfl
   refine fq 3 rfl rfl rfl cK rfl rfl ?_; apply Exists.intro; constructor
   ·rintro sv w' hw' ⟨(f2 : sv 2 = _), -⟩; (try dsimp only at f2)
    refine ⟨rfl, ?_⟩; simp only [putsL]; change qT (pT _ 20 (sv 2)); simp only [qT, pT, Act.put, sIA, sCS, sCZ]; simp [go_sem, quietTo, Ext.refl, f2]; all_goals rfl
   refine fq 4 rfl rfl rfl cK rfl rfl ?_; apply Exists.intro; constructor
   ·rintro sv w' hw' ⟨_, (f3 : sv 3 = _), -⟩; (try dsimp only at f3)
    refine ⟨rfl, ?_⟩; simp only [putsL]; change qT (pT (pT _ 21 (sv 3)) 20 (sv 2)); simp only [qT, pT, Act.put, sIA, sCS, sCZ]; simp [go_sem, quietTo, Ext.refl, f3]; all_goals rfl
   refine fq 5 rfl rfl rfl cK rfl rfl ?_; apply Exists.intro; constructor
   ·rintro sv w' hw' ⟨_, _, (f4 : sv 4 = _), -⟩; (try dsimp only at f4)
    refine ⟨rfl, ?_⟩; simp only [putsL]; change qT (pT (pT (pT _ 22 (sv 4)) 21 (sv 3)) 20 (sv 2)); simp only [qT, pT, Act.put, sIA, sCS, sCZ]; simp [go_sem, quietTo, Ext.refl, f4]; all_goals rfl
   refine fq 6 rfl rfl rfl cK rfl rfl ?_; apply Exists.intro; constructor
   ·rintro sv w' hw' ⟨_, _, _, (f5 : sv 5 = _), -⟩; (try dsimp only at f5)
    obtain ⟨hc, hf, hz9⟩ := ((Ext.refl wra).drew.trans hw').walk; have y4 := (hc bb 4 lba).trans ca4; have hl9 := hlen.out w'
    refine ⟨rfl, ?_⟩; simp only [putsL]; change qT (pT (pT (pT (pT _ 23 (sv 5)) 22 (sv 4)) 21 (sv 3)) 20 (sv 2)); simp only [qT, pT, Act.put, sIA, sCS, sCZ]; simp [go_sem, quietTo, Ext.refl, ↓IntWalk.iteOmega, f5, y4]; (all_goals try simp (disch := omega) only [IntWalk.i64_in]); all_goals rfl
   refine fq 7 rfl rfl rfl cK rfl rfl ?_; apply Exists.intro; constructor
   ·rintro sv w' hw' ⟨_, (f1 : sv 1 = _), _, _, _, _, (f6 : sv 6 = _), -⟩; (try dsimp only at f1 f6)
    refine ⟨rfl, ?_⟩; simp only [putsL]; change qT (pT (pT (pT (pT (pT (pT (pT _ 24 (sv 6)) 23 (sv 5)) 22 (sv 4)) 21 (sv 3)) 20 (sv 2)) 19 (sv 1)) 18 (sv 0)); simp only [qT, pT, Act.put, sIA, sCS, sCZ]; simp [go_sem, quietTo, Ext.refl, ↓IntWalk.iteOmega, f1, f6]; (all_goals try simp (disch := omega) only [IntWalk.i64_in]); all_goals rfl
   refine fac_nil fun xb wrb herb hfrb hcrb holdb hapb => ?_
   obtain ⟨(f0 : xb 0 = _), (f1 : xb 1 = _), (f2 : xb 2 = _), (f3 : xb 3 = _), (f4 : xb 4 = _), (f5 : xb 5 = _), (f6 : xb 6 = _), (f7 : xb 7 = _), -⟩ := hfrb; (try dsimp only at f0 f1 f2 f3 f4 f5 f6 f7)
   change wpList _ _ _ _ (pT (pT (pT (pT (pT (pT (pT (pT _ 18 (xb 0)) 19 (xb 1)) 20 (xb 2)) 21 (xb 3)) 22 (xb 4)) 23 (xb 5)) 24 (xb 6)) 25 (xb 7)) _
   simp only [putsL, Nat.reduceAdd, List.drop_succ_cons, List.drop_zero, List.drop_nil, pT, Act.put, sIA, sCS, sCZ]
   try simp only [f0, f1, f2, f3, f4, f5, f6, f7]
   clear f0 f1 f2 f3 f4 f5 f6 f7; clear holdb hapb
   have hkb := (Ext.refl wra).drew.trans herb
   have hnil := eqlNoneM
   by_cases hfull : r.each ≤ (0 : Int)
   ·have hde : D = (L, 12) := by rw [hdef.out, Option.getD_none, if_neg (by simp)]; exact if_pos (by simpa using hfull)
    go_wp2
    go_ret
    exact ⟨by rw [hde]; rfl, by rw [hde]; exact ((hM1.out.ext hka).ext hkb).more (by omega), (hA1.out.ext hka).ext hkb⟩
   have hde : D = (⟨setF L.st (x.piece, x.copy) outW, setF L.last (x.piece, x.copy) (L.loans.length : Int), L.loans ++ [⟨x.piece, x.copy, x.singer, x.at_, -1, false⟩], updK (updK L.has x.singer []) x.singer ([] ++ [x.piece])⟩, 0) := by
    rw [hdef.out, Option.getD_none, if_neg (by simp), if_neg (by simpa using hfull)]
    have e9 : setF L.has x.singer ([] ++ [x.piece]) = updK (updK L.has x.singer []) x.singer ([] ++ [x.piece]) := by
     funext z
     unfold setF updK
     by_cases e : z = x.singer
     ·rw [if_pos e, if_pos e]
     ·rw [if_neg e, if_neg e, if_neg e]
    rw [e9]
   have hmm := @run_makeMap Tryz.prog
   have hmb := (hm.out.ext hka).ext hkb
   have hrb := hra.ext hkb
   have hxb := hxa.ext hkb
   have hAb : KeepL base bb ms ml mh w wrb := (hA1.out.ext hka).ext hkb
   have hbb : base ≤ wrb.heap.size := by have := hAb.size; have := hgx.out; omega
   replace hAb := Lib.hid hAb; clear hA1 hlk hM1 hm hrow hdef hlen hra hxa ea4 ca4 la lba hka hkb hera herb c8 e6 lb lx hown hX
   go_upto_region 8 with fail
   clear hmm
   have hEm : Ext wrb (wrb.alloc (.map #[] 0)) := (Ext.refl wrb).alloc _
   have c8 := (hrb.ext hEm).1.cell 8
   have e6 := (hxb.ext hEm).cell 6
   have lb := (hrb.ext hEm).1.lt
   have lx := (hxb.ext hEm).lt
   unfold libC at c8
   refine wp_region_facts [] [([],false,false),([0],false,false),([0,1],false,false),([0,1,2],false,false),([],false,false),([4],false,false),([],false,false)] (Ext) Ext (fun _ => True) (by kernel_rfl) (by kernel_rfl) Ext.refl (fun _ _ _ => Ext.trans) (fun _ _ h => h) (fun _ _ h => h.size) (fun _ _ h _ => h) trivial ?_
   dsimp only [List.length_cons, List.length_nil, List.drop_succ_cons, List.drop_zero, List.drop_nil]
   refine fq 0 rfl rfl rfl cK rfl rfl ?_; apply Exists.intro; constructor
   ·intro sv w' hw' hfa
    refine ⟨rfl, ?_⟩; simp only [putsL]; change qT _; simp only [qT, Act.put, sIA, sCS, sCZ]; simp [go_sem, quietTo, Ext.refl]; all_goals rfl
   refine fq 1 rfl rfl rfl cK rfl rfl ?_; apply Exists.intro; constructor
   ·rintro sv w' hw' ⟨(f0 : sv 0 = _), -⟩; (try dsimp only at f0)
    refine ⟨rfl, ?_⟩; simp only [putsL]; change qT (pT _ 29 (sv 0)); simp only [qT, pT, Act.put, sIA, sCS, sCZ]; simp [go_sem, quietTo, Ext.refl, f0]; all_goals rfl
   refine fq 2 rfl rfl rfl cK rfl rfl ?_; apply Exists.intro; constructor
   ·rintro sv w' hw' ⟨_, (f1 : sv 1 = _), -⟩; (try dsimp only at f1)
    refine ⟨rfl, ?_⟩; simp only [putsL]; change qT (pT (pT _ 30 (sv 1)) 29 (sv 0)); simp only [qT, pT, Act.put, sIA, sCS, sCZ]; simp [go_sem, quietTo, Ext.refl, f1]; all_goals rfl
   refine fq 3 rfl rfl rfl cK rfl rfl ?_; apply Exists.intro; constructor
   ·rintro sv w' hw' ⟨_, _, (f2 : sv 2 = _), -⟩; (try dsimp only at f2)
    obtain ⟨hc, hf, hz9⟩ := ((Ext.refl (wrb.alloc (.map #[] 0))).drew.trans hw').walk; have y8 := (hc bb 8 lb).trans c8; have x6 := (hc gx 6 lx).trans e6
    refine ⟨rfl, ?_⟩; simp only [putsL]; change qT (pT (pT (pT _ 31 (sv 2)) 30 (sv 1)) 29 (sv 0)); simp only [qT, pT, Act.put, sIA, sCS, sCZ]; simp [go_sem, quietTo, Ext.refl, ↓IntWalk.iteOmega, f2, y8]; (all_goals try simp (disch := omega) only [IntWalk.i64_in]); all_goals rfl
   refine fq 4 rfl rfl rfl cK rfl rfl ?_; apply Exists.intro; constructor
   ·intro sv w' hw' hfa
    refine ⟨rfl, ?_⟩; simp only [putsL]; change qT _; simp only [qT, Act.put, sIA, sCS, sCZ]; simp [go_sem, quietTo, Ext.refl]; all_goals rfl
   refine fq 5 rfl rfl rfl cK rfl rfl ?_; apply Exists.intro; constructor
   ·rintro sv w' hw' ⟨(f4 : sv 4 = _), -⟩; (try dsimp only at f4)
    obtain ⟨hc, hf, hz9⟩ := ((Ext.refl (wrb.alloc (.map #[] 0))).drew.trans hw').walk; have y8 := (hc bb 8 lb).trans c8; have x6 := (hc gx 6 lx).trans e6
    refine ⟨rfl, ?_⟩; simp only [putsL]; change qT (pT _ 33 (sv 4)); simp only [qT, pT, Act.put, sIA, sCS, sCZ]; simp [go_sem, quietTo, Ext.refl, ↓IntWalk.iteOmega, f4, x6]; (all_goals try simp (disch := omega) only [IntWalk.i64_in]); all_goals rfl
   refine fq 6 rfl rfl rfl cK rfl rfl ?_; apply Exists.intro; constructor
   ·intro sv w' hw' hfa
    refine ⟨rfl, ?_⟩; simp only [putsL]; change qT _; simp only [qT, Act.put, sIA, sCS, sCZ]; simp [go_sem, quietTo, Ext.refl]; all_goals rfl
   refine fac_nil fun xz wrz herz hfrz hcrz holdz hapz => ?_
   obtain ⟨(f0 : xz 0 = _), (f1 : xz 1 = _), (f2 : xz 2 = _), (f3 : xz 3 = _), (f4 : xz 4 = _), (f5 : xz 5 = _), (f6 : xz 6 = _), -⟩ := hfrz; (try dsimp only at f0 f1 f2 f3 f4 f5 f6)
   change wpList _ _ _ _ (pT (pT (pT (pT (pT (pT (pT _ 29 (xz 0)) 30 (xz 1)) 31 (xz 2)) 32 (xz 3)) 33 (xz 4)) 34 (xz 5)) 35 (xz 6)) _
   simp only [putsL, Nat.reduceAdd, List.drop_succ_cons, List.drop_zero, List.drop_nil, pT, Act.put, sIA, sCS, sCZ]
   try simp only [f0, f1, f2, f3, f4, f5, f6]
   clear f0 f1 f2 f3 f4 f5 f6; clear holdz hapz
   have hkz := (Ext.refl (wrb.alloc (.map #[] 0))).drew.trans herz
   obtain ⟨w5, hrun5, hcan5, hg5⟩ := hmb.has.fresh hx.s hH (by omega) hbb hmb.st.lt hmb.last.lt hkz
   have hEz := hEm.trans hkz
   have hrowM := (hrb.ext hEz).turned hg5 (hmb.has.ext hEz).isMap
   have hxM : Blk w5 gx 101 #[.string x.by_, .int .i64 x.no, .int .i64 x.at_, .int .i64 x.kind, .string x.piece, .int .i64 x.copy, .string x.singer] := (hg5.block gx (hxb.ext hEz).lt fun e => by cases e; obtain ⟨es, c, e2⟩ := (hmb.has.ext hEz).isMap; exact NoMap.blk (hxb.ext hEz) _ _ _ e2 rfl).trans (hxb.ext hEz)
   have hstM := ((hmb.st.ext hEz).grown hg5 (by simpa using hmb.sh)).le (show q ≤ q + 1 by omega)
   have hlaM := ((hmb.last.ext hEz).grown hg5 (by simpa using hmb.lh)).le (show q ≤ q + 1 by omega)
   have hAM : KeepL base bb ms ml mh w w5 := (hAb.out.ext hEz).grown hg5 (.inr (.inr (.inr (.inl rfl))))
   obtain ⟨-, -, -, hsl, hsh, hlh⟩ := hmb
   replace hAM := Lib.hid hAM; replace hrun5 := Lib.hid hrun5; clear hAb hrb hxb hEm hg5 hEz c8 e6 lb lx hbb
   go_upto_region 9 with (refine wpList_putM rfl _ _ _ 128 rfl (.map (some mh)) (.string x.singer) (.map (some wrb.heap.size)) rfl rfl rfl w5 hrun5.out ?_)
   clear hrun5 hkz herz
   have hcanM := hcan5
   clear hcan5
   obtain ⟨HM, eH⟩ : ∃ HM, HM = updK L.has x.singer [] := ⟨_, rfl⟩
   obtain ⟨lM, eL⟩ : ∃ lM : List ByteArray, lM = [] := ⟨_, rfl⟩
   obtain ⟨bM, eB⟩ : ∃ bM, bM = wrb.heap.size := ⟨_, rfl⟩
   obtain ⟨qM, eQ⟩ : ∃ qM, qM = q + 1 := ⟨_, rfl⟩
   have hqM : qM ≤ q + 1 := by omega
   have hinM : x.piece ∉ lM := by rw [eL]; simp
   have hllM : lM.length ≤ 100000 := by rw [eL]; simp
   rw [← eH] at hde hcanM
   rw [← eB, ← eQ] at hcanM
   rw [← eQ] at hstM hlaM
   replace hde : D = (⟨setF L.st (x.piece, x.copy) outW, setF L.last (x.piece, x.copy) (L.loans.length : Int), L.loans ++ [⟨x.piece, x.copy, x.singer, x.at_, -1, false⟩], updK HM x.singer (lM ++ [x.piece])⟩, 0) := by rw [eL]; exact hde
   replace hcanM : Can base w5 ms ml mh qM HM x.singer bM lM := by rw [eL]; exact hcanM
   rw [← eB]
   clear eH eL eB eQ hH hnil
   obtain ⟨w6, hrun6, hh6, hg6⟩ := hcanM.more hx.p hinM (by omega)
   have hib := hcanM.1
   have hrow6 := hrowM.turned hg6 hib.own.isMap
   have hx6 : Blk w6 gx 101 #[.string x.by_, .int .i64 x.no, .int .i64 x.at_, .int .i64 x.kind, .string x.piece, .int .i64 x.copy, .string x.singer] := (hg6.block gx hxM.lt fun e => by cases e; exact blk_mapX_ne hib.own hxM rfl).trans hxM
   have hmaps6 : MapsM base w6 ms ml mh qM ⟨L.st, L.last, L.loans, updK HM x.singer (lM ++ [x.piece])⟩ := ⟨hstM.grown hg6 (by simpa using hib.ns.symm), hlaM.grown hg6 (by simpa using hib.nl.symm), hh6, hsl, hsh, hlh⟩
   have hA6 : KeepL base bb ms ml mh w w6 := hAM.out.grown hg6 (.inr (.inr (.inr (.inr hib.low))))
   have hmaps7 := hmaps6.ext ((Ext.refl w6).alloc (.cells #[.string x.piece, .int .i64 x.copy] 120))
   have hk7 := Blk.new' (w := w6) (g := w6.heap.size) (t := 120) (cs := #[.string x.piece, .int .i64 x.copy]) rfl
   have hx7 := hx6.ext ((Ext.refl w6).alloc (.cells #[.string x.piece, .int .i64 x.copy] 120))
   have hrow7 := hrow6.ext ((Ext.refl w6).alloc (.cells #[.string x.piece, .int .i64 x.copy] 120))
   have hA7 : KeepL base bb ms ml mh w (w6.alloc (.cells #[.string x.piece, .int .i64 x.copy] 120)) := hA6.ext ((Ext.refl _).alloc _)
   have ex4 := hx6.cell 4
   have ex5 := hx6.cell 5
   have lx6 := hx6.lt
   have eb4 := hxM.cell 4
   have lb6 := hxM.lt
   replace hrun6 := Lib.hid hrun6; replace hde := Lib.hid hde; clear hg6 hib hh6 hmaps6 hA6 hrow6 hcanM hstM hlaM hrowM hAM
   go_upto_region 11 with (refine wpList_putM rfl _ _ _ 255 rfl (.map (some bM)) (.string x.piece) (.bool true) rfl rfl rfl w6 hrun6.out ?_)
   replace hde := hde.out
   clear hrun6 ex4 ex5 lx6 eb4 lb6
   generalize (w6.alloc (.cells #[.string x.piece, .int .i64 x.copy] 120)) = W7 at *
   generalize w6.heap.size = gk at *
   -- from here on both ways are alike
   replace hA7 := Lib.hid hA7; replace hde := Lib.hid hde
   have lb7 := hrow7.1.lt
   have lk7 := hk7.lt
   have lx7 := hx7.lt
   have d5 := hrow7.1.cell 5
   have k0 := hk7.cell 0
   have k1 := hk7.cell 1
   unfold libC at d5
   refine wp_region_facts [] [([],false,false),([0],false,false),([0,1],false,false),([0,1,2],false,false),([],false,false)] (Ext) Ext (fun _ => True) (by kernel_rfl) (by kernel_rfl) Ext.refl (fun _ _ _ => Ext.trans) (fun _ _ h => h) (fun _ _ h => h.size) (fun _ _ h _ => h) trivial ?_
   dsimp only [List.length_cons, List.length_nil, List.drop_succ_cons, List.drop_zero, List.drop_nil]
   refine fq 0 rfl rfl rfl cK rfl rfl ?_; apply Exists.intro; constructor
   ·intro sv w' hw' hfa
    refine ⟨rfl, ?_⟩; simp only [putsL]; change qT _; simp only [qT, Act.put, sIA, sCS, sCZ]; simp [go_sem, quietTo, Ext.refl]; all_goals rfl
   refine fq 1 rfl rfl rfl cK rfl rfl ?_; apply Exists.intro; constructor
   ·rintro sv w' hw' ⟨(f0 : sv 0 = _), -⟩; (try dsimp only at f0)
    refine ⟨rfl, ?_⟩; simp only [putsL]; change qT (pT _ 44 (sv 0)); simp only [qT, pT, Act.put, sIA, sCS, sCZ]; simp [go_sem, quietTo, Ext.refl, f0]; all_goals rfl
   refine fq 2 rfl rfl rfl cK rfl rfl ?_; apply Exists.intro; constructor
   ·rintro sv w' hw' ⟨_, (f1 : sv 1 = _), -⟩; (try dsimp only at f1)
    refine ⟨rfl, ?_⟩; simp only [putsL]; change qT (pT (pT _ 45 (sv 1)) 44 (sv 0)); simp only [qT, pT, Act.put, sIA, sCS, sCZ]; simp [go_sem, quietTo, Ext.refl, f1]; all_goals rfl
   refine fq 3 rfl rfl rfl cK rfl rfl ?_; apply Exists.intro; constructor
   ·rintro sv w' hw' ⟨_, _, (f2 : sv 2 = _), -⟩; (try dsimp only at f2)
    obtain ⟨hc, hf, hz9⟩ := ((Ext.refl W7).drew.trans hw').walk; have y5 := (hc bb 5 lb7).trans d5
    refine ⟨rfl, ?_⟩; simp only [putsL]; change qT (pT (pT (pT _ 46 (sv 2)) 45 (sv 1)) 44 (sv 0)); simp only [qT, pT, Act.put, sIA, sCS, sCZ]; simp [go_sem, quietTo, Ext.refl, ↓IntWalk.iteOmega, f2, y5]; (all_goals try simp (disch := omega) only [IntWalk.i64_in]); all_goals rfl
   refine fq 4 rfl rfl rfl cK rfl rfl ?_; apply Exists.intro; constructor
   ·intro sv w' hw' hfa
    obtain ⟨hc, hf, hz9⟩ := ((Ext.refl W7).drew.trans hw').walk; have z0 := (hc gk 0 lk7).trans k0; have z1 := (hc gk 1 lk7).trans k1
    refine ⟨rfl, ?_⟩; simp only [putsL]; change qT _; simp only [qT, Act.put, sIA, sCS, sCZ]; simp [go_sem, quietTo, Ext.refl, ↓IntWalk.iteOmega, z0, z1]; (all_goals try simp (disch := omega) only [IntWalk.i64_in]); all_goals rfl
   refine fac_nil fun xc wrc herc hfrc hcrc holdc hapc => ?_
   obtain ⟨(f0 : xc 0 = _), (f1 : xc 1 = _), (f2 : xc 2 = _), (f3 : xc 3 = _), (f4 : xc 4 = _), -⟩ := hfrc; (try dsimp only at f0 f1 f2 f3 f4)
   change wpList _ _ _ _ (pT (pT (pT (pT (pT _ 44 (xc 0)) 45 (xc 1)) 46 (xc 2)) 47 (xc 3)) 48 (xc 4)) _
   simp only [putsL, Nat.reduceAdd, List.drop_succ_cons, List.drop_zero, List.drop_nil, pT, Act.put, sIA, sCS, sCZ]
   try simp only [f0, f1, f2, f3, f4]
   clear f0 f1 f2 f3 f4; clear holdc hapc
   have hkc := (Ext.refl W7).drew.trans herc
   obtain ⟨w8, hrun8, hm8, hg8⟩ := (hmaps7.ext hkc).putSt (k := (x.piece, x.copy)) hx.k (by omega) outW
   unfold snV at hrun8
   have hrow8 := (hrow7.ext hkc).turned hg8 (hmaps7.ext hkc).st.isMap
   have hk8 : Blk w8 gk 120 #[.string x.piece, .int .i64 x.copy] := (hg8.block gk (hk7.ext hkc).lt fun e => by cases e; exact blk_mapK_ne (hmaps7.ext hkc).st (hk7.ext hkc) rfl).trans (hk7.ext hkc)
   have hx8 : Blk w8 gx 101 #[.string x.by_, .int .i64 x.no, .int .i64 x.at_, .int .i64 x.kind, .string x.piece, .int .i64 x.copy, .string x.singer] := (hg8.block gx (hx7.ext hkc).lt fun e => by cases e; exact blk_mapK_ne (hmaps7.ext hkc).st (hx7.ext hkc) rfl).trans (hx7.ext hkc)
   have hA8 : KeepL base bb ms ml mh w w8 := (hA7.out.ext hkc).grown hg8 (.inr (.inl rfl))
   replace hA8 := Lib.hid hA8; replace hrun8 := Lib.hid hrun8; clear d5 k0 k1 hrow7 hk7 hx7 hA7 hmaps7 hg8
   go_upto_region 12 with (refine wpList_putM rfl _ _ _ 125 rfl (.map (some ms)) (.agg #[.string x.piece, .int .i64 x.copy]) (.string outW) rfl rfl rfl w8 hrun8.out ?_)
   clear hrun8 hkc herc hcrc xc
   have lb8 := hrow8.1.lt
   have lk8 := hk8.lt
   have d6 := hrow8.1.cell 6
   have d7 := hrow8.1.cell 7
   have k0 := hk8.cell 0
   have k1 := hk8.cell 1
   unfold libC at d6 d7
   refine wp_region_facts [] [([],false,false),([0],false,false),([0,1],false,false),([0,1,2],false,false),([],false,false),([],false,false),([5],false,false),([5,6],false,false),([5,6,7],false,false),([5,6,7,8],false,false)] (Ext) Ext (fun _ => True) (by kernel_rfl) (by kernel_rfl) Ext.refl (fun _ _ _ => Ext.trans) (fun _ _ h => h) (fun _ _ h => h.size) (fun _ _ h _ => h) trivial ?_
   dsimp only [List.length_cons, List.length_nil, List.drop_succ_cons, List.drop_zero, List.drop_nil]
   refine fq 0 rfl rfl rfl cK rfl rfl ?_; apply Exists.intro; constructor
   ·intro sv w' hw' hfa
    refine ⟨rfl, ?_⟩; simp only [putsL]; change qT _; simp only [qT, Act.put, sIA, sCS, sCZ]; simp [go_sem, quietTo, Ext.refl]; all_goals rfl
   refine fq 1 rfl rfl rfl cK rfl rfl ?_; apply Exists.intro; constructor
   ·rintro sv w' hw' ⟨(f0 : sv 0 = _), -⟩; (try dsimp only at f0)
    refine ⟨rfl, ?_⟩; simp only [putsL]; change qT (pT _ 49 (sv 0)); simp only [qT, pT, Act.put, sIA, sCS, sCZ]; simp [go_sem, quietTo, Ext.refl, f0]; all_goals rfl
   refine fq 2 rfl rfl rfl cK rfl rfl ?_; apply Exists.intro; constructor
   ·rintro sv w' hw' ⟨_, (f1 : sv 1 = _), -⟩; (try dsimp only at f1)
    refine ⟨rfl, ?_⟩; simp only [putsL]; change qT (pT (pT _ 50 (sv 1)) 49 (sv 0)); simp only [qT, pT, Act.put, sIA, sCS, sCZ]; simp [go_sem, quietTo, Ext.refl, f1]; all_goals rfl
   refine fq 3 rfl rfl rfl cK rfl rfl ?_; apply Exists.intro; constructor
   ·rintro sv w' hw' ⟨_, _, (f2 : sv 2 = _), -⟩; (try dsimp only at f2)
    obtain ⟨hc, hf, hz9⟩ := ((Ext.refl w8).drew.trans hw').walk; have y6 := (hc bb 6 lb8).trans d6
    refine ⟨rfl, ?_⟩; simp only [putsL]; change qT (pT (pT (pT _ 51 (sv 2)) 50 (sv 1)) 49 (sv 0)); simp only [qT, pT, Act.put, sIA, sCS, sCZ]; simp [go_sem, quietTo, Ext.refl, ↓IntWalk.iteOmega, f2, y6]; (all_goals try simp (disch := omega) only [IntWalk.i64_in]); all_goals rfl
   refine fq 4 rfl rfl rfl cK rfl rfl ?_; apply Exists.intro; constructor
   ·intro sv w' hw' hfa
    obtain ⟨hc, hf, hz9⟩ := ((Ext.refl w8).drew.trans hw').walk; have z0 := (hc gk 0 lk8).trans k0; have z1 := (hc gk 1 lk8).trans k1
    refine ⟨rfl, ?_⟩; simp only [putsL]; change qT _; simp only [qT, Act.put, sIA, sCS, sCZ]; simp [go_sem, quietTo, Ext.refl, ↓IntWalk.iteOmega, z0, z1]; (all_goals try simp (disch := omega) only [IntWalk.i64_in]); all_goals rfl
   refine fq 5 rfl rfl rfl cK rfl rfl ?_; apply Exists.intro; constructor
   ·intro sv w' hw' hfa
    refine ⟨rfl, ?_⟩; simp only [putsL]; change qT _; simp only [qT, Act.put, sIA, sCS, sCZ]; simp [go_sem, quietTo, Ext.refl]; all_goals rfl
   refine fq 6 rfl rfl rfl cK rfl rfl ?_; apply Exists.intro; constructor
   ·rintro sv w' hw' ⟨(f5 : sv 5 = _), -⟩; (try dsimp only at f5)
    refine ⟨rfl, ?_⟩; simp only [putsL]; change qT (pT _ 54 (sv 5)); simp only [qT, pT, Act.put, sIA, sCS, sCZ]; simp [go_sem, quietTo, Ext.refl, f5]; all_goals rfl
   refine fq 7 rfl rfl rfl cK rfl rfl ?_; apply Exists.intro; constructor
   ·rintro sv w' hw' ⟨_, (f6 : sv 6 = _), -⟩; (try dsimp only at f6)
    refine ⟨rfl, ?_⟩; simp only [putsL]; change qT (pT (pT _ 55 (sv 6)) 54 (sv 5)); simp only [qT, pT, Act.put, sIA, sCS, sCZ]; simp [go_sem, quietTo, Ext.refl, f6]; all_goals rfl
   refine fq 8 rfl rfl rfl cK rfl rfl ?_; apply Exists.intro; constructor
   ·rintro sv w' hw' ⟨_, _, (f7 : sv 7 = _), -⟩; (try dsimp only at f7)
    obtain ⟨hc, hf, hz9⟩ := ((Ext.refl w8).drew.trans hw').walk; have y7 := (hc bb 7 lb8).trans d7
    refine ⟨rfl, ?_⟩; simp only [putsL]; change qT (pT (pT (pT _ 56 (sv 7)) 55 (sv 6)) 54 (sv 5)); simp only [qT, pT, Act.put, sIA, sCS, sCZ]; simp [go_sem, quietTo, Ext.refl, ↓IntWalk.iteOmega, f7, y7]; (all_goals try simp (disch := omega) only [IntWalk.i64_in]); all_goals rfl
   refine fq 9 rfl rfl rfl cK rfl rfl ?_; apply Exists.intro; constructor
   ·rintro sv w' hw' ⟨_, _, _, (f8 : sv 8 = _), -⟩; (try dsimp only at f8)
    refine ⟨rfl, ?_⟩; simp only [putsL]; change qT (pT (pT (pT (pT _ 57 (sv 8)) 56 (sv 7)) 55 (sv 6)) 54 (sv 5)); simp only [qT, pT, Act.put, sIA, sCS, sCZ]; simp [go_sem, quietTo, Ext.refl, ↓IntWalk.iteOmega, f8]; (all_goals try simp (disch := omega) only [IntWalk.i64_in]); all_goals rfl
   refine fac_nil fun xd wrd herd hfrd hcrd holdd hapd => ?_
   obtain ⟨(f0 : xd 0 = _), (f1 : xd 1 = _), (f2 : xd 2 = _), (f3 : xd 3 = _), (f4 : xd 4 = _), (f5 : xd 5 = _), (f6 : xd 6 = _), (f7 : xd 7 = _), (f8 : xd 8 = _), (f9 : xd 9 = _), -⟩ := hfrd; (try dsimp only at f0 f1 f2 f3 f4 f5 f6 f7 f8 f9)
   change wpList _ _ _ _ (pT (pT (pT (pT (pT (pT (pT (pT (pT (pT _ 49 (xd 0)) 50 (xd 1)) 51 (xd 2)) 52 (xd 3)) 53 (xd 4)) 54 (xd 5)) 55 (xd 6)) 56 (xd 7)) 57 (xd 8)) 58 (xd 9)) _
   simp only [putsL, Nat.reduceAdd, List.drop_succ_cons, List.drop_zero, List.drop_nil, pT, Act.put, sIA, sCS, sCZ]
   try simp only [f0, f1, f2, f3, f4, f5, f6, f7, f8, f9]
   clear f0 f1 f2 f3 f4 f5 f6 f7 f8 f9; clear holdd hapd
   have hkd := (Ext.refl w8).drew.trans herd
   obtain ⟨w9, hrun9, hm9, hg9⟩ := (hm8.ext hkd).putLast (k := (x.piece, x.copy)) hx.k (by omega) (L.loans.length : Int)
   unfold snV at hrun9
   have hrow9 := (hrow8.ext hkd).turned hg9 (hm8.ext hkd).last.isMap
   have hk9 : Blk w9 gk 120 #[.string x.piece, .int .i64 x.copy] := (hg9.block gk (hk8.ext hkd).lt fun e => by cases e; exact blk_mapK_ne (hm8.ext hkd).last (hk8.ext hkd) rfl).trans (hk8.ext hkd)
   have hx9 : Blk w9 gx 101 #[.string x.by_, .int .i64 x.no, .int .i64 x.at_, .int .i64 x.kind, .string x.piece, .int .i64 x.copy, .string x.singer] := (hg9.block gx (hx8.ext hkd).lt fun e => by cases e; exact blk_mapK_ne (hm8.ext hkd).last (hx8.ext hkd) rfl).trans (hx8.ext hkd)
   have hA9 : KeepL base bb ms ml mh w w9 := (hA8.out.ext hkd).grown hg9 (.inr (.inr (.inl rfl)))
   have hb9 : base ≤ w9.heap.size := by have := hA9.size; have := hgx.out; omega
   replace hA9 := Lib.hid hA9; replace hrun9 := Lib.hid hrun9; clear d6 d7 k0 k1 hrow8 hk8 hx8 hA8 hm8 hg9
   go_upto_region 13 with (refine wpList_putM rfl _ _ _ 126 rfl (.map (some ml)) (.agg #[.string x.piece, .int .i64 x.copy]) (.int .i64 (L.loans.length : Int)) rfl rfl rfl w9 hrun9.out ?_)
   clear hrun9 hkd herd hcrd xd
   have lb9 := hrow9.1.lt
   have lk9 := hk9.lt
   have lx9 := hx9.lt
   have d7 := hrow9.1.cell 7
   have k0 := hk9.cell 0
   have k1 := hk9.cell 1
   have e2 := hx9.cell 2
   have e6 := hx9.cell 6
   unfold libC at d7
   refine wp_region_facts [0] [([],false,false),([],false,false),([1],false,false),([1,2],false,false),([1,2,3],false,false),([],false,false),([],false,false),([6],false,false),([],false,false),([8],false,false),([5,6,7,8,9],false,false),([5,6,7,8,9,10], false, true)] (Ext) Ext (fun _ => True) (by kernel_rfl) (by kernel_rfl) Ext.refl (fun _ _ _ => Ext.trans) (fun _ _ h => h) (fun _ _ h => h.size) (fun _ _ h _ => h) trivial ?_
   dsimp only [List.length_cons, List.length_nil, List.drop_succ_cons, List.drop_zero, List.drop_nil]
   refine fac_late 0 rfl rfl Ext.refl cK rfl rfl (fun _ _ _ _ h => h) ?_; apply Exists.intro; constructor
   ·intro sv w' hw' hfa
    refine ⟨rfl, fun w2 => ?_⟩
    simp only [putsL]
    change pureTo _ _ (Sem.run _ (execOp (Act.eval _) _) _)
    try simp only [Act.put, sIA, sCS, sCZ]
    simp [go_sem, pureTo]
    (all_goals try simp (disch := omega) only [IntWalk.i64_in]); all_goals rfl
   refine fq 1 rfl rfl rfl cK rfl rfl ?_; apply Exists.intro; constructor
   ·intro sv w' hw' hfa
    refine ⟨rfl, ?_⟩; simp only [putsL]; change qT _; simp only [qT, Act.put, sIA, sCS, sCZ]; simp [go_sem, quietTo, Ext.refl]; all_goals rfl
   refine fq 2 rfl rfl rfl cK rfl rfl ?_; apply Exists.intro; constructor
   ·rintro sv w' hw' ⟨(f1 : sv 1 = _), -⟩; (try dsimp only at f1)
    refine ⟨rfl, ?_⟩; simp only [putsL]; change qT (pT _ 60 (sv 1)); simp only [qT, pT, Act.put, sIA, sCS, sCZ]; simp [go_sem, quietTo, Ext.refl, f1]; all_goals rfl
   refine fq 3 rfl rfl rfl cK rfl rfl ?_; apply Exists.intro; constructor
   ·rintro sv w' hw' ⟨_, (f2 : sv 2 = _), -⟩; (try dsimp only at f2)
    refine ⟨rfl, ?_⟩; simp only [putsL]; change qT (pT (pT _ 61 (sv 2)) 60 (sv 1)); simp only [qT, pT, Act.put, sIA, sCS, sCZ]; simp [go_sem, quietTo, Ext.refl, f2]; all_goals rfl
   refine fq 4 rfl rfl rfl cK rfl rfl ?_; apply Exists.intro; constructor
   ·rintro sv w' hw' ⟨_, _, (f3 : sv 3 = _), -⟩; (try dsimp only at f3)
    obtain ⟨hc, hf, hz9⟩ := ((Ext.refl w9).drew.trans hw').walk; have y7 := (hc bb 7 lb9).trans d7
    refine ⟨rfl, ?_⟩; simp only [putsL]; change qT (pT (pT (pT _ 62 (sv 3)) 61 (sv 2)) 60 (sv 1)); simp only [qT, pT, Act.put, sIA, sCS, sCZ]; simp [go_sem, quietTo, Ext.refl, ↓IntWalk.iteOmega, f3, y7]; (all_goals try simp (disch := omega) only [IntWalk.i64_in]); all_goals rfl
   refine fq 5 rfl rfl rfl cK rfl rfl ?_; apply Exists.intro; constructor
   ·intro sv w' hw' hfa
    obtain ⟨hc, hf, hz9⟩ := ((Ext.refl w9).drew.trans hw').walk; have z0 := (hc gk 0 lk9).trans k0; have z1 := (hc gk 1 lk9).trans k1
    refine ⟨rfl, ?_⟩; simp only [putsL]; change qT _; simp only [qT, Act.put, sIA, sCS, sCZ]; simp [go_sem, quietTo, Ext.refl, ↓IntWalk.iteOmega, z0, z1]; (all_goals try simp (disch := omega) only [IntWalk.i64_in]); all_goals rfl
   refine fq 6 rfl rfl rfl cK rfl rfl ?_; apply Exists.intro; constructor
   ·intro sv w' hw' hfa
    refine ⟨rfl, ?_⟩; simp only [putsL]; change qT _; simp only [qT, Act.put, sIA, sCS, sCZ]; simp [go_sem, quietTo, Ext.refl]; all_goals rfl
   refine fq 7 rfl rfl rfl cK rfl rfl ?_; apply Exists.intro; constructor
   ·rintro sv w' hw' ⟨(f6 : sv 6 = _), -⟩; (try dsimp only at f6)
    obtain ⟨hc, hf, hz9⟩ := ((Ext.refl w9).drew.trans hw').walk; have v6 := (hc gx 6 lx9).trans e6
    refine ⟨rfl, ?_⟩; simp only [putsL]; change qT (pT _ 65 (sv 6)); simp only [qT, pT, Act.put, sIA, sCS, sCZ]; simp [go_sem, quietTo, Ext.refl, ↓IntWalk.iteOmega, f6, v6]; (all_goals try simp (disch := omega) only [IntWalk.i64_in]); all_goals rfl
   refine fq 8 rfl rfl rfl cK rfl rfl ?_; apply Exists.intro; constructor
   ·intro sv w' hw' hfa
    refine ⟨rfl, ?_⟩; simp only [putsL]; change qT _; simp only [qT, Act.put, sIA, sCS, sCZ]; simp [go_sem, quietTo, Ext.refl]; all_goals rfl
   refine fq 9 rfl rfl rfl cK rfl rfl ?_; apply Exists.intro; constructor
   ·rintro sv w' hw' ⟨(f8 : sv 8 = _), -⟩; (try dsimp only at f8)
    obtain ⟨hc, hf, hz9⟩ := ((Ext.refl w9).drew.trans hw').walk; have v2 := (hc gx 2 lx9).trans e2
    refine ⟨rfl, ?_⟩; simp only [putsL]; change qT (pT _ 67 (sv 8)); simp only [qT, pT, Act.put, sIA, sCS, sCZ]; simp [go_sem, quietTo, Ext.refl, ↓IntWalk.iteOmega, f8, v2]; (all_goals try simp (disch := omega) only [IntWalk.i64_in]); all_goals rfl
   refine fq 10 rfl rfl rfl cK rfl rfl ?_; apply Exists.intro; constructor
   ·rintro sv w' hw' ⟨(f5 : sv 5 = _), _, (f7 : sv 7 = _), _, (f9 : sv 9 = _), -⟩; (try dsimp only at f5 f7 f9)
    refine ⟨rfl, ?_⟩; simp only [putsL]; change qT (pT (pT (pT (pT (pT _ 68 (sv 9)) 67 (sv 8)) 66 (sv 7)) 65 (sv 6)) 64 (sv 5)); simp only [qT, pT, Act.put, sIA, sCS, sCZ]; simp [go_sem, quietTo, Ext.refl, f5, f7, f9]; all_goals rfl
   refine fac_row 11 rfl rfl rfl cK (fun _ _ h => h.size) (fun _ _ _ _ _ he _ hb => hb.ext he) ?_
   apply Exists.intro
   apply Exists.intro
   apply Exists.intro
   apply Exists.intro
   refine ⟨fun sv w' hw' hfa => ?_, ?_⟩
   ·obtain ⟨_, _, _, _, _, (f10 : sv 10 = _), -⟩ := hfa; (try dsimp only at f10)
    refine ⟨rfl, ?_⟩; simp only [putsL]; change rowTo _ _ _ _ _ (Sem.run _ (execOp (Act.eval (pT (pT (pT (pT (pT (pT _ 69 (sv 10)) 68 (sv 9)) 67 (sv 8)) 66 (sv 7)) 65 (sv 6)) 64 (sv 5))) _) _); (try simp only [pT, Act.put, sIA, sCS, sCZ]); simp [go_sem, rowTo, Ext.refl, f10]; (all_goals try simp (disch := omega) only [IntWalk.i64_in]); all_goals first | rfl | exact ⟨rfl, rfl⟩ | exact ⟨⟨rfl, rfl⟩, rfl⟩
   refine fac_nil fun xe wre here hfre hcre holde hape => ?_
   obtain ⟨(f0 : xe 0 = _), (f1 : xe 1 = _), (f2 : xe 2 = _), (f3 : xe 3 = _), (f4 : xe 4 = _), (f5 : xe 5 = _), (f6 : xe 6 = _), (f7 : xe 7 = _), (f8 : xe 8 = _), (f9 : xe 9 = _), (f10 : xe 10 = _), f11, -⟩ := hfre; (try dsimp only at f0 f1 f2 f3 f4 f5 f6 f7 f8 f9 f10)
   obtain ⟨g11, f11, l11, b11⟩ := f11; replace f11 : xe 11 = _ := f11; obtain ⟨p11, q11⟩ := b11.walk
   change wpList _ _ _ _ (pT (pT (pT (pT (pT (pT (pT (pT (pT (pT (pT (pT _ 59 (xe 0)) 60 (xe 1)) 61 (xe 2)) 62 (xe 3)) 63 (xe 4)) 64 (xe 5)) 65 (xe 6)) 66 (xe 7)) 67 (xe 8)) 68 (xe 9)) 69 (xe 10)) 70 (xe 11)) _
   simp only [putsL, Nat.reduceAdd, List.drop_succ_cons, List.drop_zero, List.drop_nil, pT, Act.put, sIA, sCS, sCZ]
   try simp only [f0, f1, f2, f3, f4, f5, f6, f7, f8, f9, f10, f11]
   clear f0 f1 f2 f3 f4 f5 f6 f7 f8 f9 f10; clear holde hape
   have hke := (Ext.refl w9).drew.trans here
   have hrowe := hrow9.ext hke
   have hme := hm9.ext hke
   have hsz9 : base ≤ wre.heap.size := Nat.le_trans hb9 hke.size
   clear d7 k0 k1 e2 e6 hrow9 hm9 hk9 hx9 lb9 lk9 lx9 hb9
   go_wp2_with (at_builtin; go_loud (refine wp_app1 _ (.tmp 63) (.tmp 70) 127 132 6 64 _ rfl rfl Tryz.underlying127 loanInfo rfl (by decide) (by decide) base _ L.loans.length _ rfl hrowe.2 _ (loanC ⟨x.piece, x.copy, x.singer, x.at_, -1, false⟩) rfl rfl b11 (loanC_one _) (by omega) hsz9 ?_; intro v' wf hownf hgrowf hnn; obtain ⟨gf, cf, rfl, hbf, hncf⟩ := hownf.form (by omega); have hBf : Blk wf bb 130 (libC tp tn tc r ms ml mh (.slice pl L.loans.length cl)) := (hgrowf.block bb hrowe.1.lt fun e => own_no hrowe.2 hrowe.1 (by decide) e.symm).trans hrowe.1; have lbf := hBf.lt; have cbf := hBf.cell 7; have fbf := hBf.frozen 7; unfold libC at cbf; replace hBf := Lib.hid hBf))
   go_ret
   have hmf := ((hme.kept hgrowf (NoMap.own hrowe.2)).kept (grown_set wf ⟨bb, 7, none⟩ (.slice (some ⟨gf, 0, none⟩) (L.loans.length + 1) cf)) (NoMap.blk hBf.out)).le (show qM + 1 + 1 ≤ q + 3 by omega)
   exact ⟨by rw [hde.out]; rfl, by rw [hde.out]; exact ⟨⟨_, hrowe.more hownf hgrowf⟩, hmf.same rfl rfl rfl⟩, ((hA9.out.ext hke).app hrowe.2 hgrowf).set 7 _⟩
 | some l =>
   rw [hH] at hown
   rw [hown] at hdef
   obtain ⟨b, rfl, hcan⟩ := hs0.out l hH
   have hll := hon l hH
   clear hn0 hs0; replace hcan := Lib.hid hcan; replace hdef := Lib.hid hdef
   refine wp_region_facts [] [([],false,false),([0],false,false),([0,1],false,false),([0,1,2],false,false),([],false,false),([4],false,false),([0,1,2,3,4,5],false,false),([0,1,2,3,4,5,6],false,false)] (Ext) Ext (fun _ => True) (by kernel_rfl) (by kernel_rfl) Ext.refl (fun _ _ _ => Ext.trans) (fun _ _ h => h) (fun _ _ h => h.size) (fun _ _ h _ => h) trivial ?_
   dsimp only [List.length_cons, List.length_nil, List.drop_succ_cons, List.drop_zero, List.drop_nil]
   refine fq 0 rfl rfl rfl cK rfl rfl ?_; apply Exists.intro; constructor
   ·intro sv w' hw' hfa
    refine ⟨rfl, ?_⟩; simp only [putsL]; change qT _; simp only [qT, Act.put, sIA, sCS, sCZ]; simp [go_sem, quietTo, Ext.refl]; all_goals rfl
   refine fq 1 rfl rfl rfl cK rfl rfl ?_; apply Exists.intro; constructor
   ·rintro sv w' hw' ⟨(f0 : sv 0 = _), -⟩; (try dsimp only at f0)
    refine ⟨rfl, ?_⟩; simp only [putsL]; change qT (pT _ 7 (sv 0)); simp only [qT, pT, Act.put, sIA, sCS, sCZ]; simp [go_sem, quietTo, Ext.refl, f0]; all_goals rfl
   refine fq 2 rfl rfl rfl cK rfl rfl ?_; apply Exists.intro; constructor
   ·rintro sv w' hw' ⟨_, (f1 : sv 1 = _), -⟩; (try dsimp only at f1)
    refine ⟨rfl, ?_⟩; simp only [putsL]; change qT (pT (pT _ 8 (sv 1)) 7 (sv 0)); simp only [qT, pT, Act.put, sIA, sCS, sCZ]; simp [go_sem, quietTo, Ext.refl, f1]; all_goals rfl
   refine fq 3 rfl rfl rfl cK rfl rfl ?_; apply Exists.intro; constructor
   ·rintro sv w' hw' ⟨_, _, (f2 : sv 2 = _), -⟩; (try dsimp only at f2)
    obtain ⟨hc, hf, hz9⟩ := ((Ext.refl W1).drew.trans hw').walk; have y8 := (hc bb 8 lb).trans c8
    refine ⟨rfl, ?_⟩; simp only [putsL]; change qT (pT (pT (pT _ 9 (sv 2)) 8 (sv 1)) 7 (sv 0)); simp only [qT, pT, Act.put, sIA, sCS, sCZ]; simp [go_sem, quietTo, Ext.refl, ↓IntWalk.iteOmega, f2, y8]; (all_goals try simp (disch := omega) only [IntWalk.i64_in]); all_goals rfl
   refine fq 4 rfl rfl rfl cK rfl rfl ?_; apply Exists.intro; constructor
   ·intro sv w' hw' hfa
    refine ⟨rfl, ?_⟩; simp only [putsL]; change qT _; simp only [qT, Act.put, sIA, sCS, sCZ]; simp [go_sem, quietTo, Ext.refl]; all_goals rfl
   refine fq 5 rfl rfl rfl cK rfl rfl ?_; apply Exists.intro; constructor
   ·rintro sv w' hw' ⟨(f4 : sv 4 = _), -⟩; (try dsimp only at f4)
    obtain ⟨hc, hf, hz9⟩ := ((Ext.refl W1).drew.trans hw').walk; have x6 := (hc gx 6 lx).trans e6
    refine ⟨rfl, ?_⟩; simp only [putsL]; change qT (pT _ 11 (sv 4)); simp only [qT, pT, Act.put, sIA, sCS, sCZ]; simp [go_sem, quietTo, Ext.refl, ↓IntWalk.iteOmega, f4, x6]; (all_goals try simp (disch := omega) only [IntWalk.i64_in]); all_goals rfl
   refine fq 6 rfl rfl rfl cK rfl rfl ?_; apply Exists.intro; constructor
   ·rintro sv w' hw' ⟨_, _, _, (f3 : sv 3 = _), _, (f5 : sv 5 = _), -⟩; (try dsimp only at f3 f5)
    have hl9 := hlk.out w' ((Ext.refl W1).drew.trans hw')
    refine ⟨rfl, ?_⟩; simp only [putsL]; change qT (pT (pT (pT (pT (pT (pT _ 12 (sv 5)) 11 (sv 4)) 10 (sv 3)) 9 (sv 2)) 8 (sv 1)) 7 (sv 0)); simp only [qT, pT, Act.put, sIA, sCS, sCZ]; simp [go_sem, quietTo, Ext.refl, ↓IntWalk.iteOmega, f3, f5, hl9]; (all_goals try simp (disch := omega) only [IntWalk.i64_in]); all_goals rfl
   refine fq 7 rfl rfl rfl cK rfl rfl ?_; apply Exists.intro; constructor
   ·rintro sv w' hw' ⟨_, _, _, _, _, _, (f6 : sv 6 = _), -⟩; (try dsimp only at f6)
    refine ⟨rfl, ?_⟩; simp only [putsL]; change qT (pT (pT (pT (pT (pT (pT (pT _ 13 (sv 6)) 12 (sv 5)) 11 (sv 4)) 10 (sv 3)) 9 (sv 2)) 8 (sv 1)) 7 (sv 0)); simp only [qT, pT, Act.put, sIA, sCS, sCZ]; simp [go_sem, quietTo, Ext.refl, f6]; all_goals rfl
   refine fac_nil fun xa wra hera hfra hcra holda hapa => ?_
   obtain ⟨(f0 : xa 0 = _), (f1 : xa 1 = _), (f2 : xa 2 = _), (f3 : xa 3 = _), (f4 : xa 4 = _), (f5 : xa 5 = _), (f6 : xa 6 = _), (f7 : xa 7 = _), -⟩ := hfra; (try dsimp only at f0 f1 f2 f3 f4 f5 f6 f7)
   change wpList _ _ _ _ (pT (pT (pT (pT (pT (pT (pT (pT _ 7 (xa 0)) 8 (xa 1)) 9 (xa 2)) 10 (xa 3)) 11 (xa 4)) 12 (xa 5)) 13 (xa 6)) 5 (xa 7)) _
   simp only [putsL, Nat.reduceAdd, List.drop_succ_cons, List.drop_zero, List.drop_nil, pT, Act.put, sIA, sCS, sCZ]
   try simp only [f0, f1, f2, f3, f4, f5, f6, f7]
   clear f0 f1 f2 f3 f4 f5 f6 f7; clear holda hapa
   have hka := (Ext.refl W1).drew.trans hera
   have hca := hcan.out _ hka
   have hlb := hca.1.own.lookB (k := x.piece) hx.p
   have hra := hrow.out.ext hka
   have hxa := hX.out.ext hka
   have ea4 := hxa.cell 4
   have ca4 := hra.1.cell 4
   have la := hxa.lt
   have lba := hra.1.lt
   unfold libC at ca4
   have hlb2 : (Instr.lookup 255 (.map (some b)) (.string x.piece) false).run Tryz.prog wra = .ok (.bool (decide (x.piece ∈ l))) wra := by
    have h9 := hlb
    have e9 : (memF l x.piece).getD strB.zero = decide (x.piece ∈ l) := by
     unfold memF
     by_cases hin : x.piece ∈ l
     ·rw [if_pos hin]; simp [hin]
     ·rw [if_neg hin]; simp [hin]; rfl
    rw [e9] at h9
    exact h9
   replace hlb2 := Lib.hid hlb2; clear hlb
   by_cases hin : x.piece ∈ l
   ·have hde : D = (L, 6) := by rw [hdef.out]; exact if_pos hin
    rw [decide_eq_true hin] at hlb2
    go_wp2_with (refine wpList_lookM rfl _ _ 255 false rfl (.map (some b)) (.string x.piece) _ rfl rfl hlb2.out ?_)
    go_ret
    exact ⟨by rw [hde]; rfl, by rw [hde]; exact (hM1.out.ext hka).more (by omega), hA1.out.ext hka⟩
   rw [decide_eq_false hin] at hlb2
   go_upto_region 4 with (refine wpList_lookM rfl _ _ 255 false rfl (.map (some b)) (.string x.piece) _ rfl rfl hlb2.out ?_)
   clear hlb2
   have hlen : ∀ u, Ext wra u → ∀ ty, (Builtin.len_ #[255] ty #[.map (some b)]).run Tryz.prog u = .ok (.int .i64 (l.length : Int)) u := fun u hu ty => by
    obtain ⟨E, hE, hsz, -⟩ := (hca.1.own.ext hu)
    have h9 := hE.len strB.und ty
    rw [hsz] at h9
    exact h9
   replace hlen := Lib.hid hlen
   refine wp_region_facts [] [([],false,false),([0],false,false),([],false,false),([2],false,false),([2,3],false,false),([2,3,4],false,false),([2,3,4,5],false,false),([0,1,2,3,4,5,6],false,false)] (Ext) Ext (fun _ => True) (by kernel_rfl) (by kernel_rfl) Ext.refl (fun _ _ _ => Ext.trans) (fun _ _ h => h) (fun _ _ h => h.size) (fun _ _ h _ => h) trivial ?_
   dsimp only [List.length_cons, List.length_nil, List.drop_succ_cons, List.drop_zero, List.drop_nil]
   refine fq 0 rfl rfl rfl cK rfl rfl ?_; apply Exists.intro; constructor
   ·intro sv w' hw' hfa
    refine ⟨rfl, ?_⟩; simp only [putsL]; change qT _; simp only [qT, Act.put, sIA, sCS, sCZ]; simp [go_sem, quietTo, Ext.refl]; all_goals rfl
   refine fq 1 rfl rfl rfl cK rfl rfl ?_; apply Exists.intro; constructor
   ·rintro sv w' hw' ⟨(f0 : sv 0 = _), -⟩; (try dsimp only at f0)
    have hl9 := hlen.out w' ((Ext.refl wra).drew.trans hw')
    refine ⟨rfl, ?_⟩; simp only [putsL]; change qT (pT _ 18 (sv 0)); simp only [qT, pT, Act.put, sIA, sCS, sCZ]; simp [go_sem, quietTo, Ext.refl, ↓IntWalk.iteOmega, f0, hl9]; (all_goals try simp (disch := omega) only [IntWalk.i64_in]); all_goals rfl
   refine fq 2 rfl rfl rfl cK rfl rfl ?_; apply Exists.intro; constructor
   ·intro sv w' hw' hfa
    refine ⟨rfl, ?_⟩; simp only [putsL]; change qT _; simp only [qT, Act.put, sIA, sCS, sCZ]; simp [go_sem, quietTo, Ext.refl]; all_goals rfl
   refine fq 3 rfl rfl rfl cK rfl rfl ?_; apply Exists.intro; constructor
   ·rintro sv w' hw' ⟨(f2 : sv 2 = _), -⟩; (try dsimp only at f2)
    refine ⟨rfl, ?_⟩; simp only [putsL]; change qT (pT _ 20 (sv 2)); simp only [qT, pT, Act.put, sIA, sCS, sCZ]; simp [go_sem, quietTo, Ext.refl, f2]; all_goals rfl
   refine fq 4 rfl rfl rfl cK rfl rfl ?_; apply Exists.intro; constructor
   ·rintro sv w' hw' ⟨_, (f3 : sv 3 = _), -⟩; (try dsimp only at f3)
    refine ⟨rfl, ?_⟩; simp only [putsL]; change qT (pT (pT _ 21 (sv 3)) 20 (sv 2)); simp only [qT, pT, Act.put, sIA, sCS, sCZ]; simp [go_sem, quietTo, Ext.refl, f3]; all_goals rfl
   refine fq 5 rfl rfl rfl cK rfl rfl ?_; apply Exists.intro; constructor
   ·rintro sv w' hw' ⟨_, _, (f4 : sv 4 = _), -⟩; (try dsimp only at f4)
    refine ⟨rfl, ?_⟩; simp only [putsL]; change qT (pT (pT (pT _ 22 (sv 4)) 21 (sv 3)) 20 (sv 2)); simp only [qT, pT, Act.put, sIA, sCS, sCZ]; simp [go_sem, quietTo, Ext.refl, f4]; all_goals rfl
   refine fq 6 rfl rfl rfl cK rfl rfl ?_; apply Exists.intro; constructor
   ·rintro sv w' hw' ⟨_, _, _, (f5 : sv 5 = _), -⟩; (try dsimp only at f5)
    obtain ⟨hc, hf, hz9⟩ := ((Ext.refl wra).drew.trans hw').walk; have y4 := (hc bb 4 lba).trans ca4
    refine ⟨rfl, ?_⟩; simp only [putsL]; change qT (pT (pT (pT (pT _ 23 (sv 5)) 22 (sv 4)) 21 (sv 3)) 20 (sv 2)); simp only [qT, pT, Act.put, sIA, sCS, sCZ]; simp [go_sem, quietTo, Ext.refl, ↓IntWalk.iteOmega, f5, y4]; (all_goals try simp (disch := omega) only [IntWalk.i64_in]); all_goals rfl
   refine fq 7 rfl rfl rfl cK rfl rfl ?_; apply Exists.intro; constructor
   ·rintro sv w' hw' ⟨_, (f1 : sv 1 = _), _, _, _, _, (f6 : sv 6 = _), -⟩; (try dsimp only at f1 f6)
    refine ⟨rfl, ?_⟩; simp only [putsL]; change qT (pT (pT (pT (pT (pT (pT (pT _ 24 (sv 6)) 23 (sv 5)) 22 (sv 4)) 21 (sv 3)) 20 (sv 2)) 19 (sv 1)) 18 (sv 0)); simp only [qT, pT, Act.put, sIA, sCS, sCZ]; simp [go_sem, quietTo, Ext.refl, ↓IntWalk.iteOmega, f1, f6]; (all_goals try simp (disch := omega) only [IntWalk.i64_in]); all_goals rfl
   refine fac_nil fun xb wrb herb hfrb hcrb holdb hapb => ?_
   obtain ⟨(f0 : xb 0 = _), (f1 : xb 1 = _), (f2 : xb 2 = _), (f3 : xb 3 = _), (f4 : xb 4 = _), (f5 : xb 5 = _), (f6 : xb 6 = _), (f7 : xb 7 = _), -⟩ := hfrb; (try dsimp only at f0 f1 f2 f3 f4 f5 f6 f7)
   change wpList _ _ _ _ (pT (pT (pT (pT (pT (pT (pT (pT _ 18 (xb 0)) 19 (xb 1)) 20 (xb 2)) 21 (xb 3)) 22 (xb 4)) 23 (xb 5)) 24 (xb 6)) 25 (xb 7)) _
   simp only [putsL, Nat.reduceAdd, List.drop_succ_cons, List.drop_zero, List.drop_nil, pT, Act.put, sIA, sCS, sCZ]
   try simp only [f0, f1, f2, f3, f4, f5, f6, f7]
   clear f0 f1 f2 f3 f4 f5 f6 f7; clear holdb hapb
   have hkb := (Ext.refl wra).drew.trans herb
   have hnil := eqlSomeM b
   by_cases hfull : r.each ≤ (l.length : Int)
   ·have hde : D = (L, 12) := by rw [hdef.out, Option.getD_some, if_neg hin]; exact if_pos hfull
    go_wp2
    go_ret
    exact ⟨by rw [hde]; rfl, by rw [hde]; exact ((hM1.out.ext hka).ext hkb).more (by omega), (hA1.out.ext hka).ext hkb⟩
   have hde : D = (⟨setF L.st (x.piece, x.copy) outW, setF L.last (x.piece, x.copy) (L.loans.length : Int), L.loans ++ [⟨x.piece, x.copy, x.singer, x.at_, -1, false⟩], updK L.has x.singer (l ++ [x.piece])⟩, 0) := by
    rw [hdef.out, Option.getD_some, if_neg hin, if_neg hfull]
    rfl
   have hcanM := hcan.out _ (hka.trans hkb)
   have hmb := (hm.out.ext hka).ext hkb
   have hstM := hmb.st
   have hlaM := hmb.last
   have hrowM := hra.ext hkb
   have hxM := hxa.ext hkb
   have hAM : KeepL base bb ms ml mh w wrb := (hA1.out.ext hka).ext hkb
   obtain ⟨-, -, -, hsl, hsh, hlh⟩ := hmb
   have hinM := hin
   replace hAM := Lib.hid hAM
   obtain ⟨HM, eH⟩ : ∃ HM, HM = L.has := ⟨_, rfl⟩
   obtain ⟨lM, eL⟩ : ∃ lM, lM = l := ⟨_, rfl⟩
   obtain ⟨bM, eB⟩ : ∃ bM, bM = b := ⟨_, rfl⟩
   obtain ⟨qM, eQ⟩ : ∃ qM, qM = q := ⟨_, rfl⟩
   have hqM : qM ≤ q + 1 := by omega
   rw [← eH, ← eL] at hde
   rw [← eH, ← eL, ← eB, ← eQ] at hcanM
   rw [← eQ] at hstM hlaM
   rw [← eL] at hinM
   have hllM : lM.length ≤ 100000 := by rw [eL]; exact hll
   have bnilM := eqlSomeM bM
   rw [← eB]
   clear hX hA1 hlk hM1 hm hrow hcan hdef hca hlen hra hxa ea4 ca4 la lba hka hkb hera herb c8 e6 lb lx eH eL eB eQ hH hll hin hnil hown
   obtain ⟨w6, hrun6, hh6, hg6⟩ := hcanM.more hx.p hinM (by omega)
   have hib := hcanM.1
   have hrow6 := hrowM.turned hg6 hib.own.isMap
   have hx6 : Blk w6 gx 101 #[.string x.by_, .int .i64 x.no, .int .i64 x.at_, .int .i64 x.kind, .string x.piece, .int .i64 x.copy, .string x.singer] := (hg6.block gx hxM.lt fun e => by cases e; exact blk_mapX_ne hib.own hxM rfl).trans hxM
   have hmaps6 : MapsM base w6 ms ml mh qM ⟨L.st, L.last, L.loans, updK HM x.singer (lM ++ [x.piece])⟩ := ⟨hstM.grown hg6 (by simpa using hib.ns.symm), hlaM.grown hg6 (by simpa using hib.nl.symm), hh6, hsl, hsh, hlh⟩
   have hA6 : KeepL base bb ms ml mh w w6 := hAM.out.grown hg6 (.inr (.inr (.inr (.inr hib.low))))
   have hmaps7 := hmaps6.ext ((Ext.refl w6).alloc (.cells #[.string x.piece, .int .i64 x.copy] 120))
   have hk7 := Blk.new' (w := w6) (g := w6.heap.size) (t := 120) (cs := #[.string x.piece, .int .i64 x.copy]) rfl
   have hx7 := hx6.ext ((Ext.refl w6).alloc (.cells #[.string x.piece, .int .i64 x.copy] 120))
   have hrow7 := hrow6.ext ((Ext.refl w6).alloc (.cells #[.string x.piece, .int .i64 x.copy] 120))
   have hA7 : KeepL base bb ms ml mh w (w6.alloc (.cells #[.string x.piece, .int .i64 x.copy] 120)) := hA6.ext ((Ext.refl _).alloc _)
   have ex4 := hx6.cell 4
   have ex5 := hx6.cell 5
   have lx6 := hx6.lt
   have eb4 := hxM.cell 4
   have lb6 := hxM.lt
   replace hrun6 := Lib.hid hrun6; replace hde := Lib.hid hde; clear hg6 hib hh6 hmaps6 hA6 hrow6 hcanM hstM hlaM hrowM hAM
   go_upto_region 11 with (refine wpList_putM rfl _ _ _ 255 rfl (.map (some bM)) (.string x.piece) (.bool true) rfl rfl rfl w6 hrun6.out ?_)
   replace hde := hde.out
   clear hrun6 ex4 ex5 lx6 eb4 lb6
   generalize (w6.alloc (.cells #[.string x.piece, .int .i64 x.copy] 120)) = W7 at *
   generalize w6.heap.size = gk at *
   -- from here on both ways are alike
   replace hA7 := Lib.hid hA7; replace hde := Lib.hid hde
   have lb7 := hrow7.1.lt
   have lk7 := hk7.lt
   have lx7 := hx7.lt
   have d5 := hrow7.1.cell 5
   have k0 := hk7.cell 0
   have k1 := hk7.cell 1
   unfold libC at d5
   refine wp_region_facts [] [([],false,false),([0],false,false),([0,1],false,false),([0,1,2],false,false),([],false,false)] (Ext) Ext (fun _ => True) (by kernel_rfl) (by kernel_rfl) Ext.refl (fun _ _ _ => Ext.trans) (fun _ _ h => h) (fun _ _ h => h.size) (fun _ _ h _ => h) trivial ?_
   dsimp only [List.length_cons, List.length_nil, List.drop_succ_cons, List.drop_zero, List.drop_nil]
   refine fq 0 rfl rfl rfl cK rfl rfl ?_; apply Exists.intro; constructor
   ·intro sv w' hw' hfa
    refine ⟨rfl, ?_⟩; simp only [putsL]; change qT _; simp only [qT, Act.put, sIA, sCS, sCZ]; simp [go_sem, quietTo, Ext.refl]; all_goals rfl
   refine fq 1 rfl rfl rfl cK rfl rfl ?_; apply Exists.intro; constructor
   ·rintro sv w' hw' ⟨(f0 : sv 0 = _), -⟩; (try dsimp only at f0)
    refine ⟨rfl, ?_⟩; simp only [putsL]; change qT (pT _ 44 (sv 0)); simp only [qT, pT, Act.put, sIA, sCS, sCZ]; simp [go_sem, quietTo, Ext.refl, f0]; all_goals rfl
   refine fq 2 rfl rfl rfl cK rfl rfl ?_; apply Exists.intro; constructor
   ·rintro sv w' hw' ⟨_, (f1 : sv 1 = _), -⟩; (try dsimp only at f1)
    refine ⟨rfl, ?_⟩; simp only [putsL]; change qT (pT (pT _ 45 (sv 1)) 44 (sv 0)); simp only [qT, pT, Act.put, sIA, sCS, sCZ]; simp [go_sem, quietTo, Ext.refl, f1]; all_goals rfl
   refine fq 3 rfl rfl rfl cK rfl rfl ?_; apply Exists.intro; constructor
   ·rintro sv w' hw' ⟨_, _, (f2 : sv 2 = _), -⟩; (try dsimp only at f2)
    obtain ⟨hc, hf, hz9⟩ := ((Ext.refl W7).drew.trans hw').walk; have y5 := (hc bb 5 lb7).trans d5
    refine ⟨rfl, ?_⟩; simp only [putsL]; change qT (pT (pT (pT _ 46 (sv 2)) 45 (sv 1)) 44 (sv 0)); simp only [qT, pT, Act.put, sIA, sCS, sCZ]; simp [go_sem, quietTo, Ext.refl, ↓IntWalk.iteOmega, f2, y5]; (all_goals try simp (disch := omega) only [IntWalk.i64_in]); all_goals rfl
   refine fq 4 rfl rfl rfl cK rfl rfl ?_; apply Exists.intro; constructor
   ·intro sv w' hw' hfa
    obtain ⟨hc, hf, hz9⟩ := ((Ext.refl W7).drew.trans hw').walk; have z0 := (hc gk 0 lk7).trans k0; have z1 := (hc gk 1 lk7).trans k1
    refine ⟨rfl, ?_⟩; simp only [putsL]; change qT _; simp only [qT, Act.put, sIA, sCS, sCZ]; simp [go_sem, quietTo, Ext.refl, ↓IntWalk.iteOmega, z0, z1]; (all_goals try simp (disch := omega) only [IntWalk.i64_in]); all_goals rfl
   refine fac_nil fun xc wrc herc hfrc hcrc holdc hapc => ?_
   obtain ⟨(f0 : xc 0 = _), (f1 : xc 1 = _), (f2 : xc 2 = _), (f3 : xc 3 = _), (f4 : xc 4 = _), -⟩ := hfrc; (try dsimp only at f0 f1 f2 f3 f4)
   change wpList _ _ _ _ (pT (pT (pT (pT (pT _ 44 (xc 0)) 45 (xc 1)) 46 (xc 2)) 47 (xc 3)) 48 (xc 4)) _
   simp only [putsL, Nat.reduceAdd, List.drop_succ_cons, List.drop_zero, List.drop_nil, pT, Act.put, sIA, sCS, sCZ]
   try simp only [f0, f1, f2, f3, f4]
   clear f0 f1 f2 f3 f4; clear holdc hapc
   have hkc := (Ext.refl W7).drew.trans herc
   obtain ⟨w8, hrun8, hm8, hg8⟩ := (hmaps7.ext hkc).putSt (k := (x.piece, x.copy)) hx.k (by omega) outW
   unfold snV at hrun8
   have hrow8 := (hrow7.ext hkc).turned hg8 (hmaps7.ext hkc).st.isMap
   have hk8 : Blk w8 gk 120 #[.string x.piece, .int .i64 x.copy] := (hg8.block gk (hk7.ext hkc).lt fun e => by cases e; exact blk_mapK_ne (hmaps7.ext hkc).st (hk7.ext hkc) rfl).trans (hk7.ext hkc)
   have hx8 : Blk w8 gx 101 #[.string x.by_, .int .i64 x.no, .int .i64 x.at_, .int .i64 x.kind, .string x.piece, .int .i64 x.copy, .string x.singer] := (hg8.block gx (hx7.ext hkc).lt fun e => by cases e; exact blk_mapK_ne (hmaps7.ext hkc).st (hx7.ext hkc) rfl).trans (hx7.ext hkc)
   have hA8 : KeepL base bb ms ml mh w w8 := (hA7.out.ext hkc).grown hg8 (.inr (.inl rfl))
   replace hA8 := Lib.hid hA8; replace hrun8 := Lib.hid hrun8; clear d5 k0 k1 hrow7 hk7 hx7 hA7 hmaps7 hg8
   go_upto_region 12 with (refine wpList_putM rfl _ _ _ 125 rfl (.map (some ms)) (.agg #[.string x.piece, .int .i64 x.copy]) (.string outW) rfl rfl rfl w8 hrun8.out ?_)
   clear hrun8 hkc herc hcrc xc
   have lb8 := hrow8.1.lt
   have lk8 := hk8.lt
   have d6 := hrow8.1.cell 6
   have d7 := hrow8.1.cell 7
   have k0 := hk8.cell 0
   have k1 := hk8.cell 1
   unfold libC at d6 d7
   refine wp_region_facts [] [([],false,false),([0],false,false),([0,1],false,false),([0,1,2],false,false),([],false,false),([],false,false),([5],false,false),([5,6],false,false),([5,6,7],false,false),([5,6,7,8],false,false)] (Ext) Ext (fun _ => True) (by kernel_rfl) (by kernel_rfl) Ext.refl (fun _ _ _ => Ext.trans) (fun _ _ h => h) (fun _ _ h => h.size) (fun _ _ h _ => h) trivial ?_
   dsimp only [List.length_cons, List.length_nil, List.drop_succ_cons, List.drop_zero, List.drop_nil]
   refine fq 0 rfl rfl rfl cK rfl rfl ?_; apply Exists.intro; constructor
   ·intro sv w' hw' hfa
    refine ⟨rfl, ?_⟩; simp only [putsL]; change qT _; simp only [qT, Act.put, sIA, sCS, sCZ]; simp [go_sem, quietTo, Ext.refl]; all_goals rfl
   refine fq 1 rfl rfl rfl cK rfl rfl ?_; apply Exists.intro; constructor
   ·rintro sv w' hw' ⟨(f0 : sv 0 = _), -⟩; (try dsimp only at f0)
    refine ⟨rfl, ?_⟩; simp only [putsL]; change qT (pT _ 49 (sv 0)); simp only [qT, pT, Act.put, sIA, sCS, sCZ]; simp [go_sem, quietTo, Ext.refl, f0]; all_goals rfl
   refine fq 2 rfl rfl rfl cK rfl rfl ?_; apply Exists.intro; constructor
   ·rintro sv w' hw' ⟨_, (f1 : sv 1 = _), -⟩; (try dsimp only at f1)
    refine ⟨rfl, ?_⟩; simp only [putsL]; change qT (pT (pT _ 50 (sv 1)) 49 (sv 0)); simp only [qT, pT, Act.put, sIA, sCS, sCZ]; simp [go_sem, quietTo, Ext.refl, f1]; all_goals rfl
   refine fq 3 rfl rfl rfl cK rfl rfl ?_; apply Exists.intro; constructor
   ·rintro sv w' hw' ⟨_, _, (f2 : sv 2 = _), -⟩; (try dsimp only at f2)
    obtain ⟨hc, hf, hz9⟩ := ((Ext.refl w8).drew.trans hw').walk; have y6 := (hc bb 6 lb8).trans d6
    refine ⟨rfl, ?_⟩; simp only [putsL]; change qT (pT (pT (pT _ 51 (sv 2)) 50 (sv 1)) 49 (sv 0)); simp only [qT, pT, Act.put, sIA, sCS, sCZ]; simp [go_sem, quietTo, Ext.refl, ↓IntWalk.iteOmega, f2, y6]; (all_goals try simp (disch := omega) only [IntWalk.i64_in]); all_goals rfl
   refine fq 4 rfl rfl rfl cK rfl rfl ?_; apply Exists.intro; constructor
   ·intro sv w' hw' hfa
    obtain ⟨hc, hf, hz9⟩ := ((Ext.refl w8).drew.trans hw').walk; have z0 := (hc gk 0 lk8).trans k0; have z1 := (hc gk 1 lk8).trans k1
    refine ⟨rfl, ?_⟩; simp only [putsL]; change qT _; simp only [qT, Act.put, sIA, sCS, sCZ]; simp [go_sem, quietTo, Ext.refl, ↓IntWalk.iteOmega, z0, z1]; (all_goals try simp (disch := omega) only [IntWalk.i64_in]); all_goals rfl
   refine fq 5 rfl rfl rfl cK rfl rfl ?_; apply Exists.intro; constructor
   ·intro sv w' hw' hfa
    refine ⟨rfl, ?_⟩; simp only [putsL]; change qT _; simp only [qT, Act.put, sIA, sCS, sCZ]; simp [go_sem, quietTo, Ext.refl]; all_goals rfl
   refine fq 6 rfl rfl rfl cK rfl rfl ?_; apply Exists.intro; constructor
   ·rintro sv w' hw' ⟨(f5 : sv 5 = _), -⟩; (try dsimp only at f5)
    refine ⟨rfl, ?_⟩; simp only [putsL]; change qT (pT _ 54 (sv 5)); simp only [qT, pT, Act.put, sIA, sCS, sCZ]; simp [go_sem, quietTo, Ext.refl, f5]; all_goals rfl
   refine fq 7 rfl rfl rfl cK rfl rfl ?_; apply Exists.intro; constructor
   ·rintro sv w' hw' ⟨_, (f6 : sv 6 = _), -⟩; (try dsimp only at f6)
    refine ⟨rfl, ?_⟩; simp only [putsL]; change qT (pT (pT _ 55 (sv 6)) 54 (sv 5)); simp only [qT, pT, Act.put, sIA, sCS, sCZ]; simp [go_sem, quietTo, Ext.refl, f6]; all_goals rfl
   refine fq 8 rfl rfl rfl cK rfl rfl ?_; apply Exists.intro; constructor
   ·rintro sv w' hw' ⟨_, _, (f7 : sv 7 = _), -⟩; (try dsimp only at f7)
    obtain ⟨hc, hf, hz9⟩ := ((Ext.refl w8).drew.trans hw').walk; have y7 := (hc bb 7 lb8).trans d7
    refine ⟨rfl, ?_⟩; simp only [putsL]; change qT (pT (pT (pT _ 56 (sv 7)) 55 (sv 6)) 54 (sv 5)); simp only [qT, pT, Act.put, sIA, sCS, sCZ]; simp [go_sem, quietTo, Ext.refl, ↓IntWalk.iteOmega, f7, y7]; (all_goals try simp (disch := omega) only [IntWalk.i64_in]); all_goals rfl
   refine fq 9 rfl rfl rfl cK rfl rfl ?_; apply Exists.intro; constructor
   ·rintro sv w' hw' ⟨_, _, _, (f8 : sv 8 = _), -⟩; (try dsimp only at f8)
    refine ⟨rfl, ?_⟩; simp only [putsL]; change qT (pT (pT (pT (pT _ 57 (sv 8)) 56 (sv 7)) 55 (sv 6)) 54 (sv 5)); simp only [qT, pT, Act.put, sIA, sCS, sCZ]; simp [go_sem, quietTo, Ext.refl, ↓IntWalk.iteOmega, f8]; (all_goals try simp (disch := omega) only [IntWalk.i64_in]); all_goals rfl
   refine fac_nil fun xd wrd herd hfrd hcrd holdd hapd => ?_
   obtain ⟨(f0 : xd 0 = _), (f1 : xd 1 = _), (f2 : xd 2 = _), (f3 : xd 3 = _), (f4 : xd 4 = _), (f5 : xd 5 = _), (f6 : xd 6 = _), (f7 : xd 7 = _), (f8 : xd 8 = _), (f9 : xd 9 = _), -⟩ := hfrd; (try dsimp only at f0 f1 f2 f3 f4 f5 f6 f7 f8 f9)
   change wpList _ _ _ _ (pT (pT (pT (pT (pT (pT (pT (pT (pT (pT _ 49 (xd 0)) 50 (xd 1)) 51 (xd 2)) 52 (xd 3)) 53 (xd 4)) 54 (xd 5)) 55 (xd 6)) 56 (xd 7)) 57 (xd 8)) 58 (xd 9)) _
   simp only [putsL, Nat.reduceAdd, List.drop_succ_cons, List.drop_zero, List.drop_nil, pT, Act.put, sIA, sCS, sCZ]
   try simp only [f0, f1, f2, f3, f4, f5, f6, f7, f8, f9]
   clear f0 f1 f2 f3 f4 f5 f6 f7 f8 f9; clear holdd hapd
   have hkd := (Ext.refl w8).drew.trans herd
   obtain ⟨w9, hrun9, hm9, hg9⟩ := (hm8.ext hkd).putLast (k := (x.piece, x.copy)) hx.k (by omega) (L.loans.length : Int)
   unfold snV at hrun9
   have hrow9 := (hrow8.ext hkd).turned hg9 (hm8.ext hkd).last.isMap
   have hk9 : Blk w9 gk 120 #[.string x.piece, .int .i64 x.copy] := (hg9.block gk (hk8.ext hkd).lt fun e => by cases e; exact blk_mapK_ne (hm8.ext hkd).last (hk8.ext hkd) rfl).trans (hk8.ext hkd)
   have hx9 : Blk w9 gx 101 #[.string x.by_, .int .i64 x.no, .int .i64 x.at_, .int .i64 x.kind, .string x.piece, .int .i64 x.copy, .string x.singer] := (hg9.block gx (hx8.ext hkd).lt fun e => by cases e; exact blk_mapK_ne (hm8.ext hkd).last (hx8.ext hkd) rfl).trans (hx8.ext hkd)
   have hA9 : KeepL base bb ms ml mh w w9 := (hA8.out.ext hkd).grown hg9 (.inr (.inr (.inl rfl)))
   have hb9 : base ≤ w9.heap.size := by have := hA9.size; have := hgx.out; omega
   replace hA9 := Lib.hid hA9; replace hrun9 := Lib.hid hrun9; clear d6 d7 k0 k1 hrow8 hk8 hx8 hA8 hm8 hg9
   go_upto_region 13 with (refine wpList_putM rfl _ _ _ 126 rfl (.map (some ml)) (.agg #[.string x.piece, .int .i64 x.copy]) (.int .i64 (L.loans.length : Int)) rfl rfl rfl w9 hrun9.out ?_)
   clear hrun9 hkd herd hcrd xd
   have lb9 := hrow9.1.lt
   have lk9 := hk9.lt
   have lx9 := hx9.lt
   have d7 := hrow9.1.cell 7
   have k0 := hk9.cell 0
   have k1 := hk9.cell 1
   have e2 := hx9.cell 2
   have e6 := hx9.cell 6
   unfold libC at d7
   refine wp_region_facts [0] [([],false,false),([],false,false),([1],false,false),([1,2],false,false),([1,2,3],false,false),([],false,false),([],false,false),([6],false,false),([],false,false),([8],false,false),([5,6,7,8,9],false,false),([5,6,7,8,9,10], false, true)] (Ext) Ext (fun _ => True) (by kernel_rfl) (by kernel_rfl) Ext.refl (fun _ _ _ => Ext.trans) (fun _ _ h => h) (fun _ _ h => h.size) (fun _ _ h _ => h) trivial ?_
   dsimp only [List.length_cons, List.length_nil, List.drop_succ_cons, List.drop_zero, List.drop_nil]
   refine fac_late 0 rfl rfl Ext.refl cK rfl rfl (fun _ _ _ _ h => h) ?_; apply Exists.intro; constructor
   ·intro sv w' hw' hfa
    refine ⟨rfl, fun w2 => ?_⟩
    simp only [putsL]
    change pureTo _ _ (Sem.run _ (execOp (Act.eval _) _) _)
    try simp only [Act.put, sIA, sCS, sCZ]
    simp [go_sem, pureTo]
    (all_goals try simp (disch := omega) only [IntWalk.i64_in]); all_goals rfl
   refine fq 1 rfl rfl rfl cK rfl rfl ?_; apply Exists.intro; constructor
   ·intro sv w' hw' hfa
    refine ⟨rfl, ?_⟩; simp only [putsL]; change qT _; simp only [qT, Act.put, sIA, sCS, sCZ]; simp [go_sem, quietTo, Ext.refl]; all_goals rfl
   refine fq 2 rfl rfl rfl cK rfl rfl ?_; apply Exists.intro; constructor
   ·rintro sv w' hw' ⟨(f1 : sv 1 = _), -⟩; (try dsimp only at f1)
    refine ⟨rfl, ?_⟩; simp only [putsL]; change qT (pT _ 60 (sv 1)); simp only [qT, pT, Act.put, sIA, sCS, sCZ]; simp [go_sem, quietTo, Ext.refl, f1]; all_goals rfl
   refine fq 3 rfl rfl rfl cK rfl rfl ?_; apply Exists.intro; constructor
   ·rintro sv w' hw' ⟨_, (f2 : sv 2 = _), -⟩; (try dsimp only at f2)
    refine ⟨rfl, ?_⟩; simp only [putsL]; change qT (pT (pT _ 61 (sv 2)) 60 (sv 1)); simp only [qT, pT, Act.put, sIA, sCS, sCZ]; simp [go_sem, quietTo, Ext.refl, f2]; all_goals rfl
   refine fq 4 rfl rfl rfl cK rfl rfl ?_; apply Exists.intro; constructor
   ·rintro sv w' hw' ⟨_, _, (f3 : sv 3 = _), -⟩; (try dsimp only at f3)
    obtain ⟨hc, hf, hz9⟩ := ((Ext.refl w9).drew.trans hw').walk; have y7 := (hc bb 7 lb9).trans d7
    refine ⟨rfl, ?_⟩; simp only [putsL]; change qT (pT (pT (pT _ 62 (sv 3)) 61 (sv 2)) 60 (sv 1)); simp only [qT, pT, Act.put, sIA, sCS, sCZ]; simp [go_sem, quietTo, Ext.refl, ↓IntWalk.iteOmega, f3, y7]; (all_goals try simp (disch := omega) only [IntWalk.i64_in]); all_goals rfl
   refine fq 5 rfl rfl rfl cK rfl rfl ?_; apply Exists.intro; constructor
   ·intro sv w' hw' hfa
    obtain ⟨hc, hf, hz9⟩ := ((Ext.refl w9).drew.trans hw').walk; have z0 := (hc gk 0 lk9).trans k0; have z1 := (hc gk 1 lk9).trans k1
    refine ⟨rfl, ?_⟩; simp only [putsL]; change qT _; simp only [qT, Act.put, sIA, sCS, sCZ]; simp [go_sem, quietTo, Ext.refl, ↓IntWalk.iteOmega, z0, z1]; (all_goals try simp (disch := omega) only [IntWalk.i64_in]); all_goals rfl
   refine fq 6 rfl rfl rfl cK rfl rfl ?_; apply Exists.intro; constructor
   ·intro sv w' hw' hfa
    refine ⟨rfl, ?_⟩; simp only [putsL]; change qT _; simp only [qT, Act.put, sIA, sCS, sCZ]; simp [go_sem, quietTo, Ext.refl]; all_goals rfl
   refine fq 7 rfl rfl rfl cK rfl rfl ?_; apply Exists.intro; constructor
   ·rintro sv w' hw' ⟨(f6 : sv 6 = _), -⟩; (try dsimp only at f6)
    obtain ⟨hc, hf, hz9⟩ := ((Ext.refl w9).drew.trans hw').walk; have v6 := (hc gx 6 lx9).trans e6
    refine ⟨rfl, ?_⟩; simp only [putsL]; change qT (pT _ 65 (sv 6)); simp only [qT, pT, Act.put, sIA, sCS, sCZ]; simp [go_sem, quietTo, Ext.refl, ↓IntWalk.iteOmega, f6, v6]; (all_goals try simp (disch := omega) only [IntWalk.i64_in]); all_goals rfl
   refine fq 8 rfl rfl rfl cK rfl rfl ?_; apply Exists.intro; constructor
   ·intro sv w' hw' hfa
    refine ⟨rfl, ?_⟩; simp only [putsL]; change qT _; simp only [qT, Act.put, sIA, sCS, sCZ]; simp [go_sem, quietTo, Ext.refl]; all_goals rfl
   refine fq 9 rfl rfl rfl cK rfl rfl ?_; apply Exists.intro; constructor
   ·rintro sv w' hw' ⟨(f8 : sv 8 = _), -⟩; (try dsimp only at f8)
    obtain ⟨hc, hf, hz9⟩ := ((Ext.refl w9).drew.trans hw').walk; have v2 := (hc gx 2 lx9).trans e2
    refine ⟨rfl, ?_⟩; simp only [putsL]; change qT (pT _ 67 (sv 8)); simp only [qT, pT, Act.put, sIA, sCS, sCZ]; simp [go_sem, quietTo, Ext.refl, ↓IntWalk.iteOmega, f8, v2]; (all_goals try simp (disch := omega) only [IntWalk.i64_in]); all_goals rfl
   refine fq 10 rfl rfl rfl cK rfl rfl ?_; apply Exists.intro; constructor
   ·rintro sv w' hw' ⟨(f5 : sv 5 = _), _, (f7 : sv 7 = _), _, (f9 : sv 9 = _), -⟩; (try dsimp only at f5 f7 f9)
    refine ⟨rfl, ?_⟩; simp only [putsL]; change qT (pT (pT (pT (pT (pT _ 68 (sv 9)) 67 (sv 8)) 66 (sv 7)) 65 (sv 6)) 64 (sv 5)); simp only [qT, pT, Act.put, sIA, sCS, sCZ]; simp [go_sem, quietTo, Ext.refl, f5, f7, f9]; all_goals rfl
   refine fac_row 11 rfl rfl rfl cK (fun _ _ h => h.size) (fun _ _ _ _ _ he _ hb => hb.ext he) ?_
   apply Exists.intro
   apply Exists.intro
   apply Exists.intro
   apply Exists.intro
   refine ⟨fun sv w' hw' hfa => ?_, ?_⟩
   ·obtain ⟨_, _, _, _, _, (f10 : sv 10 = _), -⟩ := hfa; (try dsimp only at f10)
    refine ⟨rfl, ?_⟩; simp only [putsL]; change rowTo _ _ _ _ _ (Sem.run _ (execOp (Act.eval (pT (pT (pT (pT (pT (pT _ 69 (sv 10)) 68 (sv 9)) 67 (sv 8)) 66 (sv 7)) 65 (sv 6)) 64 (sv 5))) _) _); (try simp only [pT, Act.put, sIA, sCS, sCZ]); simp [go_sem, rowTo, Ext.refl, f10]; (all_goals try simp (disch := omega) only [IntWalk.i64_in]); all_goals first | rfl | exact ⟨rfl, rfl⟩ | exact ⟨⟨rfl, rfl⟩, rfl⟩
   refine fac_nil fun xe wre here hfre hcre holde hape => ?_
   obtain ⟨(f0 : xe 0 = _), (f1 : xe 1 = _), (f2 : xe 2 = _), (f3 : xe 3 = _), (f4 : xe 4 = _), (f5 : xe 5 = _), (f6 : xe 6 = _), (f7 : xe 7 = _), (f8 : xe 8 = _), (f9 : xe 9 = _), (f10 : xe 10 = _), f11, -⟩ := hfre; (try dsimp only at f0 f1 f2 f3 f4 f5 f6 f7 f8 f9 f10)
   obtain ⟨g11, f11, l11, b11⟩ := f11; replace f11 : xe 11 = _ := f11; obtain ⟨p11, q11⟩ := b11.walk
   change wpList _ _ _ _ (pT (pT (pT (pT (pT (pT (pT (pT (pT (pT (pT (pT _ 59 (xe 0)) 60 (xe 1)) 61 (xe 2)) 62 (xe 3)) 63 (xe 4)) 64 (xe 5)) 65 (xe 6)) 66 (xe 7)) 67 (xe 8)) 68 (xe 9)) 69 (xe 10)) 70 (xe 11)) _
   simp only [putsL, Nat.reduceAdd, List.drop_succ_cons, List.drop_zero, List.drop_nil, pT, Act.put, sIA, sCS, sCZ]
   try simp only [f0, f1, f2, f3, f4, f5, f6, f7, f8, f9, f10, f11]
   clear f0 f1 f2 f3 f4 f5 f6 f7 f8 f9 f10; clear holde hape
   have hke := (Ext.refl w9).drew.trans here
   have hrowe := hrow9.ext hke
   have hme := hm9.ext hke
   have hsz9 : base ≤ wre.heap.size := Nat.le_trans hb9 hke.size
   clear d7 k0 k1 e2 e6 hrow9 hm9 hk9 hx9 lb9 lk9 lx9 hb9
   go_wp2_with (at_builtin; go_loud (refine wp_app1 _ (.tmp 63) (.tmp 70) 127 132 6 64 _ rfl rfl Tryz.underlying127 loanInfo rfl (by decide) (by decide) base _ L.loans.length _ rfl hrowe.2 _ (loanC ⟨x.piece, x.copy, x.singer, x.at_, -1, false⟩) rfl rfl b11 (loanC_one _) (by omega) hsz9 ?_; intro v' wf hownf hgrowf hnn; obtain ⟨gf, cf, rfl, hbf, hncf⟩ := hownf.form (by omega); have hBf : Blk wf bb 130 (libC tp tn tc r ms ml mh (.slice pl L.loans.length cl)) := (hgrowf.block bb hrowe.1.lt fun e => own_no hrowe.2 hrowe.1 (by decide) e.symm).trans hrowe.1; have lbf := hBf.lt; have cbf := hBf.cell 7; have fbf := hBf.frozen 7; unfold libC at cbf; replace hBf := Lib.hid hBf))
   go_ret
   have hmf := ((hme.kept hgrowf (NoMap.own hrowe.2)).kept (grown_set wf ⟨bb, 7, none⟩ (.slice (some ⟨gf, 0, none⟩) (L.loans.length + 1) cf)) (NoMap.blk hBf.out)).le (show qM + 1 + 1 ≤ q + 3 by omega)
   exact ⟨by rw [hde.out]; rfl, by rw [hde.out]; exact ⟨⟨_, hrowe.more hownf hgrowf⟩, hmf.same rfl rfl rfl⟩, ((hA9.out.ext hke).app hrowe.2 hgrowf).set 7 _⟩
end Go.Proofs.YtkjhbofbcmelgaaGreatDoor
