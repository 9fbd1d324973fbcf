/- The document's library in memory; how a copy is; titles. Conditions: as each theorem says. (Printed by gen_shb.py.) -/
import Derived.Test.YtkjhbofbcmelgaaGreatDoorEzJ21
import Derived.Test.YtkjhbofbcmelgaaGreatDoorEzJ20
set_option linter.unusedSimpArgs false
set_option linter.unusedVariables false
namespace Go.Proofs.YtkjhbofbcmelgaaGreatDoor
open Go Go.RowKit Go.Maps
theorem copyOf_keyed : Keyed Tryz.prog 146 := Keyed.of_law (deep_law (m := 3) (by decide) (by kernel_rfl) (by kernel_rfl) (by kernel_rfl))
theorem copyOf_key (x : IdV) (h : okSN x) : ∃ l, keyOf Tryz.prog 146 (snV x) = some l := by
 obtain ⟨ha, hb⟩ := h
 have h1 : Tryz.prog.keyType 146 = true := by kernel_rfl
 have h2 : Tryz.prog.cellsOf 146 = 2 := by kernel_rfl
 have h3 : Tryz.prog.cellsOf 3 = 1 := by kernel_rfl
 have h3' : Tryz.prog.cellsOf 9 = 1 := by kernel_rfl
 obtain ⟨n, hn⟩ : ∃ n, Tryz.prog.types.size = n + 1 := ⟨Tryz.prog.types.size - 1, by kernel_rfl⟩
 have h4 : Tryz.prog.keyLits (Tryz.prog.types.size + 1) 146 [.string x.1, .int .i64 x.2] = some [.string x.1.data.toList, .int .i64 x.2] := by
  rw [hn]
  unfold Program.keyLits
  rw [Tryz.underlying146]
  simp [h2, h3, h3', int_litsL, str_litsL, ha, hb]
 unfold keyOf
 rw [Tryz.underlying146]
 simp only [h1]
 have h5 : (snV x).formed Tryz.prog 146 = true := by
  simp [snV, Value.formed, Tryz.underlying146, h2]
 rw [h5]
 simp only [snV, Value.cells, h4]
 exact ⟨_, rfl⟩
noncomputable def docS : KMap Tryz.prog IdV ByteArray where
 kt := 146
 mt := 140
 vt := 9
 kv := snV
 ok := okSN
 val := strVal
 dat := strDat
 rd := rdOf strVal strDat
 zero := ⟨#[]⟩
 keyed := copyOf_keyed
 key := copyOf_key
 inj := fun _ _ _ _ e => snV_inj e
 rd_mk := rdOf_mk strVal_inj
 rd_inv := fun u v ps h => rdOf_inv strDat_inj h
 und := Tryz.underlying140
 zer := fun w => Tryz.zeroValue9 w
def shC (tp : Option Addr) (tn tc : Nat) (r : LendR) (ms mr : Nat) (lv : Value) : Array Value :=
 #[.slice tp tn tc, .int .i64 r.days, .int .i64 r.late, .int .i64 r.most, .int .i64 r.each, .map (some ms), lv, .map (some mr)]
/-- The document's library in memory. -/
structure ShM (base : Nat) (w : World) (bb ms mr q nr : Nat) (tp : Option Addr) (tn tc : Nat) (r : LendR) (L : LibS) (F : Int → Option Int) : Prop where
 row : ∃ lv, Blk w bb 143 (shC tp tn tc r ms mr lv) ∧ w.ownsRow base 148 6 lv L.loans.length (L.loans.flatMap loanC)
 st : OwnK docS w ms q L.st
 ref : OwnX intE w mr nr F
 ne : ms ≠ mr
theorem ShM.ext {base : Nat} {w w' : World} {bb ms mr q nr : Nat} {tp : Option Addr} {tn tc : Nat} {r : LendR} {L : LibS} {F : Int → Option Int} (h : ShM base w bb ms mr q nr tp tn tc r L F) (he : Ext w w') : ShM base w' bb ms mr q nr tp tn tc r L F := by
 obtain ⟨⟨lv, h1, h2⟩, h3, h4, h5⟩ := h
 exact ⟨⟨lv, h1.ext he, own_ext he h2⟩, h3.ext he, h4.ext he, h5⟩
theorem shLoanInfo : (Tryz.prog.info? 148).map (fun i => (i.zero, i.size, i.bytes)) = some (some (.agg #[.string ⟨#[]⟩, .int .i64 0, .string ⟨#[]⟩, .int .i64 0, .int .i64 0, .bool false]), 6,64) := by kernel_rfl
set_option maxRecDepth 100000 in
theorem shState_any {base : Nat} {w : World} {bb ms mr q nr : Nat} {tp : Option Addr} {tn tc : Nat} {r : LendR} {L : LibS} {F : Int → Option Int} (h : ShM base w bb ms mr q nr tp tn tc r L F) (p : ByteArray) (no : Int) (hk : okSN (p, no)) :
 Calls Tryz.prog 78 #[.pointer (some ⟨bb, 0, none⟩), .agg #[.string p, .int .i64 no]] w fun e w' => e = .returned (.string (L.at_ (p, no))) ∧ Ext w w' := by
 obtain ⟨lv, hB, -⟩ := (h.ext ((Ext.refl w).alloc (.cells #[.string p, .int .i64 no] 146))).row
 have hS := (h.ext ((Ext.refl w).alloc (.cells #[.string p, .int .i64 no] 146))).st
 have hX := Blk.new' (w := w) (g := w.heap.size) (t := 146) (cs := #[.string p, .int .i64 no]) rfl
 have lb := hB.lt
 have lx := hX.lt
 have c5 := hB.cell 5
 have e0 := hX.cell 0
 have e1 := hX.cell 1
 have hlk : ∀ u, Ext (w.alloc (.cells #[.string p, .int .i64 no] 146)) u → (Instr.lookup 140 (.map (some ms)) (.agg #[.string p, .int .i64 no]) true).run Tryz.prog u = .ok (.tuple #[.string ((L.st (p, no)).getD ⟨#[]⟩), .bool (L.st (p, no)).isSome]) u := fun u hu => (hS.ext hu).look_ok hk
 have ha : L.at_ (p, no) = (L.st (p, no)).getD inW := rfl
 rw [ha]
 clear ha hS h
 generalize L.st (p, no) = sv at *
 replace hlk := Lib.hid hlk; replace hB := Lib.hid hB; replace hX := Lib.hid hX
 unfold shC at c5
 go_enter Tryz.func78, Tryz.ntmps78
 go_upto_region 1 with fail
 cases sv
 all_goals
  refine wp_region_facts [] [([],false,false),([0],false,false),([0,1],false,false),([0,1,2],false,false),([],false,false),([0,1,2,3,4],false,false),([0,1,2,3,4,5],false,false),([0,1,2,3,4,5,6],false,false),([0,1,2,3,4,5,6],false,false),([0,1,2,3,4,5,6,7],false,false),([0,1,2,3,4,5,6,8],false,false)] (Ext) Ext (fun _ => True) (by kernel_rfl) (by kernel_rfl) Ext.refl (fun _ _ _ => Ext.trans) (fun _ _ h => h) (fun _ _ h => h.size) (fun _ _ h _ => h) trivial ?_
  dsimp only [List.length_cons, List.length_nil, List.drop_succ_cons, List.drop_zero, List.drop_nil]
  refine fq 0 rfl rfl rfl cK rfl rfl ?_; apply Exists.intro; constructor
  ·intro sv w' hw' hfa
   refine ⟨rfl, ?_⟩; simp only [putsL]; change qT _; simp only [qT, Act.put, sIA, sCS, sCZ]; simp [go_sem, quietTo, Ext.refl]; all_goals rfl
  refine fq 1 rfl rfl rfl cK rfl rfl ?_; apply Exists.intro; constructor
  ·rintro sv w' hw' ⟨(f0 : sv 0 = _), -⟩; (try dsimp only at f0)
   refine ⟨rfl, ?_⟩; simp only [putsL]; change qT (pT _ 8 (sv 0)); simp only [qT, pT, Act.put, sIA, sCS, sCZ]; simp [go_sem, quietTo, Ext.refl, f0]; all_goals rfl
  refine fq 2 rfl rfl rfl cK rfl rfl ?_; apply Exists.intro; constructor
  ·rintro sv w' hw' ⟨_, (f1 : sv 1 = _), -⟩; (try dsimp only at f1)
   refine ⟨rfl, ?_⟩; simp only [putsL]; change qT (pT (pT _ 9 (sv 1)) 8 (sv 0)); simp only [qT, pT, Act.put, sIA, sCS, sCZ]; simp [go_sem, quietTo, Ext.refl, f1]; all_goals rfl
  refine fq 3 rfl rfl rfl cK rfl rfl ?_; apply Exists.intro; constructor
  ·rintro sv w' hw' ⟨_, _, (f2 : sv 2 = _), -⟩; (try dsimp only at f2)
   obtain ⟨hc, hf, hz9⟩ := ((Ext.refl _).drew.trans hw').walk; have y5 := (hc bb 5 lb).trans c5
   refine ⟨rfl, ?_⟩; simp only [putsL]; change qT (pT (pT (pT _ 10 (sv 2)) 9 (sv 1)) 8 (sv 0)); simp only [qT, pT, Act.put, sIA, sCS, sCZ]; simp [go_sem, quietTo, Ext.refl, ↓IntWalk.iteOmega, f2, y5]; (all_goals try simp (disch := omega) only [IntWalk.i64_in]); all_goals rfl
  refine fq 4 rfl rfl rfl cK rfl rfl ?_; apply Exists.intro; constructor
  ·intro sv w' hw' hfa
   obtain ⟨hc, hf, hz9⟩ := ((Ext.refl _).drew.trans hw').walk; have x0 := (hc _ 0 lx).trans e0; have x1 := (hc _ 1 lx).trans e1
   refine ⟨rfl, ?_⟩; simp only [putsL]; change qT _; simp only [qT, Act.put, sIA, sCS, sCZ]; simp [go_sem, quietTo, Ext.refl, ↓IntWalk.iteOmega, x0, x1]; (all_goals try simp (disch := omega) only [IntWalk.i64_in]); all_goals rfl
  refine fq 5 rfl rfl rfl cK rfl rfl ?_; apply Exists.intro; constructor
  ·rintro sv w' hw' ⟨_, _, _, (f3 : sv 3 = _), (f4 : sv 4 = _), -⟩; (try dsimp only at f3 f4)
   have hl9 := hlk.out w' ((Ext.refl _).drew.trans hw')
   refine ⟨rfl, ?_⟩; simp only [putsL]; change qT (pT (pT (pT (pT (pT _ 12 (sv 4)) 11 (sv 3)) 10 (sv 2)) 9 (sv 1)) 8 (sv 0)); simp only [qT, pT, Act.put, sIA, sCS, sCZ]; simp [go_sem, quietTo, Ext.refl, ↓IntWalk.iteOmega, f3, f4, hl9]; (all_goals try simp (disch := omega) only [IntWalk.i64_in]); all_goals rfl
  refine fq 6 rfl rfl rfl cK rfl rfl ?_; apply Exists.intro; constructor
  ·rintro sv w' hw' ⟨_, _, _, _, _, (f5 : sv 5 = _), -⟩; (try dsimp only at f5)
   refine ⟨rfl, ?_⟩; simp only [putsL]; change qT (pT (pT (pT (pT (pT (pT _ 13 (sv 5)) 12 (sv 4)) 11 (sv 3)) 10 (sv 2)) 9 (sv 1)) 8 (sv 0)); simp only [qT, pT, Act.put, sIA, sCS, sCZ]; simp [go_sem, quietTo, Ext.refl, f5]; all_goals rfl
  refine fq 7 rfl rfl rfl cK rfl rfl ?_; apply Exists.intro; constructor
  ·rintro sv w' hw' ⟨_, _, _, _, _, _, (f6 : sv 6 = _), -⟩; (try dsimp only at f6)
   refine ⟨rfl, ?_⟩; simp only [putsL]; change qT (pT (pT (pT (pT (pT (pT (pT _ 7 (sv 6)) 13 (sv 5)) 12 (sv 4)) 11 (sv 3)) 10 (sv 2)) 9 (sv 1)) 8 (sv 0)); simp only [qT, pT, Act.put, sIA, sCS, sCZ]; simp [go_sem, quietTo, Ext.refl, f6]; all_goals rfl
  refine fq 8 rfl rfl rfl cK rfl rfl ?_; apply Exists.intro; constructor
  ·rintro sv w' hw' ⟨_, _, _, _, _, _, (f6 : sv 6 = _), -⟩; (try dsimp only at f6)
   refine ⟨rfl, ?_⟩; simp only [putsL]; change qT (pT (pT (pT (pT (pT (pT (pT _ 7 (sv 6)) 13 (sv 5)) 12 (sv 4)) 11 (sv 3)) 10 (sv 2)) 9 (sv 1)) 8 (sv 0)); simp only [qT, pT, Act.put, sIA, sCS, sCZ]; simp [go_sem, quietTo, Ext.refl, f6]; all_goals rfl
  refine fq 9 rfl rfl rfl cK rfl rfl ?_; apply Exists.intro; constructor
  ·rintro sv w' hw' ⟨_, _, _, _, _, _, _, (f7 : sv 7 = _), -⟩; (try dsimp only at f7)
   refine ⟨rfl, ?_⟩; simp only [putsL]; change qT (pT (pT (pT (pT (pT (pT (pT (pT _ 14 (sv 7)) 7 (sv 6)) 13 (sv 5)) 12 (sv 4)) 11 (sv 3)) 10 (sv 2)) 9 (sv 1)) 8 (sv 0)); simp only [qT, pT, Act.put, sIA, sCS, sCZ]; simp [go_sem, quietTo, Ext.refl, f7]; all_goals rfl
  refine fq 10 rfl rfl rfl cK rfl rfl ?_; apply Exists.intro; constructor
  ·rintro sv w' hw' ⟨_, _, _, _, _, _, _, (f8 : sv 8 = _), -⟩; (try dsimp only at f8)
   refine ⟨rfl, ?_⟩; simp only [putsL]; change qT (pT (pT (pT (pT (pT (pT (pT (pT _ 15 (sv 8)) 7 (sv 6)) 13 (sv 5)) 12 (sv 4)) 11 (sv 3)) 10 (sv 2)) 9 (sv 1)) 8 (sv 0)); simp only [qT, pT, Act.put, sIA, sCS, sCZ]; simp [go_sem, quietTo, Ext.refl, f8]; all_goals rfl
  refine fac_nil fun xa wra hera hfra hcra holda hapa => ?_
  obtain ⟨(f0 : xa 0 = _), (f1 : xa 1 = _), (f2 : xa 2 = _), (f3 : xa 3 = _), (f4 : xa 4 = _), (f5 : xa 5 = _), (f6 : xa 6 = _), (f7 : xa 7 = _), (f8 : xa 8 = _), (f9 : xa 9 = _), (f10 : xa 10 = _), -⟩ := hfra; (try dsimp only at f0 f1 f2 f3 f4 f5 f6 f7 f8 f9 f10)
  change wpList _ _ _ _ (pT (pT (pT (pT (pT (pT (pT (pT (pT (pT (pT _ 8 (xa 0)) 9 (xa 1)) 10 (xa 2)) 11 (xa 3)) 12 (xa 4)) 13 (xa 5)) 7 (xa 6)) 14 (xa 7)) 15 (xa 8)) 5 (xa 9)) 6 (xa 10)) _
  simp only [putsL, Nat.reduceAdd, List.drop_succ_cons, List.drop_zero, List.drop_nil, pT, Act.put, sIA, sCS, sCZ]
  try simp only [f0, f1, f2, f3, f4, f5, f6, f7, f8, f9, f10]
  clear f0 f1 f2 f3 f4 f5 f6 f7 f8 f9 f10; clear holda hapa
  go_wp2
  go_ret
  exact ⟨rfl, ((Ext.refl _).alloc _).drew.trans hera⟩
/-! ### titles -/
theorem docTitle_end {R : Ending → World → Prop} {a : Act} {W : World} {g : Nat} (x : TitleV) {ok : Bool} (hB : Blk W g 97 #[.string ⟨#[]⟩, .int .i64 0, .int .i64 0]) (h4 : a.tmps.getD 4 undef = .pointer (some ⟨g, 0, none⟩)) (h5 : a.tmps.getD 5 undef = .bool ok) (hd : a.defers = [])
 (hR : R (.returned (.tuple #[titleVal x, .bool ok])) (set3 W g x)) : bodyPost Tryz.prog Tryz.f72 R .ret a (set3 W g x) := by
 have hb : Blk (set3 W g x) g 97 #[.string x.piece, .int .i64 x.owned, .int .i64 x.cost] := by
  unfold set3
  exact ((hB.set_ 0 _).set_ 1 _).set_ 2 _
 exact bodyPost_ret (results_rowT Tryz.results72 _ _ g 97 _ (0,0) _ h4 hb Tryz.underlying97 rfl (by kernel_rfl) _ h5) hd hR
theorem find_take {T : List TitleV} {s : ByteArray} {k : Nat} {x : TitleV} (hx : T[k]? = some x) (hno : ∀ y ∈ T.take k, y.piece ≠ s) (he : x.piece = s) : titleOf T s = some x := by
 unfold titleOf
 obtain ⟨hk, e⟩ := List.getElem?_eq_some_iff.1 hx
 refine List.find?_eq_some_iff_getElem.2 ⟨by simp [he], k, hk, e, fun j hj => ?_⟩
 have := hno T[j] (List.mem_take_iff_getElem.2 ⟨j, by omega, rfl⟩)
 simpa using this
set_option maxRecDepth 100000 in
set_option maxHeartbeats 1600000 in
theorem docTitle_any (p : Option Addr) (n c : Nat) (T : List TitleV) (s : ByteArray) (w : World) (hT : Slc 3 titleC w p n c T) (hn : n ≤ 1000) :
 Calls Tryz.prog 72 #[.slice p n c, .string s] w fun e w' => e = .returned (.tuple #[titleVal ((titleOf T s).getD ⟨⟨#[]⟩, 0,0⟩), .bool (titleOf T s).isSome]) ∧ Ext w w' := by
 have hTl := hT.1.1
 have hN : Blk (w.alloc (.cells #[.string ⟨#[]⟩, .int .i64 0, .int .i64 0] 97)) w.heap.size 97 #[.string ⟨#[]⟩, .int .i64 0, .int .i64 0] := Blk.new' rfl
 have hE0 : Ext w (w.alloc (.cells #[.string ⟨#[]⟩, .int .i64 0, .int .i64 0] 97)) := (Ext.refl w).alloc _
 obtain ⟨r, hr⟩ : ∃ r, r = titleOf T s := ⟨_, rfl⟩
 rw [← hr]
 replace hr := Lib.hid hr; replace hT := Lib.hid hT; replace hN := Lib.hid hN; replace hE0 := Lib.hid hE0
 go_enter Tryz.func72, Tryz.ntmps72
 go_wp2
 generalize hgn : w.heap.size = gn at *
 replace hgn := Lib.hid hgn
 go_loopw [10] (fun v wr => ∃ k : Nat, v = .int .i64 k ∧ k ≤ n ∧ (∀ y ∈ T.take k, y.piece ≠ s) ∧ Blk wr gn 97 #[.string ⟨#[]⟩, .int .i64 0, .int .i64 0] ∧ Ext w wr) (fun v _ => n - (intOf v).toNat)
 case atStart => exact ⟨0, rfl, Nat.zero_le _, by simp, hN.out, hE0.out⟩
 case round =>
  clear hN hE0
  obtain ⟨k, rfl, hk, hno, hN, hE⟩ := hrel
  by_cases hlt : k < n
  ·obtain ⟨x, hx⟩ := getD_some hTl hlt
   obtain ⟨b, off, rfl, hb, hEl⟩ := hT.out.1.2.2 (by omega)
   obtain ⟨y0, y1, y2⟩ := (hEl.ext hE hb).title hx
   have hkI : (k : Int) < (n : Int) := by omega
   have htk := take_snocL hx
   have hN1 := hN.alloc (.cells #[.string x.piece, .int .i64 x.owned, .int .i64 x.cost] 97)
   have hE1 : Ext wr (wr.alloc (.cells #[.string x.piece, .int .i64 x.owned, .int .i64 x.cost] 97)) := (Ext.refl wr).alloc _
   have hX : Blk (wr.alloc (.cells #[.string x.piece, .int .i64 x.owned, .int .i64 x.cost] 97)) wr.heap.size 97 #[.string x.piece, .int .i64 x.owned, .int .i64 x.cost] := Blk.new' rfl
   have hgl := hN.lt
   replace hno := Lib.hid hno; replace htk := Lib.hid htk; replace hx := Lib.hid hx; replace hEl := Lib.hid hEl
   go_upto_if 17 with fail
   have z0 := hX.cell 0
   have z1 := hX.cell 1
   have z2 := hX.cell 2
   have zl := hX.lt
   obtain ⟨n0, n1⟩ := hN1.walk
   have lN := hN1.lt
   clear hN y0 y1 y2
   generalize hgx : wr.heap.size = gx at *
   generalize (wr.alloc (.cells #[.string x.piece, .int .i64 x.owned, .int .i64 x.cost] 97)) = W2 at *
   have hgg : gn ≠ gx := by omega
   replace hgx := Lib.hid hgx; replace hN1 := Lib.hid hN1; replace hX := Lib.hid hX
   cases hq : (x.piece.toList == s.toList)
   ·have hne : x.piece ≠ s := fun e => by rw [bytesB.2 e] at hq; cases hq
    replace hne := Lib.hid hne
    go_wp2
    go_roundw
    case rel => exact ⟨k + 1, by go_num, by omega, fun y hy => by
     rw [htk.out] at hy
     rcases List.mem_append.1 hy with h | h
     ·exact hno.out y h
     ·rw [List.mem_singleton.1 h]; exact hne.out, hN1.out, hE.trans hE1⟩
    case measure => simp [intOf]; omega
   ·have hxp : x.piece = s := bytesB.1 hq
    have e9 := find_take hx.out hno.out hxp
    replace hxp := Lib.hid hxp
    go_wp2
    refine docTitle_end x (W := W2) (g := gn) (ok := true) ?_ ?_ ?_ ?_ ?_
    ·exact hN1.out
    ·rfl
    ·rfl
    ·rfl
    ·exact ⟨by rw [hr.out, e9]; rfl, set3_ext (hE.trans hE1) (by have := hgn.out; omega) _⟩
  ·obtain rfl : n = k := by omega
   have e9 : titleOf T s = none := titleOf_none fun y hy => hno y (by rw [List.take_of_length_le (by omega)]; exact hy)
   obtain ⟨n0, n1⟩ := hN.walk
   have lN := hN.lt
   replace hN := Lib.hid hN; replace hno := Lib.hid hno
   go_wp2
   refine docTitle_end ⟨⟨#[]⟩, 0,0⟩ (W := wr) (g := gn) (ok := false) ?_ ?_ ?_ ?_ ?_
   ·exact hN.out
   ·rfl
   ·rfl
   ·rfl
   ·exact ⟨by rw [hr.out, e9]; rfl, set3_ext hE (by have := hgn.out; omega) _⟩
set_option maxRecDepth 100000 in
theorem docNone_any (is : Bool) (w : World) : Calls Tryz.prog 73 #[.bool is] w fun e w' => e = .returned (.int .i64 (if is then 8 else 0)) ∧ w = w' := by
 cases is
 all_goals
  go_enter Tryz.func73, Tryz.ntmps73
  go_wp2
  go_ret
  exact ⟨rfl, rfl⟩
/-- What is wrong with a copy. -/
def copyF (T : List TitleV) (k : IdV) : Int := if isCopyT T k = true then 0 else 8
set_option maxRecDepth 100000 in
set_option maxHeartbeats 1600000 in
theorem copyFault1_any (p : Option Addr) (n c : Nat) (T : List TitleV) (s : ByteArray) (no : Int) (w : World) (hT : Slc 3 titleC w p n c T) (hn : n ≤ 1000) :
 Calls Tryz.prog 18 #[.slice p n c, .string s, .int .i64 no] w fun e w' => e = .returned (.int .i64 (copyF T (s, no))) ∧ Ext w w' := by
 have ht := docTitle_any p n c T s w hT hn
 have hc : copyF T (s, no) = if (match titleOf T s with | some t => !outB no 1 t.owned | none => false) = true then 0 else 8 := rfl
 have hnf := fun b u => docNone_any b u
 replace hnf := Lib.hid hnf
 unfold titleVal at ht
 cases h9 : titleOf T s with
 | none =>
   rw [h9] at ht hc
   have hc2 : copyF T (s, no) = 8 := hc
   rw [hc2]
   replace ht := Lib.hid ht; clear hc hc2 h9 hT
   go_enter Tryz.func18, Tryz.ntmps18
   go_wp2_with (first
    | (go_at_call 72; (with_reducible refine Calls.mono ht.out ?_); rintro e w1 ⟨rfl, hb1⟩)
    | (go_at_call 73; (with_reducible refine Calls.mono (hnf.out _ _) ?_); rintro e w2 ⟨rfl, rfl⟩))
   go_ret
   exact ⟨rfl, hb1.alloc _⟩
 | some t =>
   rw [h9] at ht hc
   have hin := fun u => in_any no 1 t.owned u
   have hc2 : copyF T (s, no) = if inB no 1 t.owned = true then 0 else 8 := by
    rw [hc]
    simp only [outB_inB, Bool.not_not]
   rw [hc2]
   generalize inB no 1 t.owned = v at *
   replace ht := Lib.hid ht; replace hin := Lib.hid hin; clear hc hc2 h9 hT
   cases v
   all_goals
    go_enter Tryz.func18, Tryz.ntmps18
    go_wp2_with (first
     | (go_at_call 72; (with_reducible refine Calls.mono ht.out ?_); rintro e w1 ⟨rfl, hb1⟩)
     | (go_at_call 74; (with_reducible refine Calls.mono (hin.out _) ?_); rintro e w3 ⟨rfl, rfl⟩)
     | (go_at_call 73; (with_reducible refine Calls.mono (hnf.out _ _) ?_); rintro e w2 ⟨rfl, rfl⟩))
    go_ret
    exact ⟨rfl, hb1.alloc _⟩
end Go.Proofs.YtkjhbofbcmelgaaGreatDoor
