/- Copies that somebody saw: the walk of seenOf when all is right; a copy as a pair. Conditions: sizes; the table of the powers of ten stands. A library at a moment, with what somebody saw: the walk of at with Count's closure. Conditions: sizes; at most 19 slips. -/
import Derived.Test.YtehboinleolihaaGreatDoorCzJ38
set_option linter.unusedSimpArgs false
set_option linter.unusedVariables false
namespace Go.Proofs.YtehboinleolihaaGreatDoor
open Go Go.RowKit Go.Maps
def idC (k : IdV) : List Value := [.string k.1, .int .i64 k.2]
theorem idC_len (x : IdV) : (idC x).length = 2 := rfl
theorem idC_one (x : IdV) : ∀ u ∈ idC x, u.oneCell' = true := by simp [idC, Value.oneCell']
theorem idInfo : (Tryz.prog.info? 135).map (fun i => (i.zero, i.size, i.bytes)) = some (some (.agg #[.string ⟨#[]⟩, .int .i64 0]), 2,24) := by kernel_rfl
def idB : KMap Tryz.prog IdV Bool where
 kt := 135
 mt := 205
 vt := 4
 kv := snV
 ok := okSN
 val := fun v => .bool v
 dat := fun v => .lit (.bool v)
 rd := boolRd
 zero := false
 keyed := id_keyed
 key := id_key
 inj := fun _ _ _ _ e => snV_inj e
 rd_mk := fun _ => rfl
 rd_inv := fun u v ps h => boolRd_inv h
 und := Tryz.underlying205
 zer := fun w => Tryz.zeroValue4 w
def memI (l : List IdV) : IdV → Option Bool := fun k => if k ∈ l then some true else none
theorem memI_put {l : List IdV} (k : IdV) : updK (memI l) k true = memI (l ++ [k]) := by
 funext z
 unfold updK memI
 by_cases e : z = k <;> simp [e, List.mem_append]
theorem itoa_size4 {n : Nat} (h : n < 10000) : (itoaL n).size ≤ 4 := by
 have hdata : (itoaL n).data.toList = Lib.decDigits n := by
  show (Lib.itoa (n : Int)).toArray.toList = _
  rw [Lib.itoa_nonneg]
 have hsz : (itoaL n).size = (Lib.decDigits n).length := by rw [← hdata]; exact Array.length_toList.symm
 rw [hsz]
 exact dec_small (n := n) (m := 4) (by omega) (by omega)
set_option maxRecDepth 100000 in
set_option maxHeartbeats 1600000 in
theorem pair_any (B : Nat) (k : IdV) (hk : -1000000 ≤ k.2 ∧ k.2 ≤ 1000000) (w : World) (ht : Tab B w) :
 Calls Tryz.prog 135 #[.agg #[.string k.1, .int .i64 k.2]] w fun e w' => e = .returned (.agg #[.string k.1, .string (itoaL k.2)]) ∧ Ext w w' := by
 have hE0 : Ext w ((w.alloc (.cells #[.string k.1, .int .i64 k.2] 135)).alloc (.cells #[.string ⟨#[]⟩, .string ⟨#[]⟩] 77)) := ((Ext.refl w).alloc _).alloc _
 have hX : Blk ((w.alloc (.cells #[.string k.1, .int .i64 k.2] 135)).alloc (.cells #[.string ⟨#[]⟩, .string ⟨#[]⟩] 77)) w.heap.size 135 #[.string k.1, .int .i64 k.2] := (Blk.new' rfl).alloc _
 have hP : Blk ((w.alloc (.cells #[.string k.1, .int .i64 k.2] 135)).alloc (.cells #[.string ⟨#[]⟩, .string ⟨#[]⟩] 77)) (w.heap.size + 1) 77 #[.string ⟨#[]⟩, .string ⟨#[]⟩] := Blk.new' (by simp)
 have hit := fun u (hu : Ext w u) => itoa_any k.2 (by omega) (by omega) B u (ht.ext hu)
 have lx := hX.lt
 have x0 := hX.cell 0
 have x1 := hX.cell 1
 replace hit := Lib.hid hit; replace hE0 := Lib.hid hE0; replace hP := Lib.hid hP
 go_enter Tryz.func135, Tryz.ntmps135
 go_upto_region 1 with fail
 clear hX
 generalize hgp : w.heap.size + 1 = gp at *
 generalize ((w.alloc (.cells #[.string k.1, .int .i64 k.2] 135)).alloc (.cells #[.string ⟨#[]⟩, .string ⟨#[]⟩] 77)) = W1 at *
 have hgw : w.heap.size ≤ gp := by omega
 generalize hgx : w.heap.size = gx at *
 clear hgp; replace hgx := Lib.hid hgx
 refine wp_region_facts [] [([],false,false),([0],false,false),([],false,false),([2],false,false),([2,3],false,false),([0,1,2,3,4],false,false)] (Ext) Ext (fun _ => True) (by kernel_rfl) (by kernel_rfl) Ext.refl (fun _ _ _ => Ext.trans) (fun _ _ h => h) (fun _ _ h => h.size) (fun _ _ h _ => h) trivial ?_
 dsimp only [List.length_cons, List.length_nil, List.drop_succ_cons, List.drop_zero, List.drop_nil]
 refine fq 0 rfl rfl rfl cK rfl rfl ?_; apply Exists.intro; constructor
 ·intro sv w' hw' hfa
  refine ⟨rfl, ?_⟩; simp only [putsL]; change qT _; simp only [qT, Act.put, sIA, sCS, sCZ]; simp [go_sem, quietTo, Ext.refl]; all_goals rfl
 refine fq 1 rfl rfl rfl cK rfl rfl ?_; apply Exists.intro; constructor
 ·rintro sv w' hw' ⟨(f0 : sv 0 = _), -⟩; (try dsimp only at f0)
  have hk9 := (Ext.refl W1).drew.trans hw'; obtain ⟨hc, -, -⟩ := hk9.walk; have y0 := (hc gx 0 lx).trans x0; have y1 := (hc gx 1 lx).trans x1
  refine ⟨rfl, ?_⟩; simp only [putsL]; change qT (pT _ 3 (sv 0)); simp only [qT, pT, Act.put, sIA, sCS, sCZ]; simp [go_sem, quietTo, Ext.refl, ↓IntWalk.iteOmega, f0, y0]; (all_goals try simp (disch := omega) only [IntWalk.i64_in]); all_goals rfl
 refine fq 2 rfl rfl rfl cK rfl rfl ?_; apply Exists.intro; constructor
 ·intro sv w' hw' hfa
  refine ⟨rfl, ?_⟩; simp only [putsL]; change qT _; simp only [qT, Act.put, sIA, sCS, sCZ]; simp [go_sem, quietTo, Ext.refl]; all_goals rfl
 refine fq 3 rfl rfl rfl cK rfl rfl ?_; apply Exists.intro; constructor
 ·rintro sv w' hw' ⟨(f2 : sv 2 = _), -⟩; (try dsimp only at f2)
  have hk9 := (Ext.refl W1).drew.trans hw'; obtain ⟨hc, -, -⟩ := hk9.walk; have y0 := (hc gx 0 lx).trans x0; have y1 := (hc gx 1 lx).trans x1
  refine ⟨rfl, ?_⟩; simp only [putsL]; change qT (pT _ 5 (sv 2)); simp only [qT, pT, Act.put, sIA, sCS, sCZ]; simp [go_sem, quietTo, Ext.refl, ↓IntWalk.iteOmega, f2, y1]; (all_goals try simp (disch := omega) only [IntWalk.i64_in]); all_goals rfl
 refine fq 4 rfl rfl rfl cK rfl rfl ?_; apply Exists.intro; constructor
 ·rintro sv w' hw' ⟨(f2 : sv 2 = _), (f3 : sv 3 = _), -⟩; (try dsimp only at f2 f3)
  have hk9 := (Ext.refl W1).drew.trans hw'; obtain ⟨hc, -, -⟩ := hk9.walk; have y0 := (hc gx 0 lx).trans x0; have y1 := (hc gx 1 lx).trans x1
  refine ⟨rfl, ?_⟩; simp only [putsL]; change qT (pT (pT _ 6 (sv 3)) 5 (sv 2)); simp only [qT, pT, Act.put, sIA, sCS, sCZ]; simp [go_sem, quietTo, Ext.refl, ↓IntWalk.iteOmega, f3]; (all_goals try simp (disch := omega) only [IntWalk.i64_in]); all_goals first | rfl | (exact hit.out _ (hE0.out.trans hk9))
 refine fq 5 rfl rfl rfl cK rfl rfl ?_; apply Exists.intro; constructor
 ·rintro sv w' hw' ⟨_, (f1 : sv 1 = _), _, _, (f4 : sv 4 = _), -⟩; (try dsimp only at f1 f4)
  refine ⟨rfl, ?_⟩; simp only [putsL]; change qT (pT (pT (pT (pT (pT _ 7 (sv 4)) 6 (sv 3)) 5 (sv 2)) 4 (sv 1)) 3 (sv 0)); simp only [qT, pT, Act.put, sIA, sCS, sCZ]; simp [go_sem, quietTo, Ext.refl, f1, f4]; all_goals rfl
 refine fac_nil fun xa wra hera hfra hcra holda hapa => ?_
 obtain ⟨(f0 : xa 0 = _), (f1 : xa 1 = _), (f2 : xa 2 = _), (f3 : xa 3 = _), (f4 : xa 4 = _), (f5 : xa 5 = _), -⟩ := hfra; (try dsimp only at f0 f1 f2 f3 f4 f5)
 change wpList _ _ _ _ (pT (pT (pT (pT (pT (pT _ 3 (xa 0)) 4 (xa 1)) 5 (xa 2)) 6 (xa 3)) 7 (xa 4)) 8 (xa 5)) _
 simp only [putsL, Nat.reduceAdd, List.drop_succ_cons, List.drop_zero, List.drop_nil, pT, Act.put, sIA, sCS, sCZ]
 try simp only [f0, f1, f2, f3, f4, f5]
 clear f0 f1 f2 f3 f4 f5; clear holda hapa
 have hka := (Ext.refl W1).drew.trans hera
 have hPa := hP.out.ext hka
 obtain ⟨pc, pf⟩ := hPa.walk
 have p0 := pc 0
 have p1 := pc 1
 have lp := hPa.lt
 have hPf : Blk ((wra.setCell ⟨gp, 0, none⟩ (.string k.1)).setCell ⟨gp, 1, none⟩ (.string (itoaL k.2))) gp 77 #[.string k.1, .string (itoaL k.2)] := (hPa.set_ 0 _).set_ 1 _
 have hEf : Ext w ((wra.setCell ⟨gp, 0, none⟩ (.string k.1)).setCell ⟨gp, 1, none⟩ (.string (itoaL k.2))) := ((hE0.out.trans hka).setCell (p := ⟨gp, 0, none⟩) (by have := hgx.out; show _ ≤ gp; omega) _).setCell (p := ⟨gp, 1, none⟩) (by have := hgx.out; show _ ≤ gp; omega) _
 replace hPf := Lib.hid hPf; replace hEf := Lib.hid hEf; clear hPa hka hera hcra hP hE0 hit pc x0 x1 lx
 go_wp2
 exact bodyPost_ret (results_cell_row Tryz.results135 _ _ gp 77 _ (0,0) _ rfl hPf.out Tryz.underlying77 rfl (by kernel_rfl)) rfl ⟨rfl, hEf.out⟩
def libZ (tp : Option Addr) (tn tc : Nat) : Array Value := #[.slice tp tn tc, .int .i64 0, .int .i64 0, .int .i64 0, .int .i64 0, .map none, .map none, .slice none 0 0, .map none]
/-- What seenOf answers when all was seen rightly. -/
def SeenR (C : List IdV) (w : World) (e : Ending) (w' : World) : Prop := ∃ v : Value, e = .returned (.tuple #[v, .int .i64 0]) ∧ w'.ownsRow w.heap.size 135 2 v C.length (C.flatMap idC) ∧ Ext w w'
set_option maxRecDepth 100000 in
set_option maxHeartbeats 6400000 in
theorem seenOf_any (tp : Option Addr) (tn tc : Nat) (T : List TitleV) (sp : Option Addr) (sn sc : Nat) (C : List IdV) (w : World) (hT : Slc 3 titleC w tp tn tc T) (hTo : TitlesOk T) (hTs : ∀ x ∈ T, x.Small) (hS : Slc 2 lpC w sp sn sc (C.map pairOf)) (hC : ∀ k ∈ C, k ∈ idsT T) (hnd : C.Nodup) (hl : sn ≤ 3000) :
 Calls Tryz.prog 134 #[.slice tp tn tc, .slice sp sn sc] w (SeenR C w) := by
 have hCl : C.length = sn := by have := hS.1.1; simpa using this
 have hmm := @run_makeMap Tryz.prog
 have hE0 : Ext w ((w.alloc (.cells (libZ tp tn tc) 145)).alloc (.map #[] 0)) := ((Ext.refl w).alloc _).alloc _
 have hB0 : Blk ((w.alloc (.cells (libZ tp tn tc) 145)).alloc (.map #[] 0)) w.heap.size 145 (libZ tp tn tc) := (Blk.new' rfl).alloc _
 have hM0 := OwnK.made (M := idB) (w.alloc (.cells (libZ tp tn tc) 145))
 have e0 : (w.alloc (.cells (libZ tp tn tc) 145)).heap.size = w.heap.size + 1 := by simp
 have hsz : ((w.alloc (.cells (libZ tp tn tc) 145)).alloc (.map #[] 0)).heap.size = w.heap.size + 2 := by simp
 rw [e0] at hM0
 clear e0
 unfold libZ at hE0 hB0 hM0 hsz
 replace hE0 := Lib.hid hE0; replace hB0 := Lib.hid hB0; replace hM0 := Lib.hid hM0; replace hsz := Lib.hid hsz; replace hT := Lib.hid hT; replace hS := Lib.hid hS; replace hTo := Lib.hid hTo; replace hTs := Lib.hid hTs
 go_enter Tryz.func134, Tryz.ntmps134
 go_wp2
 generalize ((w.alloc (.cells #[.slice tp tn tc, .int .i64 0, .int .i64 0, .int .i64 0, .int .i64 0, .map none, .map none, .slice none 0 0, .map none] 145)).alloc (.map #[] 0)) = W1 at *
 generalize hgm : w.heap.size + 1 = gm at *
 generalize hbb : w.heap.size = bb at *
 have hlay : bb < gm ∧ gm < W1.heap.size := by have := hsz.out; omega
 replace hgm := Lib.hid hgm; replace hbb := Lib.hid hbb
 go_loopw [8,25] (fun v8 v25 wr => ∃ (i : Nat) (v : Value), v25 = .int .i64 i ∧ v = v8 ∧ i ≤ sn ∧ wr.ownsRow W1.heap.size 135 2 v i ((C.take i).flatMap idC) ∧ OwnK idB wr gm i (memI (C.take i)) ∧ ExtS gm W1 wr) (fun _ v25 _ => sn - (intOf v25).toNat)
 case atStart =>
  refine ⟨0, _, rfl, rfl, Nat.zero_le _, World.ownsRow_nil _ _ _ _, ?_, ExtS.refl _ _⟩
  have e : memI (C.take 0) = fun _ => none := by funext k; simp [memI]
  rw [e]
  exact hM0.out
 case round =>
  obtain ⟨i, v, rfl, rfl, hi, hown, hmap, hEq⟩ := hrel
  have hbk : Ext w wr := ExtS.back hE0.out (by have := hbb.out; omega) hEq
  by_cases hlt : i < sn
  ·obtain ⟨k, hk⟩ := getD_some hCl hlt
   have hkm := hC k (List.mem_of_getElem? hk)
   obtain ⟨⟨t, ht⟩, hcp, hk1, hk5, -⟩ := ids_copy hTo.out hkm
   have hps : k.1.size ≤ 1000 := by
    obtain ⟨h1, h2⟩ := titleOf_get ht
    have := (hTs.out t h1).1
    rw [h2] at this
    exact this
   have hSk : (C.map pairOf)[i]? = some (pairOf k) := by rw [List.getElem?_map, hk]; rfl
   obtain ⟨b, off, rfl, hb, hEl⟩ := hS.out.1.2.2 (by omega)
   obtain ⟨s0, s1⟩ : wr.cell? ⟨b, off + i * 2, none⟩ = some (.string k.1) ∧ wr.cell? ⟨b, off + i * 2 + 1, none⟩ = some (.string (itoaL k.2)) := ⟨(hEl.ext hbk hb) i _ hSk 0 _ rfl, (hEl.ext hbk hb) i _ hSk 1 _ rfl⟩
   have hnk : k ∉ C.take i := fun hm => by
    obtain ⟨j, hj⟩ := List.mem_iff_getElem?.1 hm
    rw [List.getElem?_take] at hj
    split at hj
    ·rename_i hji
     have := (List.getElem?_inj (by omega) hnd).1 (hj.trans hk.symm)
     omega
    ·cases hj
   have htk := take_snocL hk
   have hkn : ((k.2.toNat : Nat) : Int) = k.2 := by omega
   have hnum := num_read4 (n := k.2.toNat) (by omega)
   rw [hkn] at hnum
   have hnm := fun u => number_any (itoaL k.2) 4 u (by have := itoa_size4 (n := k.2.toNat) (by omega); rw [hkn] at this; omega) (by omega) (by omega)
   unfold numR at hnm
   rw [hnum.1, if_pos rfl, hnum.2] at hnm
   have hBr := hB0.out.extS (by omega) hEq
   have hti := fun u (hu : Ext wr u) => title_any bb _ tp tn tc T k.1 u (hBr.ext hu) rfl (hT.out.ext (hbk.trans hu)) hTo.out
   rw [ht] at hti
   have hic := fun u (hu : Ext wr u) => isCopy_any bb _ tp tn tc T k.1 k.2 u (hBr.ext hu) rfl (hT.out.ext (hbk.trans hu)) hTo.out
   rw [show ((k.1, k.2) : IdV) = k from rfl, hcp] at hic
   have hlk := fun u (hu : Ext wr u) => (hmap.ext hu).look (k := k) ⟨by omega, by omega, by omega⟩
   have hml : (memI (C.take i) k).getD idB.zero = false := by unfold memI; rw [if_neg hnk]; rfl
   rw [hml] at hlk
   have hkok : okSN k := ⟨by omega, by omega, by omega⟩
   have hiI : (i : Int) < (sn : Int) := by omega
   have hw1s := hEq.2.2.2.1
   have hgml := hmap.lt
   have hP2 := Blk.new' (w := wr) (g := wr.heap.size) (t := 77) (cs := #[.string k.1, .string (itoaL k.2)]) rfl
   have lp := hP2.lt
   have p0 := hP2.cell 0
   have p1 := hP2.cell 1
   have hE2 : Ext wr (wr.alloc (.cells #[.string k.1, .string (itoaL k.2)] 77)) := (Ext.refl wr).alloc _
   obtain ⟨kp, kn⟩ := k
   obtain ⟨tpi, tow, tco⟩ := t
   dsimp only at *
   unfold titleVal at hti
   dsimp only [Option.getD_some, Option.isSome_some] at hti
   replace hnm := Lib.hid hnm; replace hti := Lib.hid hti; replace hic := Lib.hid hic; replace hlk := Lib.hid hlk; replace hk := Lib.hid hk; replace htk := Lib.hid htk; replace hEl := Lib.hid hEl; replace hSk := Lib.hid hSk; replace hE2 := Lib.hid hE2; clear hnum hcp ht hml hnk hkm hP2 hkn
   go_upto_region 18 with (first
    | (go_at_call 132; (with_reducible refine Calls.mono (hti.out _ hE2.out) ?_); rintro e w3 ⟨rfl, hb3⟩; have a0 := (hb3.walk.1 _ _ lp).trans p0; have a1 := (hb3.walk.1 _ _ lp).trans p1; have la := Nat.lt_of_lt_of_le lp hb3.size; clear p0 p1)
    | (go_at_call 213; (with_reducible refine Calls.mono (hnm.out _) ?_); rintro e w5 ⟨rfl, hb5⟩; have hb35 := ((Ext.refl w3).alloc (.cells #[.string tpi, .int .i64 tow, .int .i64 tco] 105)).trans hb5; have b0 := (hb35.walk.1 _ _ la).trans a0; have lb := Nat.lt_of_lt_of_le la hb35.size; clear hb5 a0 a1)
    | (go_at_call 175; have hE6 := ((hE2.out.trans hb3).trans hb35).alloc (.cells #[.string kp, .int .i64 kn] 135); (with_reducible refine Calls.mono (hic.out _ hE6) ?_); rintro e w7 ⟨rfl, hb7⟩))
   have hK6 : Blk (w5.alloc (.cells #[.string kp, .int .i64 kn] 135)) w5.heap.size 135 #[.string kp, .int .i64 kn] := Blk.new' rfl
   have hK7 := hK6.ext hb7
   have hE7 := hE6.trans hb7
   have lk7 := hK7.lt
   have k0 := hK7.cell 0
   have k1 := hK7.cell 1
   have hlk7 : (Instr.lookup 205 (.map (some gm)) (.agg #[.string kp, .int .i64 kn]) false).run Tryz.prog w7 = .ok (.bool false) w7 := hlk.out w7 hE7
   obtain ⟨w8, hr8, hm8, hg8⟩ := (hmap.ext hE7).put (k := (kp, kn)) hkok (by omega) true
   have hr8' : (Instr.mapUpdate 205 (.map (some gm)) (.agg #[.string kp, .int .i64 kn]) (.bool true)).run Tryz.prog w7 = .ok () w8 := hr8
   have hw5s := Nat.lt_of_lt_of_le hgml (((hE2.out.trans hb3).trans hb35).size)
   have hK8 : Blk w8 w5.heap.size 135 #[.string kp, .int .i64 kn] := (hg8.block _ lk7 fun e => by cases e; omega).trans hK7
   have hown8 : w8.ownsRow W1.heap.size 135 2 v i ((C.take i).flatMap idC) := (own_ext hE7 hown).kept hg8 (.inr fun e => by have := (hown.lt gm e).1; omega)
   have hE8 : ExtS gm W1 w8 := ((hEq.ext hE7).trans ⟨hg8.os, hg8.tape, hg8.output, hg8.size, fun j hj hn => hg8.block j hj fun e => hn (by simpa using e)⟩)
   rw [memI_put] at hm8
   have lk8 := hK8.lt
   have m0 := hK8.cell 0
   have m1 := hK8.cell 1
   have hw8s := hE8.2.2.2.1
   replace hlk7 := Lib.hid hlk7; replace hr8' := Lib.hid hr8'; clear hlk hr8 hK6 hK7 hK8 hmap hown hti hnm hic hb3 hb35 hb7 hE6 hE7 b0
   go_wp2_with (first
    | (refine wpList_lookM rfl _ _ 205 false rfl (.map (some gm)) (.agg #[.string kp, .int .i64 kn]) _ rfl rfl hlk7.out ?_)
    | (refine wpList_putM rfl _ _ _ 205 rfl (.map (some gm)) (.agg #[.string kp, .int .i64 kn]) (.bool true) rfl rfl rfl w8 hr8'.out ?_)
    | (at_builtin; go_loud (refine wp_app1 _ (.tmp 61) (.tmp 63) 202 135 2 24 _ rfl rfl Tryz.underlying202 idInfo rfl (by decide) (by decide) W1.heap.size _ i _ rfl (hown8.alloc _) _ (idC (kp, kn)) rfl rfl (Blk.new' rfl) (idC_one _) (by omega) (by simp; omega) ?_; intro v' wz hownz hgrowz _)))
   have hmz := (hm8.ext ((Ext.refl w8).alloc (.cells (idC (kp, kn)).toArray 135))).grown hgrowz (fun e => by have := (hown8.lt gm e.symm).1; omega)
   go_roundw
   case rel => exact ⟨i + 1, v', by go_num, rfl, by omega, by rw [htk.out, flat_snoc]; exact hownz, by rw [htk.out]; exact hmz, (hE8.alloc _).app (hown8.alloc _) (by omega) hgrowz⟩
   case measure => simp [intOf]; omega
  ·obtain rfl : sn = i := by omega
   rw [List.take_of_length_le (by omega)] at hown
   have hr : SeenR C w (.returned (.tuple #[v, .int .i64 0])) wr := ⟨v, rfl, by rw [hCl]; exact own_low hown (by have := hbb.out; have := hgm.out; omega), hbk⟩
   replace hr := Lib.hid hr
   go_wp2
   go_ret2
   exact hr.out
end Go.Proofs.YtehboinleolihaaGreatDoor
namespace Go.Proofs.YtehboinleolihaaGreatDoor
open Go Go.RowKit Go.Maps
/-- What Count's closure does: what was seen lies in a cell then. -/
def CloR (C : List IdV) (gC : Nat) (w : World) (e : Ending) (w' : World) : Prop :=
 e = .returned (.int .i64 0) ∧ ∃ v : Value, w'.ownsRow w.heap.size 135 2 v C.length (C.flatMap idC) ∧ Blk w' gC 202 #[v] ∧ ExtS gC w w'
set_option maxRecDepth 100000 in
set_option maxHeartbeats 1600000 in
theorem clo_any {w : World} {gT gS gC : Nat} {tp : Option Addr} {tn tc : Nat} {T : List TitleV} {sp : Option Addr} {sn sc : Nat} {C : List IdV} {u0 : Value} (hBT : Blk w gT 26 #[.slice tp tn tc]) (hBS : Blk w gS 70 #[.slice sp sn sc]) (hBC : Blk w gC 202 #[u0])
 (hT : Slc 3 titleC w tp tn tc T) (hTo : TitlesOk T) (hTs : ∀ x ∈ T, x.Small) (hS : Slc 2 lpC w sp sn sc (C.map pairOf)) (hC : ∀ k ∈ C, k ∈ idsT T) (hnd : C.Nodup) (hl : sn ≤ 3000) :
 Calls Tryz.prog 133 #[.pointer (some ⟨gT, 0, none⟩), .pointer (some ⟨gS, 0, none⟩), .pointer (some ⟨gC, 0, none⟩)] w (CloR C gC w) := by
 have hs := seenOf_any tp tn tc T sp sn sc C w hT hTo hTs hS hC hnd hl
 have hCl : C.length = sn := by have := hS.1.1; simpa using this
 subst hCl
 have t0 := hBT.cell 0
 have s0 := hBS.cell 0
 have lt := hBT.lt
 have ls := hBS.lt
 replace hs := Lib.hid hs; replace hBC := Lib.hid hBC; clear hBT hBS hT hS hC
 go_enter Tryz.func133, Tryz.ntmps133
 go_wp2_with (go_at_call 134; (with_reducible refine Calls.mono hs.out ?_); rintro e w1 ⟨v, rfl, ho, hb1⟩; obtain ⟨vp, vc, rfl, -⟩ := slc_of_own idC_len ho (by decide) (by omega); have hB1 := hBC.out.ext hb1; obtain ⟨pc, pf⟩ := hB1.walk; have p0 := pc 0; have lp := hB1.lt; clear pc; replace hB1 := Lib.hid hB1; replace ho := Lib.hid ho)
 go_ret
 exact ⟨rfl, _, ho.out.kept (grown_set w1 ⟨gC, 0, none⟩ _) (.inr fun e => by have := (ho.out.lt gC e).1; have := hBC.out.lt; omega), hB1.out.set_ 0 _, ((ExtS.refl gC w).ext hb1).setCell (p := ⟨gC, 0, none⟩) (.inl rfl) _⟩
theorem ListsM.extS {g : Nat} {w w' : World} {tp : Option Addr} {tn tc : Nat} {T : List TitleV} {r : LendR} {dp : Option Addr} {dn dc : Nat} {d : List SlipV} (h : ListsM w tp tn tc T r dp dn dc d) (he : ExtS g w w') (hp : ∀ a, tp = some a → a.block ≠ g) (hd : ∀ a, dp = some a → a.block ≠ g) : ListsM w' tp tn tc T r dp dn dc d :=
 ⟨h.ti.extS he hp, h.ts, h.tl, h.sl.extS he hd, h.ss, h.sn, h.ok⟩
/-- A library at a moment, and what was seen. -/
def AtC (tp : Option Addr) (tn tc : Nat) (T : List TitleV) (r : LendR) (d : List SlipV) (t : Int) (C : List IdV) (gC : Nat) (w : World) (e : Ending) (w' : World) : Prop :=
 ∃ (base bb ms ml mh q : Nat) (v : Value), e = .returned (.tuple #[.pointer (some ⟨bb, 0, none⟩), .int .i64 0]) ∧ LibM base w' bb ms ml mh q tp tn tc r (libAt T r d t).1 ∧ w'.ownsRow w.heap.size 135 2 v C.length (C.flatMap idC) ∧ Blk w' gC 202 #[v] ∧ ExtS gC w w'
set_option maxRecDepth 100000 in
set_option maxHeartbeats 6400000 in
theorem atC_any (tp : Option Addr) (tn tc : Nat) (T : List TitleV) (r : LendR) (dp : Option Addr) (dn dc : Nat) (d : List SlipV) (t : Int) (C : List IdV) (gT gS gC : Nat) (w : World) (h : ListsM w tp tn tc T r dp dn dc d) (ht : outB t 0 345686399999 = false) (hgC : gC < w.heap.size) (hp : ∀ a, tp = some a → a.block ≠ gC) (hd : ∀ a, dp = some a → a.block ≠ gC)
 (hcl : ∀ u, Ext w u → Calls Tryz.prog 133 #[.pointer (some ⟨gT, 0, none⟩), .pointer (some ⟨gS, 0, none⟩), .pointer (some ⟨gC, 0, none⟩)] u (CloR C gC u)) :
 Calls Tryz.prog 86 #[.slice tp tn tc, lendVal r, .slice dp dn dc, .int .i64 t, .func (.func 133) #[] #[.pointer (some ⟨gT, 0, none⟩), .pointer (some ⟨gS, 0, none⟩), .pointer (some ⟨gC, 0, none⟩)]] w (AtC tp tn tc T r d t C gC w) := by
 obtain ⟨z1, z2, z3⟩ := libF_zero h.ok
 have hl := fun u (hu : Ext w u) => listsFault_any tp tn tc T r dp dn dc d u (h.ext hu).ti.1 h.ts h.tl (h.ext hu).sl.1 h.ss (by have := h.sn; omega)
 have hm := fun u => sMom_is ht u
 have hL := fun u (hu : ExtS gC w u) => libraryAt_any tp tn tc T r dp dn dc d t u (h.extS hu hp hd).ti (titlesF_ok z1) (h.extS hu hp hd).sl (slipsF_right z3) h.ss h.sn
 rw [h.ok] at hl
 unfold lendVal at hl hL ⊢
 have hE : Ext w (w.alloc (.cells #[.int .i64 r.days, .int .i64 r.late, .int .i64 r.most, .int .i64 r.each] 28)) := (Ext.refl w).alloc _
 have hX := Blk.new' (w := w) (g := w.heap.size) (t := 28) (cs := #[.int .i64 r.days, .int .i64 r.late, .int .i64 r.most, .int .i64 r.each]) rfl
 have hgx : w.heap.size ≠ gC := by omega
 have lx := hX.lt
 have x0 := hX.cell 0
 have x1 := hX.cell 1
 have x2 := hX.cell 2
 have x3 := hX.cell 3
 clear h z1 z2 z3 hX hp hd; replace hl := Lib.hid hl; replace hm := Lib.hid hm; replace hL := Lib.hid hL; replace hE := Lib.hid hE; replace hcl := Lib.hid hcl
 go_enter Tryz.func86, Tryz.ntmps86
 go_wp2_with (first
  | (go_at_call 82; (with_reducible refine Calls.mono (hl.out _ hE.out) ?_); rintro e w1 ⟨rfl, hb1⟩; have v0 := (hb1.walk.1 _ _ lx).trans x0; have v1 := (hb1.walk.1 _ _ lx).trans x1; have v2 := (hb1.walk.1 _ _ lx).trans x2; have v3 := (hb1.walk.1 _ _ lx).trans x3; have l1 := Nat.lt_of_lt_of_le lx hb1.size)
  | (go_at_call 133; (with_reducible refine Calls.mono (hcl.out _ (hE.out.trans hb1)) ?_); rintro e w2 ⟨rfl, v, ho2, hB2, hE2⟩; have y0 := (hE2.cell l1 hgx _).trans v0; have y1 := (hE2.cell l1 hgx _).trans v1; have y2 := (hE2.cell l1 hgx _).trans v2; have y3 := (hE2.cell l1 hgx _).trans v3; have l2 := Nat.lt_of_lt_of_le l1 hE2.2.2.2.1)
  | (go_at_call 173; (with_reducible refine Calls.mono (hm.out _) ?_); rintro e w3 ⟨rfl, hb3⟩; have u0 := (hb3.walk.1 _ _ l2).trans y0; have u1 := (hb3.walk.1 _ _ l2).trans y1; have u2 := (hb3.walk.1 _ _ l2).trans y2; have u3 := (hb3.walk.1 _ _ l2).trans y3)
  | (go_at_call 83; have hE3 := (((ExtS.refl gC w).ext (hE.out.trans hb1)).trans hE2).ext hb3; (with_reducible refine Calls.mono (hL.out _ hE3) ?_); rintro e w4 ⟨base, bb, ms, ml, mh, q, mr, n, rfl, hLM, hRM, hb4⟩))
 have hres : AtC tp tn tc T r d t C gC w (.returned (.tuple #[.pointer (some ⟨bb, 0, none⟩), .int .i64 0])) w4 := ⟨base, bb, ms, ml, mh, q, v, rfl, hLM, own_low (own_ext (hb3.trans hb4) ho2) (by have := (hE.out.trans hb1).size; omega), hB2.ext (hb3.trans hb4), hE3.ext hb4⟩
 go_ret2
 exact hres
end Go.Proofs.YtehboinleolihaaGreatDoor
