/- What was seen is compared with what should be: the walk of Count when all is right. Conditions: sizes; at most 19 slips; the table of the powers of ten stands. -/
import Derived.Test.YtehboinleolihaaGreatDoorCzJ39
set_option linter.unusedSimpArgs false
set_option linter.unusedVariables false
namespace Go.Proofs.YtehboinleolihaaGreatDoor
open Go Go.RowKit Go.Maps
theorem wpList_lookW {P : Program} {ops : Array Oper} {rest : List Oper} {o : Oper} {a : Act} {w : World} {Q : Exit → Act → World → Prop} (hgd : Region.wanted o (yielded ops a.tmps) = true) (m x : Operand) (t : TypeId) (ok : Bool) (hop : o.op = Op.lookup t m x ok) (mv kv v : Value) (hm : a.eval m = mv) (hx : a.eval x = kv) (hrun : (Instr.lookup t mv kv ok).run P w = .ok v w)
 (hK : wpList P ops Q rest (a.put o.dst v) w) : wpList P ops Q (o :: rest) a w :=
 wpList_step fun K hK' => by
  simp only [hgd, if_true]
  unfold Oper.wp
  simp [execOp, hop, hm, hx, hrun, Result.andThen]
  exact hK' _ _ hK
def pickL (f : IdV → Bool) (X : List IdV) : List (ByteArray × ByteArray) := (X.filter f).map pairOf
theorem pickL_snoc (f : IdV → Bool) (X : List IdV) (k : IdV) : pickL f (X ++ [k]) = pickL f X ++ if f k then [pairOf k] else [] := by
 unfold pickL
 rw [List.filter_append, List.map_append]
 cases h : f k <;> simp [h]
theorem pickL_len (f : IdV → Bool) (X : List IdV) : (pickL f X).length ≤ X.length := by
 unfold pickL
 rw [List.length_map]
 exact List.length_filter_le _ _
theorem ids_take {T : List TitleV} {j : Nat} {x : TitleV} (hx : T[j]? = some x) : idsT (T.take (j + 1)) = idsT (T.take j) ++ nosT x := by
 rw [take_snocL hx]
 unfold idsT
 rw [List.flatMap_append]
 simp
theorem nos_at {x : TitleV} {m : Nat} (hm : m < x.owned.toNat) : (nosT x)[m]? = some (x.piece, ((m + 1 : Nat) : Int)) := by
 unfold nosT
 rw [List.getElem?_map, List.getElem?_range hm]
 rfl
theorem nos_len (x : TitleV) : (nosT x).length = x.owned.toNat := by unfold nosT; simp
theorem ids_len {T : List TitleV} (h : ∀ x ∈ T, x.owned ≤ 500) : (idsT T).length ≤ 500 * T.length := by
 induction T with
 | nil => simp [idsT]
 | cons a T ih =>
   have e : idsT (a :: T) = nosT a ++ idsT T := rfl
   have h1 := ih fun x hx => h x (List.mem_cons_of_mem _ hx)
   have h2 := h a List.mem_cons_self
   rw [e, List.length_append, nos_len, List.length_cons]
   omega
/-- What Count answers when all is right. -/
def CountR (T : List TitleV) (L : LibS) (C : List IdV) (w : World) (e : Ending) (w' : World) : Prop := ∃ v u : Value, e = .returned (.tuple #[v, u, .int .i64 0]) ∧ w'.ownsRow w.heap.size 77 2 v (missL T L C).length ((missL T L C).flatMap lpC) ∧ w'.ownsRow w.heap.size 77 2 u (wrongL L C).length ((wrongL L C).flatMap lpC) ∧ Ext w w'
set_option maxRecDepth 100000 in
set_option maxHeartbeats 12800000 in
theorem count_any (B : Nat) (tp : Option Addr) (tn tc : Nat) (T : List TitleV) (r : LendR) (dp : Option Addr) (dn dc : Nat) (d : List SlipV) (t : Int) (sp : Option Addr) (sn sc : Nat) (C : List IdV) (w : World) (h : ListsM w tp tn tc T r dp dn dc d) (ht : outB t 0 345686399999 = false) (hS : Slc 2 lpC w sp sn sc (C.map pairOf)) (hC : ∀ k ∈ C, k ∈ idsT T) (hnd : C.Nodup) (hl : sn ≤ 3000) (htn : tn ≤ 300) (hB : Tab B w) :
 Calls Tryz.prog 55 #[.slice tp tn tc, lendVal r, .slice dp dn dc, .slice sp sn sc, .int .i64 t] w (CountR T (libAt T r d t).1 C w) := by
 obtain ⟨L, hLe⟩ : ∃ L, L = (libAt T r d t).1 := ⟨_, rfl⟩
 rw [← hLe]
 replace hLe := Lib.hid hLe
 have hTo := titlesF_ok (libF_zero h.ok).1
 have hCl : C.length = sn := by have := hS.1.1; simpa using this
 subst hCl
 have hTl := h.ti.1.1
 obtain ⟨W0, hW0⟩ : ∃ W0, W0 = ((((w.alloc (.cells #[.slice tp tn tc] 26)).alloc (.cells #[.int .i64 r.days, .int .i64 r.late, .int .i64 r.most, .int .i64 r.each] 28)).alloc (.cells #[.slice sp C.length sc] 70)).alloc (.cells #[.slice none 0 0] 202)) := ⟨_, rfl⟩
 have hE0 : Ext w W0 := by rw [hW0]; exact ((((Ext.refl w).alloc _).alloc _).alloc _).alloc _
 have hBT : Blk W0 w.heap.size 26 #[.slice tp tn tc] := by rw [hW0]; exact (((Blk.new' rfl).alloc _).alloc _).alloc _
 have hBS : Blk W0 (w.heap.size + 1 + 1) 70 #[.slice sp C.length sc] := by rw [hW0]; exact (Blk.new' (by simp)).alloc _
 have hBC : Blk W0 (w.heap.size + 1 + 1 + 1) 202 #[.slice none 0 0] := by rw [hW0]; exact Blk.new' (by simp)
 have hp : ∀ a, tp = some a → a.block < w.heap.size := fun a ha => by
  obtain ⟨b, off, e, hb⟩ := h.ti.2.2.2 a ha
  rw [e]; exact hb
 have hd : ∀ a, dp = some a → a.block < w.heap.size := fun a ha => by
  obtain ⟨b, off, e, hb⟩ := h.sl.2.2.2 a ha
  rw [e]; exact hb
 have hcl := fun u (hu : Ext W0 u) => clo_any (hBT.ext hu) (hBS.ext hu) (hBC.ext hu) ((h.ext hE0).ext hu).ti hTo h.ts ((hS.ext hE0).ext hu) hC hnd hl
 have hat := atC_any tp tn tc T r dp dn dc d t C _ _ _ W0 (h.ext hE0) ht hBC.lt (fun a ha => by have := hp a ha; omega) (fun a ha => by have := hd a ha; omega) hcl
 have hTT := h.ti
 have hts := h.ts
 unfold lendVal at hat ⊢
 rw [hW0] at hat
 have hmm := @run_makeMap Tryz.prog
 replace hat := Lib.hid hat; replace hE0 := Lib.hid hE0; replace hBC := Lib.hid hBC; replace hBT := Lib.hid hBT; replace hTo := Lib.hid hTo; replace hTT := Lib.hid hTT; replace hts := Lib.hid hts; replace hW0 := Lib.hid hW0; clear h hcl hBS hp hd hS
 go_enter Tryz.func55, Tryz.ntmps55
 go_upto_region 5 with (go_at_call 86; (with_reducible refine Calls.mono hat.out ?_); rintro e w1 ⟨base, bb, ms, ml, mh, q, v, rfl, hL, hoc, hB1, hE1⟩)
 rw [← hLe.out] at hL
 have hWe := hW0.out
 rw [← hWe] at hoc hE1
 clear hWe
 have hEw : Ext w w1 := ExtS.back (s := w.heap.size + 1 + 1 + 1) hE0.out (by omega) hE1
 have hBT1 := hBT.out.extS (s := w.heap.size + 1 + 1 + 1) (by omega) hE1
 have hw0s := hE0.out.size
 obtain ⟨vp, vc, rfl, hcs⟩ := slc_of_own idC_len hoc (by decide) (by omega)
 have c0 := hB1.cell 0
 have lc := hB1.lt
 have t0 := hBT1.cell 0
 have lt := hBT1.lt
 have hmk := OwnK.made (M := idB) w1
 have htb := fun u (hu : Ext w1 u) => hB.ext (hEw.trans hu)
 have hids : ∀ k ∈ idsT T, okSN k ∧ -1000000 ≤ k.2 ∧ k.2 ≤ 1000000 := fun k hk => by
  obtain ⟨⟨z, hz⟩, -, h1, h5, -⟩ := ids_copy hTo.out hk
  obtain ⟨h6, h7⟩ := titleOf_get hz
  have := (hts.out z h6).1
  rw [h7] at this
  exact ⟨⟨by omega, by omega, by omega⟩, by omega, by omega⟩
 have hst := fun u (hu : Ext w1 u) (k : IdV) (hk : okSN k) => state_any (hL.ext hu) k.1 k.2 hk
 replace htb := Lib.hid htb; replace hids := Lib.hid hids; replace hst := Lib.hid hst; replace hmk := Lib.hid hmk; replace hcs := Lib.hid hcs; replace hEw := Lib.hid hEw; replace hBT1 := Lib.hid hBT1; clear hoc hB1 hE1 hat hE0 hBC hBT hW0 hw0s hL hLe
 go_wp2
 have hw2s : (w1.alloc (.map #[] 0)).heap.size = w1.heap.size + 1 := by simp
 have hE2 : Ext w1 (w1.alloc (.map #[] 0)) := (Ext.refl w1).alloc _
 generalize (w1.alloc (.map #[] 0)) = W2 at *
 generalize hgm : w1.heap.size = gm at *
 replace hgm := Lib.hid hgm; clear c0 lc t0 lt
 go_loopw [17,40] (fun v17 v40 wr => ∃ (i : Nat) (u : Value), v40 = .int .i64 i ∧ u = v17 ∧ i ≤ C.length ∧ wr.ownsRow W2.heap.size 77 2 u (wrongL L (C.take i)).length ((wrongL L (C.take i)).flatMap lpC) ∧ OwnK idB wr gm i (memI (C.take i)) ∧ Ext w1 wr) (fun _ v40 _ => C.length - (intOf v40).toNat)
 case atStart =>
  refine ⟨0, _, rfl, rfl, Nat.zero_le _, World.ownsRow_nil _ _ _ _, ?_, hE2⟩
  have e : memI (C.take 0) = fun _ => none := by funext k; simp [memI]
  rw [e]
  exact hmk.out
 case round =>
  obtain ⟨i, u, rfl, rfl, hi, hown, hmap, he⟩ := hrel
  by_cases hlt : i < C.length
  ·obtain ⟨k, hk⟩ := getD_some (rfl : C.length = C.length) hlt
   obtain ⟨hkok, hka, hkb⟩ := hids.out k (hC k (List.mem_of_getElem? hk))
   obtain ⟨b, off, rfl, hb, hEl⟩ := hcs.out.1.2.2 (by omega)
   obtain ⟨s0, s1⟩ : wr.cell? ⟨b, off + i * 2, none⟩ = some (.string k.1) ∧ wr.cell? ⟨b, off + i * 2 + 1, none⟩ = some (.int .i64 k.2) := ⟨(hEl.ext he hb) i _ hk 0 _ rfl, (hEl.ext he hb) i _ hk 1 _ rfl⟩
   have htk := take_snocL hk
   have hgml := hmap.lt
   obtain ⟨w4, hr4, hm4, hg4⟩ := (hmap.ext ((Ext.refl wr).alloc (.cells #[.string k.1, .int .i64 k.2] 135))).put (k := k) hkok (by omega) true
   have hr4' : (Instr.mapUpdate 205 (.map (some gm)) (.agg #[.string k.1, .int .i64 k.2]) (.bool true)).run Tryz.prog (wr.alloc (.cells #[.string k.1, .int .i64 k.2] 135)) = .ok () w4 := hr4
   have hE4 : Ext w1 w4 := (he.alloc _).grown hg4 fun j hj => by cases hj; have := hgm.out; omega
   have hown4 : w4.ownsRow W2.heap.size 77 2 u (wrongL L (C.take i)).length ((wrongL L (C.take i)).flatMap lpC) := (hown.alloc _).kept hg4 (.inr fun e => by have := (hown.lt gm e).1; omega)
   have hX4 : Blk w4 wr.heap.size 135 #[.string k.1, .int .i64 k.2] := (hg4.block _ (by simp) fun e => by cases e; omega).trans (Blk.new' rfl)
   rw [memI_put] at hm4
   have hs4 := hst.out w4 hE4 k hkok
   have x0 := hX4.cell 0
   have x1 := hX4.cell 1
   have lx := hX4.lt
   have hiI : (i : Int) < (C.length : Int) := by omega
   have hwl : (wrongL L (C.take i)).length ≤ i := Nat.le_trans (pickL_len _ _) (by rw [List.length_take]; omega)
   have hsn := pickL_snoc (fun k => !inP L k) (C.take i) k
   replace hr4' := Lib.hid hr4'; replace htk := Lib.hid htk; replace hk := Lib.hid hk; replace hEl := Lib.hid hEl; replace hkok := Lib.hid hkok; clear hr4 hmap hown
   cases hin : inP L k with
   | true =>
     have hse : L.at_ k = ⟨#[105,110]⟩ := by unfold inP at hin; exact of_decide_eq_true hin
     rw [show ((k.1, k.2) : IdV) = k from rfl, hse] at hs4
     simp only [hin, Bool.not_true, Bool.false_eq_true, if_false, List.append_nil] at hsn
     replace hs4 := Lib.hid hs4; replace hin := Lib.hid hin
     go_wp2_with (first
      | (refine wpList_putM rfl _ _ _ 205 rfl (.map (some gm)) (.agg #[.string k.1, .int .i64 k.2]) (.bool true) rfl rfl rfl w4 hr4'.out ?_)
      | (go_at_call 88; (with_reducible refine Calls.mono hs4.out ?_); rintro e w5 ⟨rfl, hb5⟩))
     go_roundw
     case rel => exact ⟨i + 1, _, by go_num, rfl, by omega, by rw [htk.out]; show w5.ownsRow _ _ _ _ (pickL _ _).length ((pickL _ _).flatMap lpC); rw [hsn]; exact own_ext hb5 hown4, by rw [htk.out]; exact hm4.ext hb5, hE4.trans hb5⟩
     case measure => simp [intOf]; omega
   | false =>
     have hsb : ((L.at_ k).toList == ([105,110] : List UInt8)) = false := by
      rw [show ([105,110] : List UInt8) = (⟨#[105,110]⟩ : ByteArray).toList from by rw [Lib.toList_data], ← Bool.not_eq_true, bytesB]
      intro e
      have : inP L k = true := by simp [inP, inW, e]
      rw [hin] at this
      cases this
     rw [show ((k.1, k.2) : IdV) = k from rfl] at hs4
     simp only [hin, Bool.not_false, if_true] at hsn
     generalize L.at_ k = st at *
     replace hs4 := Lib.hid hs4; replace hin := Lib.hid hin
     go_wp2_with (first
      | (refine wpList_putM rfl _ _ _ 205 rfl (.map (some gm)) (.agg #[.string k.1, .int .i64 k.2]) (.bool true) rfl rfl rfl w4 hr4'.out ?_)
      | (go_at_call 88; (with_reducible refine Calls.mono hs4.out ?_); rintro e w5 ⟨rfl, hb5⟩; have y0 := (hb5.walk.1 _ _ lx).trans x0; have y1 := (hb5.walk.1 _ _ lx).trans x1)
      | (go_at_call 135; (with_reducible refine Calls.mono (pair_any B k ⟨hka, hkb⟩ w5 (htb.out _ (hE4.trans hb5))) ?_); rintro e w6 ⟨rfl, hb6⟩; have hown6 := own_ext (hb5.trans hb6) hown4; have hE6 := (hE4.trans hb5).trans hb6; have hE6s := hE6.size)
      | (at_builtin; go_loud (refine wp_app1 _ (.tmp 50) (.tmp 53) 70 77 2 32 _ rfl rfl Tryz.underlying70 lpInfo rfl (by decide) (by decide) W2.heap.size _ _ _ rfl (hown6.alloc _) _ (lpC (k.1, itoaL k.2)) rfl rfl (Blk.new' rfl) (lpC_one _) (by omega) (by have := hm4.lt; have := hb5.size; have := hb6.size; simp; omega) ?_; intro v' wz hownz hgrowz _)))
     have hm6 := (((hm4.ext hb5).ext hb6).ext ((Ext.refl w6).alloc (.cells (lpC (k.1, itoaL k.2)).toArray 77))).grown hgrowz (fun e => by have := (hown6.lt gm e.symm).1; omega)
     go_roundw
     case rel => exact ⟨i + 1, v', by go_num, rfl, by omega, by rw [htk.out]; show wz.ownsRow _ _ _ _ (pickL _ _).length ((pickL _ _).flatMap lpC); rw [hsn, List.length_append, flat_snoc]; exact hownz, by rw [htk.out]; exact hm6, (hE6.alloc _).app (hown6.alloc _) (by have := hgm.out; omega) hgrowz⟩
     case measure => simp [intOf]; omega
  ·obtain rfl : C.length = i := by omega
   rw [List.take_of_length_le (by omega)] at hown hmap
   have hEwr := hEw.out.trans he
   have hBT9 := hBT1.out.ext he
   have he9 := he
   have hmap9 := hmap
   have hown9 := hown
   obtain ⟨w9, rfl⟩ : ∃ w9, w9 = wr := ⟨_, rfl⟩
   have t0 := hBT9.cell 0
   have lt := hBT9.lt
   have hsz9 : w1.heap.size ≤ w9.heap.size := he9.size
   have hres : ∀ v' w', w'.ownsRow w9.heap.size 77 2 v' (missL T L C).length ((missL T L C).flatMap lpC) → Ext w9 w' → CountR T L C w (.returned (.tuple #[v', u, .int .i64 0])) w' := fun v' w' h1 h2 => ⟨v', u, rfl, own_low h1 hEwr.size, own_low (own_ext h2 hown9) (by have := hEw.out.size; have := hgm.out; omega), hEwr.trans h2⟩
   replace hres := Lib.hid hres; replace hmap9 := Lib.hid hmap9; replace he9 := Lib.hid he9; replace hEwr := Lib.hid hEwr; clear hmk hE2 hw2s hcs hown hmap he hown9 hBT9
   go_wp2
   go_loopw [20,58] (fun v20 v58 wq => ∃ (j : Nat) (u2 : Value), v58 = .int .i64 j ∧ u2 = v20 ∧ j ≤ tn ∧ wq.ownsRow w9.heap.size 77 2 u2 (pickL (fun k => inP L k && decide (k ∉ C)) (idsT (T.take j))).length ((pickL (fun k => inP L k && decide (k ∉ C)) (idsT (T.take j))).flatMap lpC) ∧ Ext w9 wq) (fun _ v58 _ => tn - (intOf v58).toNat)
   case atStart => exact ⟨0, _, rfl, rfl, Nat.zero_le _, World.ownsRow_nil _ _ _ _, Ext.refl _⟩
   case round =>
    obtain ⟨j, u2, rfl, rfl, hj, hown, he⟩ := hrel
    by_cases hlt : j < tn
    ·obtain ⟨x, hx⟩ := getD_some hTl hlt
     have hxm := List.mem_of_getElem? hx
     obtain ⟨hxk, hx1, hx5, -⟩ := hTo.out.one x hxm
     have hxs := (hts.out x hxm).1
     obtain ⟨m, hm⟩ : ∃ m : Nat, x.owned = (m : Int) := ⟨x.owned.toNat, by omega⟩
     have hmt : x.owned.toNat = m := by omega
     obtain ⟨b, off, rfl, hb, hEl⟩ := hTT.out.1.2.2 (by omega)
     obtain ⟨d0, d1, d2⟩ := (hEl.ext (hEwr.out.trans he) hb).title hx
     rw [hm] at d1
     have hjI : (j : Int) < (tn : Int) := by omega
     have hTk := ids_take hx
     have hil : (idsT (T.take j)).length ≤ 150000 := by
      have h1 := ids_len (T := T.take j) fun z hz => (hTo.out.one z (List.mem_of_mem_take hz)).2.2.1
      have h2 : (T.take j).length ≤ 300 := by rw [List.length_take]; omega
      omega
     have hX := Blk.new' (w := wr) (g := wr.heap.size) (t := 105) (cs := #[.string x.piece, .int .i64 (m : Int), .int .i64 x.cost]) rfl
     have hEx : Ext wr (wr.alloc (.cells #[.string x.piece, .int .i64 (m : Int), .int .i64 x.cost] 105)) := (Ext.refl wr).alloc _
     have hown1 := hown.alloc (.cells #[.string x.piece, .int .i64 (m : Int), .int .i64 x.cost] 105)
     replace hx := Lib.hid hx; replace hEl := Lib.hid hEl; replace hTk := Lib.hid hTk; replace hX := Lib.hid hX; replace hEx := Lib.hid hEx
     have he1 := he.trans hEx.out
     clear hown he
     go_wp2
     generalize (wr.alloc (.cells #[.string x.piece, .int .i64 (m : Int), .int .i64 x.cost] 105)) = W5 at *
     generalize wr.heap.size = gx at *
     clear d0 d1 d2 hEx
     go_loopw [20,23] (fun v20 v23 wq => ∃ (i : Nat) (u3 : Value), i ≤ m ∧ v23 = .int .i64 ((i : Int) + 1) ∧ u3 = v20 ∧ wq.ownsRow w9.heap.size 77 2 u3 (pickL (fun k => inP L k && decide (k ∉ C)) (idsT (T.take j) ++ (nosT x).take i)).length ((pickL (fun k => inP L k && decide (k ∉ C)) (idsT (T.take j) ++ (nosT x).take i)).flatMap lpC) ∧ Blk wq gx 105 #[.string x.piece, .int .i64 (m : Int), .int .i64 x.cost] ∧ Ext w9 wq) (fun _ v23 _ => m + 1 - (intOf v23).toNat)
     case atStart => exact ⟨0, _, Nat.zero_le _, rfl, rfl, by rw [List.take_zero, List.append_nil]; exact hown1, hX.out, he1⟩
     case round =>
      clear hown1
      obtain ⟨i, u3, hi, rfl, rfl, hown, hXr, he9r⟩ := hrel
      have c0 := hXr.cell 0
      have c1 := hXr.cell 1
      have lx := hXr.lt
      replace hXr := Lib.hid hXr
      by_cases hlt2 : i < m
      ·have hkI : (i : Int) + 1 ≤ (m : Int) := by omega
       obtain ⟨k, hke⟩ : ∃ k : IdV, k = (x.piece, (i : Int) + 1) := ⟨_, rfl⟩
       have hna := nos_at (x := x) (m := i) (by omega)
       have htk := take_snocL hna
       rw [show ((i + 1 : Nat) : Int) = (i : Int) + 1 by omega, ← hke] at htk
       have hsn := pickL_snoc (fun k => inP L k && decide (k ∉ C)) (idsT (T.take j) ++ (nosT x).take i) k
       rw [List.append_assoc, ← htk] at hsn
       have hkok : okSN (x.piece, (i : Int) + 1) := ⟨by show x.piece.size ≤ _; omega, by show _ ≤ (i : Int) + 1; omega, by show (i : Int) + 1 ≤ _; omega⟩
       have hst1 : ∀ u, Ext wr u → Calls Tryz.prog 88 #[.pointer (some ⟨bb, 0, none⟩), .agg #[.string x.piece, .int .i64 ((i : Int) + 1)]] u fun e w' => e = .returned (.string (L.at_ k)) ∧ Ext u w' := fun u hu => by
        have h9 := hst.out u ((he9.out.trans he9r).trans hu) (x.piece, (i : Int) + 1) hkok
        rw [hke]
        exact h9
       have hml : (memI C (x.piece, (i : Int) + 1)).getD idB.zero = decide ((x.piece, (i : Int) + 1) ∈ C) := by
        unfold memI
        by_cases hin : (x.piece, (i : Int) + 1) ∈ C
        ·rw [if_pos hin]; simp [hin]
        ·rw [if_neg hin]; simp [hin]; rfl
       have hlk : ∀ u, Ext wr u → (Instr.lookup 205 (.map (some gm)) (.agg #[.string x.piece, .int .i64 ((i : Int) + 1)]) false).run Tryz.prog u = .ok (.bool (decide (k ∈ C))) u := fun u hu => by
        have h9 := ((hmap9.out.ext he9r).ext hu).look (k := (x.piece, (i : Int) + 1)) hkok
        rw [hml] at h9
        rw [hke]
        exact h9
       have hpl : (pickL (fun k => inP L k && decide (k ∉ C)) (idsT (T.take j) ++ (nosT x).take i)).length ≤ 200000 := Nat.le_trans (pickL_len _ _) (by rw [List.length_append, List.length_take]; omega)
       have z2 : IntKind.i64.wrap ((i : Int) + 1 + 1) = (i : Int) + 1 + 1 := IntWalk.i64_in _ (by omega)
       have hK := Blk.new' (w := wr) (g := wr.heap.size) (t := 135) (cs := #[.string x.piece, .int .i64 ((i : Int) + 1)]) rfl
       have hEk : Ext wr (wr.alloc (.cells #[.string x.piece, .int .i64 ((i : Int) + 1)] 135)) := (Ext.refl wr).alloc _
       have k0 := hK.cell 0
       have k1 := hK.cell 1
       have lk := hK.lt
       replace hEk := Lib.hid hEk; replace hsn := Lib.hid hsn; clear hna htk hK hml
       cases hin : inP L k with
       | true =>
         have hse : L.at_ k = ⟨#[105,110]⟩ := by unfold inP at hin; exact of_decide_eq_true hin
         rw [hse] at hst1
         have hsn2 := hsn.out
         by_cases hc : k ∈ C
         ·rw [decide_eq_true hc] at hlk
          rw [hin] at hsn2
          simp only [hc, not_true_eq_false, decide_false, Bool.and_false, Bool.false_eq_true, if_false, List.append_nil] at hsn2
          replace hst1 := Lib.hid hst1; replace hlk := Lib.hid hlk; replace hin := Lib.hid hin; replace hc := Lib.hid hc; replace hke := Lib.hid hke; replace hsn2 := Lib.hid hsn2; replace hown := Lib.hid hown
          go_wp2_with (first | (go_at_call 88; (with_reducible refine Calls.mono (hst1.out _ hEk.out) ?_); rintro e w6 ⟨rfl, hb6⟩; have y0 := (hb6.walk.1 _ _ lk).trans k0; have y1 := (hb6.walk.1 _ _ lk).trans k1; have l6 := Nat.lt_of_lt_of_le lk hb6.size) | (refine wpList_lookW rfl _ _ 205 false rfl (.map (some gm)) (.agg #[.string x.piece, .int .i64 ((i : Int) + 1)]) _ rfl rfl (hlk.out _ (hEk.out.trans hb6)) ?_))
          go_roundw
          case rel => exact ⟨i + 1, _, by omega, by go_num, rfl, by rw [hsn2.out]; exact own_ext (hEk.out.trans hb6) hown.out, hXr.out.ext (hEk.out.trans hb6), (he9r.trans hEk.out).trans hb6⟩
          case measure => simp [intOf]; omega
         ·rw [decide_eq_false hc] at hlk
          rw [hin] at hsn2
          simp only [hc, not_false_eq_true, decide_true, Bool.and_true, if_true] at hsn2
          have hpa := fun u (hu : Ext wr u) => pair_any B (x.piece, (i : Int) + 1) ⟨by show _ ≤ (i : Int) + 1; omega, by show (i : Int) + 1 ≤ _; omega⟩ u (htb.out _ ((he9.out.trans he9r).trans hu))
          rw [hke] at hsn2
          unfold pairOf at hsn2
          dsimp only at hpa hsn2
          replace hpa := Lib.hid hpa; replace hst1 := Lib.hid hst1; replace hlk := Lib.hid hlk; replace hin := Lib.hid hin; replace hc := Lib.hid hc; replace hke := Lib.hid hke; replace hsn2 := Lib.hid hsn2; replace hown := Lib.hid hown
          go_wp2_with (first
           | (go_at_call 88; (with_reducible refine Calls.mono (hst1.out _ hEk.out) ?_); rintro e w6 ⟨rfl, hb6⟩; have y0 := (hb6.walk.1 _ _ lk).trans k0; have y1 := (hb6.walk.1 _ _ lk).trans k1; have l6 := Nat.lt_of_lt_of_le lk hb6.size)
           | (refine wpList_lookW rfl _ _ 205 false rfl (.map (some gm)) (.agg #[.string x.piece, .int .i64 ((i : Int) + 1)]) _ rfl rfl (hlk.out _ (hEk.out.trans hb6)) ?_)
           | (go_at_call 135; (with_reducible refine Calls.mono (hpa.out _ (hEk.out.trans hb6)) ?_); rintro e w7 ⟨rfl, hb7⟩; have hE7 := (hEk.out.trans hb6).trans hb7; have hown7 := own_ext hE7 hown.out; have hE97 := he9r.trans hE7; have hE97s := hE97.size)
           | (at_builtin; go_loud (refine wp_app1 _ (.tmp 82) (.tmp 85) 70 77 2 32 _ rfl rfl Tryz.underlying70 lpInfo rfl (by decide) (by decide) w9.heap.size _ _ _ rfl (hown7.alloc _) _ (lpC (x.piece, itoaL ((i : Int) + 1))) rfl rfl (Blk.new' rfl) (lpC_one _) (by omega) (by simp; omega) ?_; intro v' wz hownz hgrowz _)))
          go_roundw
          case rel => exact ⟨i + 1, v', by omega, by go_num, rfl, by rw [hsn2.out, List.length_append, flat_snoc]; exact hownz, (hgrowz.block _ (by have := (hXr.out.ext hE7).lt; simp; omega) fun e => own_no (hown7.alloc (.cells (lpC (x.piece, itoaL ((i : Int) + 1))).toArray 77)) ((hXr.out.ext hE7).alloc _) (by decide) e.symm).trans ((hXr.out.ext hE7).alloc _), (hE97.alloc _).app (hown7.alloc _) (Nat.le_refl _) hgrowz⟩
          case measure => simp [intOf]; omega
       | false =>
         have hsb : ((L.at_ k).toList == ([105,110] : List UInt8)) = false := by
          rw [show ([105,110] : List UInt8) = (⟨#[105,110]⟩ : ByteArray).toList from by rw [Lib.toList_data], ← Bool.not_eq_true, bytesB]
          intro e
          have : inP L k = true := by simp [inP, inW, e]
          rw [hin] at this
          cases this
         have hsn2 := hsn.out
         rw [hin] at hsn2
         simp only [Bool.false_and, Bool.false_eq_true, if_false, List.append_nil] at hsn2
         generalize L.at_ k = st at *
         replace hst1 := Lib.hid hst1; replace hin := Lib.hid hin; replace hke := Lib.hid hke; replace hsn2 := Lib.hid hsn2; replace hown := Lib.hid hown; clear hlk
         go_wp2_with (go_at_call 88; (with_reducible refine Calls.mono (hst1.out _ hEk.out) ?_); rintro e w6 ⟨rfl, hb6⟩; have y0 := (hb6.walk.1 _ _ lk).trans k0; have y1 := (hb6.walk.1 _ _ lk).trans k1; have l6 := Nat.lt_of_lt_of_le lk hb6.size)
         go_roundw
         case rel => exact ⟨i + 1, _, by omega, by go_num, rfl, by rw [hsn2.out]; exact own_ext (hEk.out.trans hb6) hown.out, hXr.out.ext (hEk.out.trans hb6), (he9r.trans hEk.out).trans hb6⟩
         case measure => simp [intOf]; omega
      ·obtain rfl : i = m := by omega
       have hkI : ¬ (i : Int) + 1 ≤ (i : Int) := by omega
       have etk : (nosT x).take i = nosT x := List.take_of_length_le (by rw [nos_len]; omega)
       rw [etk, ← hTk.out] at hown
       replace hown := Lib.hid hown
       go_wp2
       go_roundw
       case rel => exact ⟨j + 1, _, by go_num, rfl, by omega, hown.out, he9r⟩
       case measure => simp [intOf]; omega
    ·obtain rfl : tn = j := by omega
     rw [List.take_of_length_le (by omega)] at hown
     have hr := hres.out _ _ hown he
     replace hr := Lib.hid hr
     go_wp2
     go_ret3
     exact hr.out
end Go.Proofs.YtehboinleolihaaGreatDoor
