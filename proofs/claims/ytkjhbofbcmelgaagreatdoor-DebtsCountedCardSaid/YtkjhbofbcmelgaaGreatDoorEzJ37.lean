/- The document's library at a moment: the walk of shelved. Conditions: sizes; at most 19 slips. (Printed by gen_shl.py.) How a copy is, which slips are refused, who had a copy, by the document: the walks. Conditions: sizes; at most 19 slips. (Printed by gen_shn.py.) -/
import Derived.Test.YtkjhbofbcmelgaaGreatDoorEzShL
import Derived.Test.YtkjhbofbcmelgaaGreatDoorEzJ18
import Derived.Test.YtkjhbofbcmelgaaGreatDoorEzLbJ
import Derived.Test.YtkjhbofbcmelgaaGreatDoorEzJ27
import Derived.Test.YtkjhbofbcmelgaaGreatDoorEzJ31
set_option linter.unusedSimpArgs false
set_option linter.unusedVariables false
namespace Go.Proofs.YtkjhbofbcmelgaaGreatDoor
open Go Go.RowKit Go.Maps
theorem sh_start (tp : Option Addr) (tn tc : Nat) (r : LendR) (dp : Option Addr) (dn dc : Nat) (w : World) : Ext w (((((w.alloc (.cells #[.int .i64 r.days, .int .i64 r.late, .int .i64 r.most, .int .i64 r.each] 28)).alloc (.cells #[.slice dp dn dc] 31)).alloc (.map #[] 0)).alloc (.map #[] 0)).alloc (.cells #[.slice tp tn tc, .int .i64 r.days, .int .i64 r.late, .int .i64 r.most, .int .i64 r.each, .map (some (w.heap.size + 1 + 1)), .slice none 0 0, .map (some (w.heap.size + 1 + 1 + 1))] 143)) ∧ Blk (((((w.alloc (.cells #[.int .i64 r.days, .int .i64 r.late, .int .i64 r.most, .int .i64 r.each] 28)).alloc (.cells #[.slice dp dn dc] 31)).alloc (.map #[] 0)).alloc (.map #[] 0)).alloc (.cells #[.slice tp tn tc, .int .i64 r.days, .int .i64 r.late, .int .i64 r.most, .int .i64 r.each, .map (some (w.heap.size + 1 + 1)), .slice none 0 0, .map (some (w.heap.size + 1 + 1 + 1))] 143)) (w.heap.size + 1) 31 #[.slice dp dn dc] ∧ (((((w.alloc (.cells #[.int .i64 r.days, .int .i64 r.late, .int .i64 r.most, .int .i64 r.each] 28)).alloc (.cells #[.slice dp dn dc] 31)).alloc (.map #[] 0)).alloc (.map #[] 0)).alloc (.cells #[.slice tp tn tc, .int .i64 r.days, .int .i64 r.late, .int .i64 r.most, .int .i64 r.each, .map (some (w.heap.size + 1 + 1)), .slice none 0 0, .map (some (w.heap.size + 1 + 1 + 1))] 143)).heap.size = w.heap.size + 5 ∧
 ∀ base, ShM base (((((w.alloc (.cells #[.int .i64 r.days, .int .i64 r.late, .int .i64 r.most, .int .i64 r.each] 28)).alloc (.cells #[.slice dp dn dc] 31)).alloc (.map #[] 0)).alloc (.map #[] 0)).alloc (.cells #[.slice tp tn tc, .int .i64 r.days, .int .i64 r.late, .int .i64 r.most, .int .i64 r.each, .map (some (w.heap.size + 1 + 1)), .slice none 0 0, .map (some (w.heap.size + 1 + 1 + 1))] 143)) (w.heap.size + 1 + 1 + 1 + 1) (w.heap.size + 1 + 1) (w.heap.size + 1 + 1 + 1) 0 0 tp tn tc r LibS.new (fun _ => none) := by
 refine ⟨(((((Ext.refl w).alloc _).alloc _).alloc _).alloc _).alloc _, (((Blk.new' (by simp)).alloc _).alloc _).alloc _, by simp, fun base => ⟨⟨.slice none 0 0, Blk.new' (by simp), World.ownsRow_nil _ _ _ _⟩, ?_, ?_, by omega⟩⟩
 ·have o := OwnK.made (M := docS) ((w.alloc (.cells #[.int .i64 r.days, .int .i64 r.late, .int .i64 r.most, .int .i64 r.each] 28)).alloc (.cells #[.slice dp dn dc] 31))
  have o2 := (o.ext ((Ext.refl _).alloc (.map #[] 0))).ext ((Ext.refl _).alloc (.cells #[.slice tp tn tc, .int .i64 r.days, .int .i64 r.late, .int .i64 r.most, .int .i64 r.each, .map (some (w.heap.size + 1 + 1)), .slice none 0 0, .map (some (w.heap.size + 1 + 1 + 1))] 143))
  have e : ((w.alloc (.cells #[.int .i64 r.days, .int .i64 r.late, .int .i64 r.most, .int .i64 r.each] 28)).alloc (.cells #[.slice dp dn dc] 31)).heap.size = w.heap.size + 1 + 1 := by simp
  rw [e] at o2
  exact o2
 ·have o := OwnX.made (M := intE) (((w.alloc (.cells #[.int .i64 r.days, .int .i64 r.late, .int .i64 r.most, .int .i64 r.each] 28)).alloc (.cells #[.slice dp dn dc] 31)).alloc (.map #[] 0))
  have o2 := o.ext ((Ext.refl _).alloc (.cells #[.slice tp tn tc, .int .i64 r.days, .int .i64 r.late, .int .i64 r.most, .int .i64 r.each, .map (some (w.heap.size + 1 + 1)), .slice none 0 0, .map (some (w.heap.size + 1 + 1 + 1))] 143))
  have e : (((w.alloc (.cells #[.int .i64 r.days, .int .i64 r.late, .int .i64 r.most, .int .i64 r.each] 28)).alloc (.cells #[.slice dp dn dc] 31)).alloc (.map #[] 0)).heap.size = w.heap.size + 1 + 1 + 1 := by simp
  rw [e] at o2
  exact o2
/-- A slip was refused: it is said in the library's map. -/
theorem ShM.refuse {base : Nat} {w : World} {bb ms mr q nr : Nat} {tp : Option Addr} {tn tc : Nat} {r : LendR} {L : LibS} {F : Int → Option Int} (h : ShM base w bb ms mr q nr tp tn tc r L F) (i : Nat) (hi : i ≤ 1000000) (hn : nr ≤ 1000000) (e : Int) :
 ∃ w' nr', (Instr.mapUpdate 107 (.map (some mr)) (.int .i64 (i : Int)) (.int .i64 e)).run Tryz.prog w = .ok () w' ∧ ShM base w' bb ms mr q nr' tp tn tc r L (setF F (i : Int) e) ∧ nr' ≤ nr + 1 ∧ w.grownBy w' (some mr) := by
 obtain ⟨lv, hrow, hm⟩ := h.parts
 obtain ⟨w', r1, r2, r3⟩ := hm.ref.put (k := (i : Int)) (by show _ ∧ _; omega) (by omega) e
 exact ⟨w', _, r1, (hrow.turned r3 hm.ref.isMap).lib ⟨hm.st.grown r3 (by simpa using hm.ne), r2, hm.ne⟩, by split <;> omega, r3⟩
def ShAtR (tp : Option Addr) (tn tc : Nat) (T : List TitleV) (r : LendR) (d : List SlipV) (t : Int) (w : World) (e : Ending) (w' : World) : Prop :=
 ∃ (base bb ms mr q nr : Nat), e = .returned (.pointer (some ⟨bb, 0, none⟩)) ∧ ShM base w' bb ms mr q nr tp tn tc r (libAt T r d t).1 (libAt T r d t).2 ∧ Ext w w'
set_option maxRecDepth 100000 in
set_option maxHeartbeats 12800000 in
theorem shelved_any (tp : Option Addr) (tn tc : Nat) (T : List TitleV) (r : LendR) (dp : Option Addr) (dn dc : Nat) (d : List SlipV) (t : Int) (w : World) (hT : Slc 3 titleC w tp tn tc T) (htn : tn ≤ 1000) (hD : Slc 7 slipC w dp dn dc d) (hd : RightS d) (hs : ∀ x ∈ d, x.Small) (hn : dn ≤ 19) :
 Calls Tryz.prog 77 #[.slice tp tn tc, lendVal r, .slice dp dn dc, .int .i64 t] w (ShAtR tp tn tc T r d t w) := by
 have hdl := hD.1.1
 have hmm := @run_makeMap Tryz.prog
 obtain ⟨hE0, hG0, hsz, hL0⟩ := sh_start tp tn tc r dp dn dc w
 have hsel : (selF d t).length ≤ 19 := by have := selK_len d t d.length; rw [selK_all] at this; omega
 replace hE0 := Lib.hid hE0; replace hG0 := Lib.hid hG0; replace hsz := Lib.hid hsz; replace hL0 := Lib.hid hL0; replace hT := Lib.hid hT; replace hD := Lib.hid hD; replace hd := Lib.hid hd; replace hs := Lib.hid hs
 unfold lendVal
 go_enter Tryz.func77, Tryz.ntmps77
 go_upto_region 2 with fail
 generalize (((((w.alloc (.cells #[.int .i64 r.days, .int .i64 r.late, .int .i64 r.most, .int .i64 r.each] 28)).alloc (.cells #[.slice dp dn dc] 31)).alloc (.map #[] 0)).alloc (.map #[] 0)).alloc (.cells #[.slice tp tn tc, .int .i64 r.days, .int .i64 r.late, .int .i64 r.most, .int .i64 r.each, .map (some (w.heap.size + 1 + 1)), .slice none 0 0, .map (some (w.heap.size + 1 + 1 + 1))] 143)) = W1 at *
 generalize hbb : w.heap.size + 1 + 1 + 1 + 1 = bb at *
 generalize hmr : w.heap.size + 1 + 1 + 1 = mr at *
 generalize hms : w.heap.size + 1 + 1 = ms at *
 generalize hgd : w.heap.size + 1 = gd at *
 have hlay : w.heap.size < gd ∧ gd < ms ∧ ms < mr ∧ mr < bb ∧ bb < W1.heap.size := by have := hsz.out; omega
 replace hlay := Lib.hid hlay; clear hbb hmr hms hgd hsz
 have g0 := hG0.out.cell 0
 have lg := hG0.out.lt
 go_wp2
 go_loopw [10,24] (fun v11 v27 wr => ∃ (k : Nat) (v : Value), v27 = .int .i64 k ∧ v = v11 ∧ k ≤ dn ∧ wr.ownsRow W1.heap.size 3 1 v (selK d t k).length ((selK d t k).flatMap natC) ∧ Ext W1 wr) (fun _ v27 _ => dn - (intOf v27).toNat)
 case atStart => exact ⟨0, _, rfl, rfl, Nat.zero_le _, World.ownsRow_nil _ _ _ _, Ext.refl _⟩
 case round =>
  obtain ⟨k, v, rfl, rfl, hk, hown, he⟩ := hrel
  have hks := selK_len d t k
  by_cases hlt : k < dn
  ·obtain ⟨x, hx⟩ := getD_some hdl hlt
   obtain ⟨b, off, rfl, hb, hE⟩ := hD.out.1.2.2 (by omega)
   obtain ⟨d0, d1, d2, d3, d4, d5, d6⟩ := (hE.ext (hE0.out.trans he) hb).slip hx
   have hax := atD_of hx
   have hkI : (k : Int) < (dn : Int) := by omega
   have hszr := he.size
   replace hx := Lib.hid hx; replace hE := Lib.hid hE
   by_cases hat : atD d k ≤ t
   ·have hsu : selK d t (k + 1) = selK d t k ++ [k] := by rw [selK_succ, if_pos hat]
    rw [hax] at hat
    go_wp2_with (at_builtin; go_loud (refine wp_app1 _ (.tmp 33) (.tmp 35) 22 3 1 8 _ rfl rfl Tryz.underlying22 natInfo rfl (by decide) (by decide) W1.heap.size _ (selK d t k).length _ rfl ((hown.alloc _).alloc _) _ (natC k) rfl rfl (Blk.new' (by simp)) (natC_one _) (by omega) (by simp; omega) ?_; intro v' w6 hown6 hgrow6 _))
    go_roundw
    case rel => exact ⟨k + 1, v', by go_num, rfl, by omega, by rw [hsu, List.length_append, flat_snoc]; exact hown6, ((he.alloc _).alloc _).app ((hown.alloc _).alloc _) (Nat.le_refl _) hgrow6⟩
    case measure => simp [intOf]; omega
   ·have hsu : selK d t (k + 1) = selK d t k := by rw [selK_succ, if_neg hat]
    rw [hax] at hat
    go_wp2
    go_roundw
    case rel => exact ⟨k + 1, _, by go_num, rfl, by omega, by rw [hsu]; exact hown.alloc _, he.alloc _⟩
    case measure => simp [intOf]; omega
  ·obtain rfl : dn = k := by omega
   have hown2 : wr.ownsRow W1.heap.size 3 1 v (selF d t).length ((selF d t).flatMap natC) := by
    have e : selK d t dn = selF d t := by rw [← hdl]; rfl
    rw [e] at hown
    exact hown
   have hAt : ∃ db off, (AtM wr gd db off dn dc d ∨ d = []) ∧ (db < W1.heap.size ∨ d = []) := by
    rcases Nat.eq_zero_or_pos dn with h0 | h0
    ·have hnil : d = [] := List.eq_nil_of_length_eq_zero (by omega)
     exact ⟨0,0, .inr hnil, .inr hnil⟩
    ·obtain ⟨b, off, rfl, hb, hE⟩ := hD.out.1.2.2 (by omega)
     have hb1 := Nat.lt_of_lt_of_le hb hE0.out.size
     refine ⟨b, off, .inl ⟨hG0.out.ext he, hE.ext (hE0.out.trans he) hb, hdl, fun x hx => ?_⟩, .inl hb1⟩
     exact (slip_ok (hd.out.one x hx)).at_
   obtain ⟨db, off, hAt, hdb⟩ := hAt
   have hlay2 := hlay.out
   obtain ⟨p, cap, rfl, hsort⟩ := shSort_any hd.out.rise t hown2 hAt (by omega) (by omega) hdb
   replace hsort := Lib.hid hsort; replace hown2 := Lib.hid hown2; clear hown hAt hdb hks hlt hk
   go_wp2_with (go_at_call 135; (with_reducible refine Calls.mono hsort.out ?_); rintro e w2 ⟨rfl, hO, hwsz, hX2⟩)
   have hE2 : Ext W1 w2 := hX2 W1 he (Nat.le_refl _)
   have hL3 := (hL0.out w2.heap.size).ext hE2
   have hG3 := hG0.out.ext hE2
   have hK3 : KeepL w2.heap.size bb ms mr mr w2 w2 := KeepL.refl w2
   have hE02 : Ext w w2 := hE0.out.trans hE2
   have hmr : mr < w2.heap.size ∧ bb < w2.heap.size := by have := hE2.size; omega
   have hOl : (ordF d t).length = (selF d t).length := (ord_perm d t).length_eq
   have hgO : ∀ b o, p = some ⟨b, o, none⟩ → 0 < (selF d t).length → W1.heap.size ≤ b ∧ b < w2.heap.size := fun b o e h0 => by
    obtain ⟨g, c9, e9, hg, hgl⟩ := hown2.out.form h0
    cases e9
    cases e
    exact ⟨hg, Nat.lt_of_lt_of_le hgl hwsz⟩
   clear hsort hX2 hown2 hsel
   have hOn : (ordF d t).length ≤ 19 := by rw [hOl]; have := selK_len d t d.length; rw [selK_all] at this; omega
   have hOn2 : (selF d t).length ≤ 19 := by omega
   obtain ⟨base, hbase⟩ : ∃ base, base = w2.heap.size := ⟨_, rfl⟩
   rw [← hbase] at hL3 hK3
   have hO2 := hO
   replace hO2 := Lib.hid hO2; replace hO := Lib.hid hO; replace hL3 := Lib.hid hL3; replace hG3 := Lib.hid hG3; replace hK3 := Lib.hid hK3; replace hbase := Lib.hid hbase; replace hgO := Lib.hid hgO
   go_loopw [43] (fun v47 wr' => ∃ (k nn : Nat), v47 = .int .i64 k ∧ k ≤ (selF d t).length ∧ ShM base wr' bb ms mr k nn tp tn tc r (runR T r d (LibS.new, fun _ => none) ((ordF d t).take k)).1 (runR T r d (LibS.new, fun _ => none) ((ordF d t).take k)).2 ∧ nn ≤ k ∧ KeepL base bb ms mr mr w2 wr') (fun v47 _ => (selF d t).length - (intOf v47).toNat)
   case atStart => exact ⟨0,0, rfl, Nat.zero_le _, hL3.out, Nat.le_refl _, hK3.out⟩
   case round =>
    obtain ⟨k, nn, rfl, hk, hL, hnn, hK⟩ := hrel
    by_cases hlt : k < (selF d t).length
    ·have hlay3 := hlay.out
     have hbz := hbase.out
     have hEw : Ext w wr := hK.old hE02 (by omega) (by omega) (by omega) (by omega) (by omega)
     have hbs : base ≤ wr.heap.size := by have := hK.size; omega
     obtain ⟨i, hi⟩ := getD_some hOl hlt
     obtain ⟨hid, hiat⟩ := mem_ord.1 (List.mem_of_getElem? hi)
     obtain ⟨x, hx⟩ := getD_some hdl (show i < dn by omega)
     have hxm := List.mem_of_getElem? hx
     have hgb := fun b o e => hgO.out b o e (by omega)
     obtain ⟨b, o, rfl, -, hEO⟩ := hO2.out.1.2.2 (by omega)
     obtain ⟨hb1, hb2⟩ := hgb b o rfl
     have cO : wr.cell? ⟨b, o + k, none⟩ = some (.int .i64 (i : Int)) := by
      have h9 := hEO k i hi 0 _ rfl
      rw [show o + k * 1 + 0 = o + k by omega] at h9
      exact (World.cell?_of_block (w := w2) (hK.block b (by omega) (by omega) (by omega) (by omega) (by omega) (by omega))).trans h9
     have hGr : Blk wr gd 31 #[.slice dp dn dc] := (hK.block gd (by omega) (by omega) (by omega) (by omega) (by omega) (by omega)).trans hG3.out
     have g0 := hGr.cell 0
     have lg := hGr.lt
     obtain ⟨db', off', rfl, hdb', hED⟩ := hD.out.1.2.2 (by omega)
     obtain ⟨d0, d1, d2, d3, d4, d5, d6⟩ := (hED.ext hEw hdb').slip hx
     have hso := slip_ok (hd.out.one x hxm)
     have hkds : ∀ z ∈ d, (1 ≤ z.kind ∧ z.kind ≤ 5) ∧ z.singer.size ≤ 1000000 := fun z hz => ⟨(slip_ok (hd.out.one z hz)).kind, (hs.out z hz).2.2⟩
     have hats : ∀ z ∈ d, 0 ≤ z.at_ := fun z hz => (slip_ok (hd.out.one z hz)).at_.1
     have hNk := run_ok (T := T) (r := r) hkds (is := ordF d t) (fun j hj => (mem_ord.1 hj).1) k (by omega) (by omega)
     have hIk := run_I (T := T) (r := r) (t := t) (fun z hz => ⟨hkds z hz, hats z hz⟩) (is := ordF d t) (fun j hj => mem_ord.1 hj) k (by omega) (by omega)
     have hLk := run_L (T := T) (r := r) hats (is := ordF d t) (fun j hj => (mem_ord.1 hj).1) k (by omega)
     have hsl := do_any hL (hT.out.ext hEw) htn hIk hLk hNk (by have := hNk.loans; omega) x (okX_of (hd.out.one x hxm) (hs.out x hxm)) hso.kind (by omega) hbs
     have hnext := run_take (T := T) (r := r) (d := d) (s := (LibS.new, fun _ => none)) hi
     unfold stepR at hnext
     rw [show d.getD i default = x by rw [List.getD_eq_getElem?_getD, hx]; rfl] at hnext
     clear hNk hIk hLk
     generalize runR T r d (LibS.new, fun _ => none) ((ordF d t).take k) = s at *
     generalize slipD T r s.1 x = y at *
     obtain ⟨y1, y2⟩ := y
     dsimp only at hsl hnext
     have hkI : (k : Int) < ((selF d t).length : Int) := by omega
     have hiI : (i : Int) < (dn : Int) := by omega
     replace hsl := Lib.hid hsl; replace hnext := Lib.hid hnext; replace hx := Lib.hid hx; replace hi := Lib.hid hi; replace hL := Lib.hid hL; replace hK := Lib.hid hK; replace hED := Lib.hid hED; replace hEO := Lib.hid hEO; replace hso := Lib.hid hso; replace hbz := Lib.hid hbz
     by_cases hy : y2 = 0
     ·subst hy
      go_wp2_with (go_at_call 137; (with_reducible refine Calls.mono hsl.out ?_); rintro e w6 ⟨rfl, hL6, hK6⟩)
      go_roundw
      case rel => exact ⟨k + 1, nn, by go_num, by omega, by rw [hnext.out]; exact hL6, by omega, hK.out.trans hK6⟩
      case measure => simp [intOf]; omega
     ·replace hy := Lib.hid hy
      have hyb : ¬ y2 = 0 := hy.out
      go_wp2_with (first
       | (go_at_call 137; (with_reducible refine Calls.mono hsl.out ?_); rintro e w6 ⟨rfl, hL6, hK6⟩; obtain ⟨w7, n7, hr7, hL7, hn7, hg7⟩ := hL6.refuse i (by omega) (by omega) y2; have c7 : w6.cell? ⟨bb, 7, none⟩ = some (.map (some mr)) := (by obtain ⟨⟨lv, hB, -⟩, -⟩ := hL6; exact hB.cell 7); have l7 : bb < w6.heap.size := (by obtain ⟨⟨lv, hB, -⟩, -⟩ := hL6; exact hB.lt); replace hr7 := Lib.hid hr7; replace hL6 := Lib.hid hL6)
       | (refine wpList_putM rfl _ _ _ 107 rfl (.map (some mr)) (.int .i64 (i : Int)) (.int .i64 y2) rfl rfl rfl w7 hr7.out ?_))
      go_roundw
      case rel => exact ⟨k + 1, n7, by go_num, by omega, by rw [hnext.out, if_neg hyb]; exact hL7, by omega, (hK.out.trans hK6).grown hg7 (.inr (.inr (.inl rfl)))⟩
      case measure => simp [intOf]; omega
    ·obtain rfl : (selF d t).length = k := by omega
     have hlay3 := hlay.out
     have hbz := hbase.out
     have hEw : Ext w wr := hK.old hE02 (by omega) (by omega) (by omega) (by omega) (by omega)
     rw [List.take_of_length_le (by omega)] at hL
     have hres : ShAtR tp tn tc T r d t w (.returned (.pointer (some ⟨bb, 0, none⟩))) wr := ⟨base, bb, ms, mr, _, nn, rfl, hL, hEw⟩
     replace hres := Lib.hid hres; clear hL hK hEw hbz
     go_wp2
     go_ret
     exact hres.out
end Go.Proofs.YtkjhbofbcmelgaaGreatDoor
namespace Go.Proofs.YtkjhbofbcmelgaaGreatDoor
open Go Go.RowKit
theorem shelvedL {tp : Option Addr} {tn tc : Nat} {T : List TitleV} {r : LendR} {dp : Option Addr} {dn dc : Nat} {d : List SlipV} {w : World} (h : ListsM w tp tn tc T r dp dn dc d) (t : Int) (u : World) (hu : Ext w u) :
 Calls Tryz.prog 77 #[.slice tp tn tc, lendVal r, .slice dp dn dc, .int .i64 t] u (ShAtR tp tn tc T r d t u) := shelved_any tp tn tc T r dp dn dc d t u (h.ext hu).ti h.tl (h.ext hu).sl (slipsF_right (libF_zero h.ok).2.2) h.ss h.sn
end Go.Proofs.YtkjhbofbcmelgaaGreatDoor
