/- A library at a moment: the walk. Conditions: sizes; at most 19 slips. -/
import Derived.Test.YtkjhbofbcmelgaaGreatDoorEzJ15
import Derived.Test.YtkjhbofbcmelgaaGreatDoorEzLbG
import Derived.Test.YtkjhbofbcmelgaaGreatDoorEzLbK
import Derived.Test.YtkjhbofbcmelgaaGreatDoorEzJ3
set_option linter.unusedSimpArgs false
set_option linter.unusedVariables false
namespace Go.Proofs.YtkjhbofbcmelgaaGreatDoor
open Go Go.RowKit Go.Maps
theorem natInfo : (Tryz.prog.info? 3).map (fun i => (i.zero, i.size, i.bytes)) = some (some (.int .i64 0), 1,8) := by kernel_rfl
/-- A library at a moment, and the slips that were refused. -/
def LibAtR (tp : Option Addr) (tn tc : Nat) (T : List TitleV) (r : LendR) (d : List SlipV) (t : Int) (w : World) (e : Ending) (w' : World) : Prop :=
 ∃ (base bb ms ml mh q mr n : Nat), e = .returned (.tuple #[.pointer (some ⟨bb, 0, none⟩), .map (some mr)]) ∧ LibM base w' bb ms ml mh q tp tn tc r (libAt T r d t).1 ∧ OwnX intE w' mr n (libAt T r d t).2 ∧ Ext w w'
theorem okX_of {x : SlipV} (h : slipE x = 0) (hs : x.Small) : OkX x := by
 have h1 := slip_ok h
 obtain ⟨s1, s2, s3⟩ := hs
 refine ⟨⟨s2, ?_, ?_⟩, s3, s2⟩
 ·have := h1.copy; show _ ≤ x.copy; omega
 ·have := h1.copy; show x.copy ≤ _; omega
theorem lib_new {base : Nat} {w : World} {bb ms ml mh : Nat} {tp : Option Addr} {tn tc : Nat} {r : LendR} (hB : Blk w bb 130 (libC tp tn tc r ms ml mh (.slice none 0 0))) (h1 : OwnK idS w ms 0 (fun _ => none)) (h2 : OwnK idI w ml 0 (fun _ => none)) (h3 : OwnK strM w mh 0 (fun _ => none)) (e1 : ms ≠ ml) (e2 : ms ≠ mh) (e3 : ml ≠ mh) :
 LibM base w bb ms ml mh 0 tp tn tc r LibS.new :=
 ⟨⟨_, hB, World.ownsRow_nil _ _ _ _⟩, ⟨h1, h2, ⟨_, h3, (fun s => by simp [LibS.new]), (fun s l h => by simp [LibS.new] at h), fun s s' b h => by simp at h⟩, e1, e2, e3⟩⟩
theorem KeepL.own {base bb ms ml mh : Nat} {a w : World} (h : KeepL base bb ms ml mh a w) {z : Nat} (hz : z < a.heap.size) (hb : z < base) (h1 : z ≠ bb) (h2 : z ≠ ms) (h3 : z ≠ ml) (h4 : z ≠ mh) : w.heap[z]? = a.heap[z]? := h.block z hz hb h1 h2 h3 h4
theorem KeepL.old {base bb ms ml mh : Nat} {a w u : World} (h : KeepL base bb ms ml mh a w) (he : Ext u a) (hb : u.heap.size ≤ base) (h1 : u.heap.size ≤ bb) (h2 : u.heap.size ≤ ms) (h3 : u.heap.size ≤ ml) (h4 : u.heap.size ≤ mh) : Ext u w :=
 ⟨h.os.trans he.os, h.tape.trans he.tape, h.output.trans he.output, Nat.le_trans he.size h.size, fun k hk => (h.block k (Nat.lt_of_lt_of_le hk he.size) (by omega) (by omega) (by omega) (by omega) (by omega)).trans (he.block k hk)⟩
theorem lib_start (tp : Option Addr) (tn tc : Nat) (r : LendR) (dp : Option Addr) (dn dc : Nat) (w : World) : Ext w ((((((w.alloc (.cells #[.int .i64 r.days, .int .i64 r.late, .int .i64 r.most, .int .i64 r.each] 28)).alloc (.cells #[.slice dp dn dc] 31)).alloc (.map #[] 0)).alloc (.map #[] 0)).alloc (.map #[] 0)).alloc (.cells #[.slice tp tn tc, .int .i64 r.days, .int .i64 r.late, .int .i64 r.most, .int .i64 r.each, .map (some (w.heap.size + 1 + 1)), .map (some (w.heap.size + 1 + 1 + 1)), .slice none 0 0, .map (some (w.heap.size + 1 + 1 + 1 + 1))] 130)) ∧ Blk ((((((w.alloc (.cells #[.int .i64 r.days, .int .i64 r.late, .int .i64 r.most, .int .i64 r.each] 28)).alloc (.cells #[.slice dp dn dc] 31)).alloc (.map #[] 0)).alloc (.map #[] 0)).alloc (.map #[] 0)).alloc (.cells #[.slice tp tn tc, .int .i64 r.days, .int .i64 r.late, .int .i64 r.most, .int .i64 r.each, .map (some (w.heap.size + 1 + 1)), .map (some (w.heap.size + 1 + 1 + 1)), .slice none 0 0, .map (some (w.heap.size + 1 + 1 + 1 + 1))] 130)) (w.heap.size + 1) 31 #[.slice dp dn dc] ∧ ((((((w.alloc (.cells #[.int .i64 r.days, .int .i64 r.late, .int .i64 r.most, .int .i64 r.each] 28)).alloc (.cells #[.slice dp dn dc] 31)).alloc (.map #[] 0)).alloc (.map #[] 0)).alloc (.map #[] 0)).alloc (.cells #[.slice tp tn tc, .int .i64 r.days, .int .i64 r.late, .int .i64 r.most, .int .i64 r.each, .map (some (w.heap.size + 1 + 1)), .map (some (w.heap.size + 1 + 1 + 1)), .slice none 0 0, .map (some (w.heap.size + 1 + 1 + 1 + 1))] 130)).heap.size = w.heap.size + 6 ∧
 ∀ base, LibM base ((((((w.alloc (.cells #[.int .i64 r.days, .int .i64 r.late, .int .i64 r.most, .int .i64 r.each] 28)).alloc (.cells #[.slice dp dn dc] 31)).alloc (.map #[] 0)).alloc (.map #[] 0)).alloc (.map #[] 0)).alloc (.cells #[.slice tp tn tc, .int .i64 r.days, .int .i64 r.late, .int .i64 r.most, .int .i64 r.each, .map (some (w.heap.size + 1 + 1)), .map (some (w.heap.size + 1 + 1 + 1)), .slice none 0 0, .map (some (w.heap.size + 1 + 1 + 1 + 1))] 130)) (w.heap.size + 1 + 1 + 1 + 1 + 1) (w.heap.size + 1 + 1) (w.heap.size + 1 + 1 + 1) (w.heap.size + 1 + 1 + 1 + 1) 0 tp tn tc r LibS.new := by
 refine ⟨((((((Ext.refl w).alloc _).alloc _).alloc _).alloc _).alloc _).alloc _, ?_, by simp, fun base => lib_new ?_ ?_ ?_ ?_ (by omega) (by omega) (by omega)⟩
 ·exact ((((Blk.new' (by simp)).alloc _).alloc _).alloc _).alloc _
 ·exact Blk.new' (by simp)
 ·have o := OwnK.made (M := idS) ((w.alloc (.cells #[.int .i64 r.days, .int .i64 r.late, .int .i64 r.most, .int .i64 r.each] 28)).alloc (.cells #[.slice dp dn dc] 31))
  have o2 := ((o.ext ((Ext.refl _).alloc (.map #[] 0))).ext ((Ext.refl _).alloc (.map #[] 0))).ext ((Ext.refl _).alloc (.cells #[.slice tp tn tc, .int .i64 r.days, .int .i64 r.late, .int .i64 r.most, .int .i64 r.each, .map (some (w.heap.size + 1 + 1)), .map (some (w.heap.size + 1 + 1 + 1)), .slice none 0 0, .map (some (w.heap.size + 1 + 1 + 1 + 1))] 130))
  have e : ((w.alloc (.cells #[.int .i64 r.days, .int .i64 r.late, .int .i64 r.most, .int .i64 r.each] 28)).alloc (.cells #[.slice dp dn dc] 31)).heap.size = w.heap.size + 1 + 1 := by simp
  rw [e] at o2
  exact o2
 ·have o := OwnK.made (M := idI) (((w.alloc (.cells #[.int .i64 r.days, .int .i64 r.late, .int .i64 r.most, .int .i64 r.each] 28)).alloc (.cells #[.slice dp dn dc] 31)).alloc (.map #[] 0))
  have o2 := (o.ext ((Ext.refl _).alloc (.map #[] 0))).ext ((Ext.refl _).alloc (.cells #[.slice tp tn tc, .int .i64 r.days, .int .i64 r.late, .int .i64 r.most, .int .i64 r.each, .map (some (w.heap.size + 1 + 1)), .map (some (w.heap.size + 1 + 1 + 1)), .slice none 0 0, .map (some (w.heap.size + 1 + 1 + 1 + 1))] 130))
  have e : (((w.alloc (.cells #[.int .i64 r.days, .int .i64 r.late, .int .i64 r.most, .int .i64 r.each] 28)).alloc (.cells #[.slice dp dn dc] 31)).alloc (.map #[] 0)).heap.size = w.heap.size + 1 + 1 + 1 := by simp
  rw [e] at o2
  exact o2
 ·have o := OwnK.made (M := strM) ((((w.alloc (.cells #[.int .i64 r.days, .int .i64 r.late, .int .i64 r.most, .int .i64 r.each] 28)).alloc (.cells #[.slice dp dn dc] 31)).alloc (.map #[] 0)).alloc (.map #[] 0))
  have o2 := o.ext ((Ext.refl _).alloc (.cells #[.slice tp tn tc, .int .i64 r.days, .int .i64 r.late, .int .i64 r.most, .int .i64 r.each, .map (some (w.heap.size + 1 + 1)), .map (some (w.heap.size + 1 + 1 + 1)), .slice none 0 0, .map (some (w.heap.size + 1 + 1 + 1 + 1))] 130))
  have e : ((((w.alloc (.cells #[.int .i64 r.days, .int .i64 r.late, .int .i64 r.most, .int .i64 r.each] 28)).alloc (.cells #[.slice dp dn dc] 31)).alloc (.map #[] 0)).alloc (.map #[] 0)).heap.size = w.heap.size + 1 + 1 + 1 + 1 := by simp
  rw [e] at o2
  exact o2
theorem LibM.apart {base : Nat} {w w' : World} {bb ms ml mh q : Nat} {tp : Option Addr} {tn tc : Nat} {r : LendR} {L : LibS} (h : LibM base w bb ms ml mh q tp tn tc r L) {z : Nat} (hg : w.grownBy w' (some z)) (hz : z < base) (h0 : z ≠ bb) (h1 : z ≠ ms) (h2 : z ≠ ml) (h3 : z ≠ mh) : LibM base w' bb ms ml mh q tp tn tc r L := by
 obtain ⟨⟨lv, hb, ho⟩, hm⟩ := h
 refine ⟨⟨lv, (hg.block bb hb.lt fun e => h0 (by cases e; rfl)).trans hb, own_at ho fun g hv => hg.block g (ho.lt g hv).2 fun e => ?_⟩, hm.st.grown hg (by simp; omega), hm.last.grown hg (by simp; omega), hm.has.grown hg (by simp; omega) fun b l hb => by have := hb.low; simp; omega, hm.sl, hm.sh, hm.lh⟩
 cases e
 have := (ho.lt _ hv).1
 omega
theorem KeepL.fresh {base bb ms ml mh : Nat} {a w w' : World} (h : KeepL base bb ms ml mh a w) {z : Nat} (hg : w.grownBy w' (some z)) (hz : a.heap.size ≤ z) : KeepL base bb ms ml mh a w' :=
 ⟨hg.os.trans h.os, hg.tape.trans h.tape, hg.output.trans h.output, Nat.le_trans h.size hg.size, fun k hk h1 h2 h3 h4 h5 => (hg.block k (Nat.lt_of_lt_of_le hk h.size) fun e => by cases e; omega).trans (h.block k hk h1 h2 h3 h4 h5)⟩
set_option maxRecDepth 100000 in
set_option maxHeartbeats 12800000 in
theorem libraryAt_any (tp : Option Addr) (tn tc : Nat) (T : List TitleV) (r : LendR) (dp : Option Addr) (dn dc : Nat) (d : List SlipV) (t : Int) (w : World) (hT : Slc 3 titleC w tp tn tc T) (hTo : TitlesOk T) (hD : Slc 7 slipC w dp dn dc d) (hd : RightS d) (hs : ∀ x ∈ d, x.Small) (hn : dn ≤ 19) :
 Calls Tryz.prog 61 #[.slice tp tn tc, lendVal r, .slice dp dn dc, .int .i64 t] w (LibAtR tp tn tc T r d t w) := by
 have hdl := hD.1.1
 have hmm := @run_makeMap Tryz.prog
 obtain ⟨hE0, hG0, hsz, hL0⟩ := lib_start tp tn tc r dp dn dc w
 have hsel : (selF d t).length ≤ 19 := by have := selK_len d t d.length; rw [selK_all] at this; omega
 replace hE0 := Lib.hid hE0; replace hG0 := Lib.hid hG0; replace hsz := Lib.hid hsz; replace hL0 := Lib.hid hL0; replace hT := Lib.hid hT; replace hD := Lib.hid hD; replace hd := Lib.hid hd; replace hs := Lib.hid hs
 unfold lendVal
 go_enter Tryz.func61, Tryz.ntmps61
 go_upto_region 2 with fail
 generalize ((((((w.alloc (.cells #[.int .i64 r.days, .int .i64 r.late, .int .i64 r.most, .int .i64 r.each] 28)).alloc (.cells #[.slice dp dn dc] 31)).alloc (.map #[] 0)).alloc (.map #[] 0)).alloc (.map #[] 0)).alloc (.cells #[.slice tp tn tc, .int .i64 r.days, .int .i64 r.late, .int .i64 r.most, .int .i64 r.each, .map (some (w.heap.size + 1 + 1)), .map (some (w.heap.size + 1 + 1 + 1)), .slice none 0 0, .map (some (w.heap.size + 1 + 1 + 1 + 1))] 130)) = W1 at *
 generalize hbb : w.heap.size + 1 + 1 + 1 + 1 + 1 = bb at *
 generalize hmh : w.heap.size + 1 + 1 + 1 + 1 = mh at *
 generalize hml : w.heap.size + 1 + 1 + 1 = ml at *
 generalize hms : w.heap.size + 1 + 1 = ms at *
 generalize hgd : w.heap.size + 1 = gd at *
 have hlay : w.heap.size < gd ∧ gd < ms ∧ ms < ml ∧ ml < mh ∧ mh < bb ∧ bb < W1.heap.size := by have := hsz.out; omega
 replace hlay := Lib.hid hlay; clear hbb hmh hml hms hgd hsz
 have g0 := hG0.out.cell 0
 have lg := hG0.out.lt
 go_wp2
 go_loopw [11,27] (fun v11 v27 wr => ∃ (k : Nat) (v : Value), v27 = .int .i64 k ∧ v = v11 ∧ k ≤ dn ∧ wr.ownsRow W1.heap.size 3 1 v (selK d t k).length ((selK d t k).flatMap natC) ∧ Ext W1 wr) (fun _ v27 _ => dn - (intOf v27).toNat)
 case atStart => exact ⟨0, _, rfl, rfl, Nat.zero_le _, World.ownsRow_nil _ _ _ _, Ext.refl _⟩
 case round =>
  obtain ⟨k, v, rfl, rfl, hk, hown, he⟩ := hrel
  have hks := selK_len d t k
  by_cases hlt : k < dn
  ·obtain ⟨x, hx⟩ := getD_some hdl hlt
   obtain ⟨b, off, rfl, hb, hE⟩ := hD.out.1.2.2 (by omega)
   obtain ⟨d0, d1, d2, d3, d4, d5, d6⟩ := (hE.ext (hE0.out.trans he) hb).slip hx
   have hax := atD_of hx
   have hkI : (k : Int) < (dn : Int) := by omega
   have hszr := he.size
   replace hx := Lib.hid hx; replace hE := Lib.hid hE
   by_cases hat : atD d k ≤ t
   ·have hsu : selK d t (k + 1) = selK d t k ++ [k] := by rw [selK_succ, if_pos hat]
    rw [hax] at hat
    go_wp2_with (at_builtin; go_loud (refine wp_app1 _ (.tmp 36) (.tmp 38) 22 3 1 8 _ rfl rfl Tryz.underlying22 natInfo rfl (by decide) (by decide) W1.heap.size _ (selK d t k).length _ rfl ((hown.alloc _).alloc _) _ (natC k) rfl rfl (Blk.new' (by simp)) (natC_one _) (by omega) (by simp; omega) ?_; intro v' w6 hown6 hgrow6 _))
    go_roundw
    case rel => exact ⟨k + 1, v', by go_num, rfl, by omega, by rw [hsu, List.length_append, flat_snoc]; exact hown6, ((he.alloc _).alloc _).app ((hown.alloc _).alloc _) (Nat.le_refl _) hgrow6⟩
    case measure => simp [intOf]; omega
   ·have hsu : selK d t (k + 1) = selK d t k := by rw [selK_succ, if_neg hat]
    rw [hax] at hat
    go_wp2
    go_roundw
    case rel => exact ⟨k + 1, _, by go_num, rfl, by omega, by rw [hsu]; exact hown.alloc _, he.alloc _⟩
    case measure => simp [intOf]; omega
  ·obtain rfl : dn = k := by omega
   have hown2 : wr.ownsRow W1.heap.size 3 1 v (selF d t).length ((selF d t).flatMap natC) := by
    have e : selK d t dn = selF d t := by rw [← hdl]; rfl
    rw [e] at hown
    exact hown
   have hAt : ∃ db off, (AtM wr gd db off dn dc d ∨ d = []) ∧ (db < W1.heap.size ∨ d = []) := by
    rcases Nat.eq_zero_or_pos dn with h0 | h0
    ·have hnil : d = [] := List.eq_nil_of_length_eq_zero (by omega)
     exact ⟨0,0, .inr hnil, .inr hnil⟩
    ·obtain ⟨b, off, rfl, hb, hE⟩ := hD.out.1.2.2 (by omega)
     have hb1 := Nat.lt_of_lt_of_le hb hE0.out.size
     refine ⟨b, off, .inl ⟨hG0.out.ext he, hE.ext (hE0.out.trans he) hb, hdl, fun x hx => ?_⟩, .inl hb1⟩
     exact (slip_ok (hd.out.one x hx)).at_
   obtain ⟨db, off, hAt, hdb⟩ := hAt
   have hlay2 := hlay.out
   obtain ⟨p, cap, rfl, hsort⟩ := ordSort_any t hown2 hAt (by omega) (by omega) hdb
   replace hsort := Lib.hid hsort; replace hown2 := Lib.hid hown2; clear hown hAt hdb hks hlt hk
   go_wp2_with (go_at_call 119; (with_reducible refine Calls.mono hsort.out ?_); rintro e w2 ⟨rfl, hO, hwsz, hX2⟩)
   have hE2 : Ext W1 w2 := hX2 W1 he (Nat.le_refl _)
   have hE3 : Ext W1 (w2.alloc (.map #[] 0)) := hE2.alloc _
   have hL3 := (hL0.out (w2.heap.size + 1)).ext hE3
   have hR3 := OwnX.made (M := intE) w2
   have hO2 := hO
   replace hO2 := Lib.hid hO2
   have hG3 := hG0.out.ext hE3
   have hO3 : Slc 1 natC (w2.alloc (.map #[] 0)) p (selF d t).length cap (ordF d t) := hO.ext ((Ext.refl w2).alloc _)
   have hK3 : KeepL (w2.heap.size + 1) bb ms ml mh w2 (w2.alloc (.map #[] 0)) := (KeepL.refl w2).ext ((Ext.refl w2).alloc _)
   have hE02 : Ext w w2 := hE0.out.trans hE2
   have hmr : mh < w2.heap.size ∧ bb < w2.heap.size := by have := hE2.size; omega
   have hOl : (ordF d t).length = (selF d t).length := (ord_perm d t).length_eq
   have hgO : ∀ b o, p = some ⟨b, o, none⟩ → 0 < (selF d t).length → W1.heap.size ≤ b ∧ b < wr.heap.size := fun b o e h0 => by
    obtain ⟨g, c9, e9, hg, hgl⟩ := hown2.out.form h0
    cases e9
    cases e
    exact ⟨hg, hgl⟩
   clear hsort hX2 hO hown2 hsel
   have hOn : (ordF d t).length ≤ 19 := by rw [hOl]; have := selK_len d t d.length; rw [selK_all] at this; omega
   have hOn2 : (selF d t).length ≤ 19 := by omega
   obtain ⟨base, hbase⟩ : ∃ base, base = w2.heap.size + 1 := ⟨_, rfl⟩
   rw [← hbase] at hL3 hK3
   replace hL3 := Lib.hid hL3; replace hR3 := Lib.hid hR3; replace hG3 := Lib.hid hG3; replace hO3 := Lib.hid hO3; replace hK3 := Lib.hid hK3; replace hbase := Lib.hid hbase; replace hgO := Lib.hid hgO
   have hw3s : (w2.alloc (.map #[] 0)).heap.size = base := by rw [hbase.out]; simp
   replace hw3s := Lib.hid hw3s
   generalize (w2.alloc (.map #[] 0)) = W3 at *
   generalize hmrz : w2.heap.size = mr at *
   replace hmrz := Lib.hid hmrz
   go_loopw [47] (fun v47 wr' => ∃ (k nn : Nat), v47 = .int .i64 k ∧ k ≤ (selF d t).length ∧ LibM base wr' bb ms ml mh (3 * k) tp tn tc r (runR T r d (LibS.new, fun _ => none) ((ordF d t).take k)).1 ∧ OwnX intE wr' mr nn (runR T r d (LibS.new, fun _ => none) ((ordF d t).take k)).2 ∧ nn ≤ k ∧ KeepL base bb ms ml mh w2 wr') (fun v47 _ => (selF d t).length - (intOf v47).toNat)
   case atStart => exact ⟨0,0, rfl, Nat.zero_le _, hL3.out, hR3.out, Nat.le_refl _, hK3.out⟩
   case round =>
    obtain ⟨k, nn, rfl, hk, hL, hR, hnn, hK⟩ := hrel
    by_cases hlt : k < (selF d t).length
    ·have hlay3 := hlay.out
     have hmz := hmrz.out
     have hbz := hbase.out
     have hEw : Ext w wr := hK.old hE02 (by omega) (by omega) (by omega) (by omega) (by omega)
     have hbs : base ≤ wr.heap.size := by have := hR.lt; omega
     obtain ⟨i, hi⟩ := getD_some hOl hlt
     obtain ⟨hid, -⟩ := mem_ord.1 (List.mem_of_getElem? hi)
     obtain ⟨x, hx⟩ := getD_some hdl (show i < dn by omega)
     have hxm := List.mem_of_getElem? hx
     have hgb := fun b o e => hgO.out b o e (by omega)
     obtain ⟨b, o, rfl, -, hEO⟩ := hO2.out.1.2.2 (by omega)
     obtain ⟨hb1, hb2⟩ := hgb b o rfl
     have cO : wr.cell? ⟨b, o + k, none⟩ = some (.int .i64 (i : Int)) := by
      have h9 := hEO k i hi 0 _ rfl
      rw [show o + k * 1 + 0 = o + k by omega] at h9
      exact (World.cell?_of_block (w := w2) (hK.block b (by omega) (by omega) (by omega) (by omega) (by omega) (by omega))).trans h9
     have hGr : Blk wr gd 31 #[.slice dp dn dc] := (hK.block gd (by omega) (by omega) (by omega) (by omega) (by omega) (by omega)).trans (hG0.out.ext hE2)
     have g0 := hGr.cell 0
     have lg := hGr.lt
     obtain ⟨db', off', rfl, hdb', hED⟩ := hD.out.1.2.2 (by omega)
     obtain ⟨d0, d1, d2, d3, d4, d5, d6⟩ := (hED.ext hEw hdb').slip hx
     have hso := slip_ok (hd.out.one x hxm)
     have hsl := slip_any hL (hT.out.ext hEw) hTo (run_ok (fun z hz => ⟨(slip_ok (hd.out.one z hz)).kind, (hs.out z hz).2.2⟩) (fun j hj => (mem_ord.1 hj).1) k (by omega) (by omega)) (by omega) x (okX_of (hd.out.one x hxm) (hs.out x hxm)) hso.kind (by omega) hbs
     have hnext := run_take (T := T) (r := r) (d := d) (s := (LibS.new, fun _ => none)) hi
     unfold stepR at hnext
     rw [show d.getD i default = x by rw [List.getD_eq_getElem?_getD, hx]; rfl] at hnext
     generalize runR T r d (LibS.new, fun _ => none) ((ordF d t).take k) = s at *
     generalize slipD T r s.1 x = y at *
     obtain ⟨y1, y2⟩ := y
     unfold slipVal at hsl
     dsimp only at hsl hnext
     have hkI : (k : Int) < ((selF d t).length : Int) := by omega
     have hiI : (i : Int) < (dn : Int) := by omega
     have hmrl := hR.lt
     replace hsl := Lib.hid hsl; replace hnext := Lib.hid hnext; replace hx := Lib.hid hx; replace hi := Lib.hid hi; replace hL := Lib.hid hL; replace hK := Lib.hid hK; replace hR := Lib.hid hR; replace hED := Lib.hid hED; replace hEO := Lib.hid hEO; replace hso := Lib.hid hso; replace hbz := Lib.hid hbz; replace hmz := Lib.hid hmz
     by_cases hy : y2 = 0
     ·subst hy
      go_wp2_with (go_at_call 121; (with_reducible refine Calls.mono hsl.out ?_); rintro e w6 ⟨rfl, hL6, hK6⟩)
      have hbz2 := hbz.out
      have hmz2 := hmz.out
      have hR6 := hR.out.at_ (hK6.block mr hmrl (by omega) (by omega) (by omega) (by omega) (by omega))
      go_roundw
      case rel => exact ⟨k + 1, nn, by go_num, by omega, by rw [hnext.out]; exact hL6.more (by omega), by rw [hnext.out]; exact hR6, by omega, hK.out.trans hK6⟩
      case measure => simp [intOf]; omega
     ·replace hy := Lib.hid hy
      have hyb : ¬ y2 = 0 := hy.out
      go_wp2_with (first
       | (go_at_call 121; (with_reducible refine Calls.mono hsl.out ?_); rintro e w6 ⟨rfl, hL6, hK6⟩; have hbz2 := hbz.out; have hmz2 := hmz.out; have hR6 := hR.out.at_ (hK6.block mr hmrl (by omega) (by omega) (by omega) (by omega) (by omega)); obtain ⟨w7, hr7, ho7, hg7⟩ := hR6.put (k := (i : Int)) (by show _ ∧ _; omega) (by omega) y2; replace hr7 := Lib.hid hr7; clear hbz2 hmz2)
       | (refine wpList_putM rfl _ _ _ 107 rfl (.map (some mr)) (.int .i64 (i : Int)) (.int .i64 y2) rfl rfl rfl w7 hr7.out ?_))
      have hbz2 := hbz.out
      have hmz2 := hmz.out
      go_roundw
      case rel => exact ⟨k + 1, _, by go_num, by omega, by rw [hnext.out]; exact (hL6.apart hg7 (by omega) (by omega) (by omega) (by omega) (by omega)).more (by omega), by rw [hnext.out, if_neg hyb]; exact ho7, by split <;> omega, (hK.out.trans hK6).fresh hg7 (by omega)⟩
      case measure => simp [intOf]; omega
    ·obtain rfl : (selF d t).length = k := by omega
     have hlay3 := hlay.out
     have hmz := hmrz.out
     have hbz := hbase.out
     have hEw : Ext w wr := hK.old hE02 (by omega) (by omega) (by omega) (by omega) (by omega)
     rw [List.take_of_length_le (by omega)] at hL hR
     have hres : LibAtR tp tn tc T r d t w (.returned (.tuple #[.pointer (some ⟨bb, 0, none⟩), .map (some mr)])) wr := ⟨base, bb, ms, ml, mh, _, mr, nn, rfl, hL, hR, hEw⟩
     replace hres := Lib.hid hres; clear hL hR hK hEw hmz hbz
     go_wp2
     go_ret2
     exact hres.out
end Go.Proofs.YtkjhbofbcmelgaaGreatDoor
