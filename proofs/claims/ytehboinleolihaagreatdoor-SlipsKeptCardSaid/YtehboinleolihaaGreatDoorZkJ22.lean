/- A text of slips is read, by copies. Conditions: sizes. A text of slips is read: the walk of copies.Read. Conditions: sizes. A text of slips is read as it was written: plain; what Read answers as a slice. Conditions: as each theorem says. Lists of slips that are equal. Conditions: sizes. -/
import Derived.Test.YtehboinleolihaaGreatDoorZkSlH
import Derived.Test.YtehboinleolihaaGreatDoorZkJ3
import Derived.Test.YtehboinleolihaaGreatDoorZkJ4
set_option linter.unusedSimpArgs false
set_option linter.unusedVariables false
namespace Go.Proofs.YtehboinleolihaaGreatDoor
open Go Go.RowKit
theorem sliInfo : (Tryz.prog.info? 79).map (fun i => (i.zero, i.size, i.bytes)) = some (some (.agg #[.string ⟨#[]⟩, .int .i64 0, .int .i64 0, .int .i64 0, .string ⟨#[]⟩, .int .i64 0, .string ⟨#[]⟩]), 7,80) := by kernel_rfl
theorem line_small {l : List UInt8} {x : SlipV} (h : lineF l = some x) (hl : l.length ≤ 1000000) : x.Small := by
 have h0 := getD_size (l := l) 0
 have h4 := getD_size (l := l) 4
 have h6 := getD_size (l := l) 6
 unfold lineF at h
 split at h
 ·cases h
 split at h
 ·cases h
 split at h
 ·split at h
  ·cases h; exact ⟨Nat.le_trans h0 hl, Nat.le_trans h4 hl, Nat.le_trans h6 hl⟩
  ·cases h
 ·split at h
  ·cases h; exact ⟨Nat.le_trans h0 hl, Nat.le_trans h4 hl, Nat.zero_le _⟩
  ·cases h
/-- The first line that is wrong. -/
def badAt (t : List UInt8) : Option Nat := (List.range (linesF t).length).find? (badL (linesF t) (endedF t))
theorem badAt_none {t : List UInt8} : badAt t = none ↔ ∀ i, i < (linesF t).length → badL (linesF t) (endedF t) i = false := by
 unfold badAt
 rw [List.find?_eq_none]
 constructor
 ·intro h i hi
  have := h i (List.mem_range.2 hi)
  cases hb : badL (linesF t) (endedF t) i with
  | false => rfl
  | true => exact absurd hb this
 ·intro h i hi e
  rw [h i (List.mem_range.1 hi)] at e
  cases e
theorem badAt_some {t : List UInt8} {k : Nat} (hk : k < (linesF t).length) (hz : ∀ i, i < k → badL (linesF t) (endedF t) i = false) (hb : badL (linesF t) (endedF t) k = true) : badAt t = some k := by
 unfold badAt
 rw [List.find?_range_eq_some]
 exact ⟨hb, List.mem_range.2 hk, fun j hj => by rw [hz j hj]; rfl⟩
/-- What Read answers: the slips, the line, the fault. -/
def readT (t : List UInt8) : List SlipV × Int × Int :=
 if 200000 < t.length then ([],0,2) else match badAt t with
  | some k => ([], (k : Int), 9)
  | none => if slipsF ((linesF t).filterMap lineF) = 0 then ((linesF t).filterMap lineF, 0,0) else ([],0, slipsF ((linesF t).filterMap lineF))
def ReadR (t : List UInt8) (w : World) (e : Ending) (w' : World) : Prop :=
 ∃ (p : Option Addr) (n c : Nat), e = .returned (.tuple #[.slice p n c, .int .i64 (readT t).2.1, .int .i64 (readT t).2.2]) ∧ (readT t).1.length = n ∧ n ≤ 200001 ∧ w'.ownsRow w.heap.size 79 7 (.slice p n c) n ((readT t).1.flatMap slipC) ∧ (∀ x ∈ (readT t).1, x.Small) ∧ Ext w w'
theorem readR_none {t : List UInt8} {i f : Int} (h : readT t = ([], i, f)) {w w' : World} (he : Ext w w') : ReadR t w (.returned (.tuple #[.slice none 0 0, .int .i64 i, .int .i64 f])) w' := by
 unfold ReadR
 rw [h]
 exact ⟨none, 0,0, rfl, rfl, by omega, World.ownsRow_nil _ _ _ _, (fun x hx => by cases hx), he⟩
theorem bad_of {t : List UInt8} {k : Nat} {x : ByteArray} (hx : (linesB t)[k]? = some x) (E : Bool) : badL (linesF t) E k = ((lineF x.data.toList).isNone || (!E && decide (k + 1 = (linesB t).length))) := by
 unfold badL
 rw [linesB_len, List.getD_eq_getElem?_getD, linesB_at hx]
 rfl
theorem line_bad {B : Nat} {s : ByteArray} {w : World} (hs : s.size ≤ 1000000) (hm : MaxL B w) (h : lineF s.data.toList = none) :
 Calls Tryz.prog 159 #[.string s] w fun e w' => ∃ x : SlipV, e = .returned (.tuple #[.agg #[.string x.by_, .int .i64 x.no, .int .i64 x.at_, .int .i64 x.kind, .string x.piece, .int .i64 x.copy, .string x.singer], .bool false]) ∧ Ext w w' :=
 (readLine_any B s w hs hm).mono fun e w' hh => by
   obtain ⟨⟨x, ok, he, ho⟩, hx⟩ := hh
   cases ok
   ·exact ⟨x, he, hx⟩
   ·rw [h] at ho; cases ho
theorem line_good {B : Nat} {s : ByteArray} {w : World} {x : SlipV} (hs : s.size ≤ 1000000) (hm : MaxL B w) (h : lineF s.data.toList = some x) :
 Calls Tryz.prog 159 #[.string s] w fun e w' => e = .returned (.tuple #[.agg #[.string x.by_, .int .i64 x.no, .int .i64 x.at_, .int .i64 x.kind, .string x.piece, .int .i64 x.copy, .string x.singer], .bool true]) ∧ Ext w w' :=
 (readLine_any B s w hs hm).mono fun e w' hh => by
   obtain ⟨⟨y, ok, he, ho⟩, hx⟩ := hh
   cases ok
   ·rw [h] at ho; cases ho
   ·rw [h] at ho; cases ho; exact ⟨he, hx⟩
end Go.Proofs.YtehboinleolihaaGreatDoor
namespace Go.Proofs.YtehboinleolihaaGreatDoor
open Go Go.RowKit
set_option maxRecDepth 100000 in
set_option maxHeartbeats 6400000 in
theorem read_any (B : Nat) (s : ByteArray) (w : World) (hs : s.size ≤ 1000000) (hm : MaxL B w) :
 Calls Tryz.prog 78 #[.string s] w (ReadR s.data.toList w) := by
 have hsl : s.data.toList.length = s.size := Array.length_toList
 by_cases hbig : 200000 < s.size
 ·have hres := readR_none (t := s.data.toList) (i := 0) (f := 2) (by unfold readT; rw [if_pos (by omega)]) (Ext.refl w)
  replace hres := Lib.hid hres; clear hsl hm
  go_enter Tryz.func78, Tryz.ntmps78
  go_wp2
  go_ret3
  exact hres.out
 have hln := lines_uni s B w (by omega) hm
 have hbadE : ∀ k x, (linesB s.data.toList)[k]? = some x → badL (linesF s.data.toList) (endedF s.data.toList) k = ((lineF x.data.toList).isNone || (!endedF s.data.toList && decide (k + 1 = (linesB s.data.toList).length))) := fun k x hx => bad_of hx _
 have hsz : ∀ (k : Nat) (x : ByteArray), (linesB s.data.toList)[k]? = some x → x.size ≤ 200000 := fun k x hx => by
  have h1 := linesF_size (List.mem_of_getElem? (linesB_at hx))
  have h2 : x.data.toList.length = x.size := Array.length_toList
  omega
 have hfm : ∀ k x y, (linesB s.data.toList)[k]? = some x → lineF x.data.toList = some y → ((linesF s.data.toList).take (k + 1)).filterMap lineF = ((linesF s.data.toList).take k).filterMap lineF ++ [y] := fun k x y hx hy => by
  rw [take_snocL (linesB_at hx), List.filterMap_append, List.filterMap_cons, hy]
  rfl
 have hLl := linesB_len s.data.toList
 have hLm := linesF_len s.data.toList
 have hnone : ∀ k w', k < (linesF s.data.toList).length → (∀ i, i < k → badL (linesF s.data.toList) (endedF s.data.toList) i = false) → badL (linesF s.data.toList) (endedF s.data.toList) k = true → Ext w w' → ReadR s.data.toList w (.returned (.tuple #[.slice none 0 0, .int .i64 (k : Int), .int .i64 9])) w' := fun k w' hk hz hb he =>
  readR_none (by unfold readT; rw [if_neg (by omega), badAt_some hk hz hb]) he
 have hall : (∀ i, i < (linesF s.data.toList).length → badL (linesF s.data.toList) (endedF s.data.toList) i = false) → readT s.data.toList = if slipsF ((linesF s.data.toList).filterMap lineF) = 0 then ((linesF s.data.toList).filterMap lineF, 0,0) else ([],0, slipsF ((linesF s.data.toList).filterMap lineF)) := fun h => by
  unfold readT
  rw [if_neg (by omega), badAt_none.2 h]
 obtain ⟨L, hL⟩ : ∃ L, L = linesB s.data.toList := ⟨_, rfl⟩
 obtain ⟨E, hE⟩ : ∃ E, E = endedF s.data.toList := ⟨_, rfl⟩
 rw [← hL, ← hE] at hln
 rw [← hL] at hLl
 simp only [← hL] at hbadE hsz hfm
 replace hln := Lib.hid hln; replace hbadE := Lib.hid hbadE; replace hsz := Lib.hid hsz; replace hfm := Lib.hid hfm; replace hnone := Lib.hid hnone; replace hall := Lib.hid hall; replace hE := Lib.hid hE
 have hLb : L.length ≤ 200001 := by omega
 replace hLl := Lib.hid hLl; replace hL := Lib.hid hL; clear hLm
 go_enter Tryz.func78, Tryz.ntmps78
 go_wp2_with (go_at_call 158; (with_reducible refine Calls.mono hln.out ?_); rintro e w1 ⟨p, rfl, hb1, hB1⟩)
 replace hB1 := Lib.hid hB1
 have hsz1 := hb1.size
 go_loopw [7,23] (fun v7 v23 wr => ∃ (k : Nat) (X : List SlipV) (v : Value), k ≤ L.length ∧ v7 = v ∧ v23 = .int .i64 k ∧ X.length = k ∧ wr.ownsRow w1.heap.size 79 7 v k (X.flatMap slipC) ∧ (∀ x ∈ X, x.Small) ∧ X = ((linesF s.data.toList).take k).filterMap lineF ∧ (∀ i, i < k → badL (linesF s.data.toList) (endedF s.data.toList) i = false) ∧ Ext w1 wr) (fun _ i _ => L.length - (intOf i).toNat)
 case atStart => exact ⟨0,[], _, Nat.zero_le _, rfl, rfl, rfl, World.ownsRow_nil _ _ _ _, (fun x hx => by cases hx), by simp, (fun i hi => absurd hi (Nat.not_lt_zero _)), Ext.refl _⟩
 case round =>
  obtain ⟨k, X, v, hk, rfl, rfl, hX, hown, hsm, hXe, hgood, he⟩ := hrel
  replace hXe := Lib.hid hXe; replace hsm := Lib.hid hsm; replace hgood := Lib.hid hgood
  by_cases hlt : k < L.length
  ·obtain ⟨x, hx⟩ := getD_some (rfl : L.length = L.length) hlt
   obtain ⟨rfl, hB⟩ := hB1.out (by omega)
   have hBr := hB.ext he
   have hc := cell_of_row hBr hx
   have hxs := hsz.out k x hx
   have hbe := hbadE.out k x hx
   have hmr := hm.ext (hb1.trans he)
   have hgw : w.heap.size < wr.heap.size := hBr.lt
   replace hx := Lib.hid hx; replace hbe := Lib.hid hbe; replace hBr := Lib.hid hBr
   cases hlf : lineF x.data.toList with
   | none =>
     have hrl := line_bad (by omega) hmr hlf
     have hbad : badL (linesF s.data.toList) (endedF s.data.toList) k = true := by rw [hbe.out, hlf]; rfl
     have hres := fun w' hw' => hnone.out k w' (by have := hLl.out; omega) hgood.out hbad hw'
     replace hrl := Lib.hid hrl; replace hres := Lib.hid hres; replace hlf := Lib.hid hlf; clear hbad hown
     go_wp2_with (go_at_call 159; (with_reducible refine Calls.mono hrl.out ?_); rintro e w2 ⟨y, rfl, hb2⟩)
     go_ret3
     exact hres.out _ ((((hb1.trans he).trans hb2)).alloc _)
   | some y =>
     have hrl := line_good (by omega) hmr hlf
     have hysm := line_small hlf (by have : x.data.toList.length = x.size := Array.length_toList; omega)
     have hfk := hfm.out k x y hx.out hlf
     replace hrl := Lib.hid hrl; replace hfk := Lib.hid hfk
     by_cases hend : E = false ∧ k + 1 = L.length
     ·obtain ⟨hE0, hk1⟩ := hend
      have hbad : badL (linesF s.data.toList) (endedF s.data.toList) k = true := by rw [hbe.out, ← hE.out, hE0, hlf]; simpa using hk1
      have hres := fun w' hw' => hnone.out k w' (by have := hLl.out; omega) hgood.out hbad hw'
      have hd1 : decide ((k : Int) = (L.length : Int) - 1) = true := by simp; omega
      have hd2 : ((k : Int) == (L.length : Int) - 1) = true := by simp; omega
      replace hk1 := Lib.hid hk1; replace hres := Lib.hid hres; replace hlf := Lib.hid hlf; replace hE := Lib.hid hE
      subst hE0
      clear hbad hown
      go_wp2_with (go_at_call 159; (with_reducible refine Calls.mono hrl.out ?_); rintro e w2 ⟨rfl, hb2⟩)
      go_ret3
      exact hres.out _ ((((hb1.trans he).trans hb2)).alloc _)
     ·have hgk : badL (linesF s.data.toList) (endedF s.data.toList) k = false := by
       rw [hbe.out, ← hE.out, hlf]
       cases E
       ·simpa using fun h => hend ⟨rfl, h⟩
       ·rfl
      have hgood2 : ∀ i, i < k + 1 → badL (linesF s.data.toList) (endedF s.data.toList) i = false := fun i hi => by
       rcases Nat.lt_succ_iff_lt_or_eq.1 hi with h | rfl
       ·exact hgood.out i h
       ·exact hgk
      replace hlf := Lib.hid hlf; replace hgood2 := Lib.hid hgood2; replace hown := Lib.hid hown
      have hstep : ∀ v' w', w'.ownsRow w1.heap.size 79 7 v' (k + 1) (X.flatMap slipC ++ slipC y) → Ext w1 w' → ∃ (k' : Nat) (X' : List SlipV) (v9 : Value), k' ≤ L.length ∧ v' = v9 ∧ (Value.int .i64 ((k : Int) + 1)) = .int .i64 k' ∧ X'.length = k' ∧ w'.ownsRow w1.heap.size 79 7 v9 k' (X'.flatMap slipC) ∧ (∀ x ∈ X', x.Small) ∧ X' = ((linesF s.data.toList).take k').filterMap lineF ∧ (∀ i, i < k' → badL (linesF s.data.toList) (endedF s.data.toList) i = false) ∧ Ext w1 w' := fun v' w' ho he' =>
       ⟨k + 1, X ++ [y], v', by omega, rfl, by simp, by simp [hX], by rw [flat_snoc]; exact ho, (fun z hz => by
        rcases List.mem_append.1 hz with h | h
        ·exact hsm.out z h
        ·obtain rfl := List.mem_singleton.1 h; exact hysm), by rw [hfk.out, ← hXe.out], hgood2.out, he'⟩
      replace hstep := Lib.hid hstep; replace hysm := Lib.hid hysm
      have hkb : k ≤ 200001 := by omega
      cases hEE : E
      ·have hk1 : ¬ k + 1 = L.length := fun h => hend ⟨hEE, h⟩
       have hd1 : decide ((k : Int) = (L.length : Int) - 1) = false := by simp; omega
       have hd2 : ((k : Int) == (L.length : Int) - 1) = false := by simp; omega
       have hd3 : ¬ (k : Int) = (L.length : Int) - 1 := by omega
       subst hEE
       go_wp2_with (first
        | (go_at_call 159; (with_reducible refine Calls.mono hrl.out ?_); rintro e w2 ⟨rfl, hb2⟩; have hown2 := ((own_ext hb2 hown.out).alloc (.cells (slipC y).toArray 79)).alloc (.cells (slipC y).toArray 79); have he2 := ((he.trans hb2).alloc (.cells (slipC y).toArray 79)).alloc (.cells (slipC y).toArray 79))
        | (at_builtin; go_loud (refine wp_app1 _ (.tmp 47) (.tmp 49) 31 79 7 80 _ rfl rfl Tryz.underlying31 sliInfo rfl (by decide) (by decide) w1.heap.size _ k _ rfl hown2 _ (slipC y) rfl rfl (Blk.new' (by simp)) (slipC_one _) (by omega) (by exact he2.size) ?_; intro v' w6 hown6 hgrow6 _; have he6 := he2.app hown2 (Nat.le_refl _) hgrow6)))
       go_roundw
       case rel => exact hstep.out _ _ hown6 he6
       case measure => simp [intOf]; omega
      ·subst hEE
       go_wp2_with (first
        | (go_at_call 159; (with_reducible refine Calls.mono hrl.out ?_); rintro e w2 ⟨rfl, hb2⟩; have hown2 := ((own_ext hb2 hown.out).alloc (.cells (slipC y).toArray 79)).alloc (.cells (slipC y).toArray 79); have he2 := ((he.trans hb2).alloc (.cells (slipC y).toArray 79)).alloc (.cells (slipC y).toArray 79))
        | (at_builtin; go_loud (refine wp_app1 _ (.tmp 47) (.tmp 49) 31 79 7 80 _ rfl rfl Tryz.underlying31 sliInfo rfl (by decide) (by decide) w1.heap.size _ k _ rfl hown2 _ (slipC y) rfl rfl (Blk.new' (by simp)) (slipC_one _) (by omega) (by exact he2.size) ?_; intro v' w6 hown6 hgrow6 _; have he6 := he2.app hown2 (Nat.le_refl _) hgrow6)))
       go_roundw
       case rel => exact hstep.out _ _ hown6 he6
       case measure => simp [intOf]; omega
  ·obtain rfl : k = L.length := by omega
   have htk : X = (linesF s.data.toList).filterMap lineF := by rw [hXe.out, hLl.out, List.take_length]
   have hR := hall.out (fun i hi => hgood.out i (by rw [hLl.out]; exact hi))
   rw [← htk] at hR
   obtain ⟨q, c, rfl, hS⟩ := slc_of_own slipC_len hown (by decide) (by omega)
   have hck := checkSlips_any q L.length c X wr hS.1 hsm.out (by omega)
   have hend : ∀ w', Ext wr w' → Ext w w' := fun w' h => hb1.trans (he.trans h)
   replace hend := Lib.hid hend; clear htk
   by_cases hq : slipsF X = 0
   ·rw [if_pos hq] at hR
    rw [hq] at hck
    have hres : ∀ w', Ext wr w' → ReadR s.data.toList w (.returned (.tuple #[.slice q L.length c, .int .i64 0, .int .i64 0])) w' := fun w' h => by
     unfold ReadR
     rw [hR]
     exact ⟨q, L.length, c, rfl, hX, hLb, own_low (own_ext h hown) hsz1, hsm.out, hend.out w' h⟩
    replace hres := Lib.hid hres; replace hck := Lib.hid hck; replace hR := Lib.hid hR; replace hown := Lib.hid hown; replace hX := Lib.hid hX; replace hq := Lib.hid hq
    go_wp2_with (go_at_call 73; (with_reducible refine Calls.mono hck.out ?_); rintro e w2 ⟨rfl, hb2⟩)
    go_ret3
    exact hres.out _ hb2
   ·rw [if_neg hq] at hR
    have hres := fun w' (h : Ext wr w') => readR_none hR (hend.out w' h)
    generalize slipsF X = f at *
    replace hres := Lib.hid hres; replace hck := Lib.hid hck; replace hR := Lib.hid hR; replace hown := Lib.hid hown; replace hX := Lib.hid hX
    go_wp2_with (go_at_call 73; (with_reducible refine Calls.mono hck.out ?_); rintro e w2 ⟨rfl, hb2⟩)
    go_ret3
    exact hres.out _ hb2
end Go.Proofs.YtehboinleolihaaGreatDoor
namespace Go.Proofs.YtehboinleolihaaGreatDoor
open Go Go.RowKit
theorem readT_text {V : List SlipV} (h0 : slipsF V = 0) (hl : V.length ≤ 14) : readT (textV V) = (V, 0,0) ∧ textR V = (⟨(textV V).toArray⟩, 0) ∧ (textV V).length ≤ 4200 := by
 have hok : ∀ x ∈ V, SlipOk x := fun x hx => slip_ok ((slipsF_good h0).2 x hx)
 have hlen := text_len hok
 have hb : badAt (textV V) = none := badAt_none.2 fun i hi => (good_text hok i hi).1
 have hf : (linesF (textV V)).filterMap lineF = V := by
  rw [(lines_text hok).1]
  clear hl h0 hlen hb
  induction V with
  | nil => rfl
  | cons x V ih =>
    rw [List.map_cons, List.filterMap_cons, line_read (hok x List.mem_cons_self)]
    simp only
    rw [ih fun y hy => hok y (List.mem_cons_of_mem _ hy)]
 refine ⟨?_, ?_, by omega⟩
 ·unfold readT
  rw [if_neg (by omega), hb]
  simp only [hf]
  rw [if_pos h0]
 ·unfold textR
  rw [if_pos h0, if_neg (by omega)]
theorem ReadR.slc {t : List UInt8} {w w' : World} {e : Ending} (h : ReadR t w e w') : ∃ (p : Option Addr) (n c : Nat), e = .returned (.tuple #[.slice p n c, .int .i64 (readT t).2.1, .int .i64 (readT t).2.2]) ∧ (readT t).1.length = n ∧ n ≤ 200001 ∧ Slc 7 slipC w' p n c (readT t).1 ∧ (∀ x ∈ (readT t).1, x.Small) ∧ Ext w w' := by
 obtain ⟨p, n, c, he, hl, hn, ho, hs, hx⟩ := h
 obtain ⟨p', c', e', hS⟩ := slc_of_own slipC_len ho (by decide) (by omega)
 cases e'
 exact ⟨p, n, c, he, hl, hn, hS, hs, hx⟩
end Go.Proofs.YtehboinleolihaaGreatDoor
namespace Go.Proofs.YtehboinleolihaaGreatDoor
open Go Go.RowKit
set_option maxRecDepth 100000 in
set_option maxHeartbeats 3200000 in
theorem eqSli_any (p q : Option Addr) (n c d : Nat) (xs : List SlipV) (w : World) (h1 : Slc 7 slipC w p n c xs) (h2 : Slc 7 slipC w q n d xs) (hn : n ≤ 300000) :
 Calls Tryz.prog 65 #[.slice p n c, .slice q n d] w fun e w' => e = .returned (.bool true) ∧ Ext w w' := by
 obtain ⟨hl, hp⟩ := slcC h1
 obtain ⟨-, hq⟩ := slcC h2
 subst hl
 replace hp := Lib.hid hp; replace hq := Lib.hid hq; clear h1 h2
 go_enter Tryz.func65, Tryz.ntmps65
 go_wp2
 go_loopw [13] (fun i wr => ∃ k : Nat, k ≤ xs.length ∧ i = .int .i64 k ∧ Ext w wr) (fun i _ => xs.length - (intOf i).toNat)
 case atStart => exact ⟨0, Nat.zero_le _, rfl, Ext.refl _⟩
 case round =>
  obtain ⟨k, hk, rfl, hE⟩ := hrel
  by_cases hlt : k < xs.length
  ·obtain ⟨x, hx⟩ := getD_some (rfl : xs.length = xs.length) hlt
   rcases hp.out with ⟨-, e⟩ | ⟨b1, o1, rfl, hb1, hE1⟩
   ·rw [e] at hx; cases hx
   rcases hq.out with ⟨-, e⟩ | ⟨b2, o2, rfl, hb2, hE2⟩
   ·rw [e] at hx; cases hx
   obtain ⟨c1, c2, c3, c4, c5, c6, c7⟩ := (hE1.ext hE hb1).slip hx
   obtain ⟨d1, d2, d3, d4, d5, d6, d7⟩ := (hE2.ext hE hb2).slip hx
   have l1 := Nat.lt_of_lt_of_le hb1 hE.size
   have l2 := Nat.lt_of_lt_of_le hb2 hE.size
   have hkI : (k : Int) < xs.length := by omega
   clear hx hE1 hE2
   go_upto_region 6 with fail
   refine wp_region_facts [] [([],false,false),([],false,false),([0,1],false,false),([0,1,2],false,false),([],false,false),([],false,false),([4,5],false,false),([4,5,6],false,false),([0,1,2,3,4,5,6,7],false,false)] (Ext) Ext (fun _ => True) (by kernel_rfl) (by kernel_rfl) Ext.refl (fun _ _ _ => Ext.trans) (fun _ _ h => h) (fun _ _ h => h.size) (fun _ _ h _ => h) trivial ?_
   dsimp only [List.length_cons, List.length_nil, List.drop_succ_cons, List.drop_zero, List.drop_nil]
   refine fq 0 rfl rfl rfl cK rfl rfl ?_; apply Exists.intro; constructor
   ·intro sv w' hw' hfa
    refine ⟨rfl, ?_⟩; simp only [putsL]; change qT _; simp only [qT, Act.put, sIA, sCS, sCZ]; simp [go_sem, quietTo, Ext.refl]; all_goals rfl
   refine fq 1 rfl rfl rfl cK rfl rfl ?_; apply Exists.intro; constructor
   ·intro sv w' hw' hfa
    refine ⟨rfl, ?_⟩; simp only [putsL]; change qT _; simp only [qT, Act.put, sIA, sCS, sCZ]; simp [go_sem, quietTo, Ext.refl]; all_goals rfl
   refine fq 2 rfl rfl rfl cK rfl rfl ?_; apply Exists.intro; constructor
   ·rintro sv w' hw' ⟨(f0 : sv 0 = _), (f1 : sv 1 = _), -⟩; (try dsimp only at f0 f1)
    have hk9 := (Ext.refl wr).drew.trans hw'; obtain ⟨hc, hff, hz9⟩ := hk9.walk; have y1 := (hc _ _ l1).trans c1; have y2 := (hc _ _ l1).trans c2; have y3 := (hc _ _ l1).trans c3; have y4 := (hc _ _ l1).trans c4; have y5 := (hc _ _ l1).trans c5; have y6 := (hc _ _ l1).trans c6; have y7 := (hc _ _ l1).trans c7; have z1 := (hc _ _ l2).trans d1; have z2 := (hc _ _ l2).trans d2; have z3 := (hc _ _ l2).trans d3; have z4 := (hc _ _ l2).trans d4; have z5 := (hc _ _ l2).trans d5; have z6 := (hc _ _ l2).trans d6; have z7 := (hc _ _ l2).trans d7
    refine ⟨rfl, ?_⟩; simp only [putsL]; change qT (pT (pT _ 17 (sv 1)) 16 (sv 0)); simp only [qT, pT, Act.put, sIA, sCS, sCZ]; simp [go_sem, quietTo, Ext.refl, ↓IntWalk.iteOmega, f0, f1, hkI]; (all_goals try simp (disch := omega) only [IntWalk.i64_in]); all_goals rfl
   refine fq 3 rfl rfl rfl cK rfl rfl ?_; apply Exists.intro; constructor
   ·rintro sv w' hw' ⟨_, _, (f2 : sv 2 = _), -⟩; (try dsimp only at f2)
    have hk9 := (Ext.refl wr).drew.trans hw'; obtain ⟨hc, hff, hz9⟩ := hk9.walk; have y1 := (hc _ _ l1).trans c1; have y2 := (hc _ _ l1).trans c2; have y3 := (hc _ _ l1).trans c3; have y4 := (hc _ _ l1).trans c4; have y5 := (hc _ _ l1).trans c5; have y6 := (hc _ _ l1).trans c6; have y7 := (hc _ _ l1).trans c7; have z1 := (hc _ _ l2).trans d1; have z2 := (hc _ _ l2).trans d2; have z3 := (hc _ _ l2).trans d3; have z4 := (hc _ _ l2).trans d4; have z5 := (hc _ _ l2).trans d5; have z6 := (hc _ _ l2).trans d6; have z7 := (hc _ _ l2).trans d7
    refine ⟨rfl, ?_⟩; simp only [putsL]; change qT (pT (pT (pT _ 18 (sv 2)) 17 (sv 1)) 16 (sv 0)); simp only [qT, pT, Act.put, sIA, sCS, sCZ]; simp [go_sem, quietTo, Ext.refl, ↓IntWalk.iteOmega, f2, y1, y2, y3, y4, y5, y6, y7]; (all_goals try simp (disch := omega) only [IntWalk.i64_in]); all_goals rfl
   refine fq 4 rfl rfl rfl cK rfl rfl ?_; apply Exists.intro; constructor
   ·intro sv w' hw' hfa
    refine ⟨rfl, ?_⟩; simp only [putsL]; change qT _; simp only [qT, Act.put, sIA, sCS, sCZ]; simp [go_sem, quietTo, Ext.refl]; all_goals rfl
   refine fq 5 rfl rfl rfl cK rfl rfl ?_; apply Exists.intro; constructor
   ·intro sv w' hw' hfa
    refine ⟨rfl, ?_⟩; simp only [putsL]; change qT _; simp only [qT, Act.put, sIA, sCS, sCZ]; simp [go_sem, quietTo, Ext.refl]; all_goals rfl
   refine fq 6 rfl rfl rfl cK rfl rfl ?_; apply Exists.intro; constructor
   ·rintro sv w' hw' ⟨(f4 : sv 4 = _), (f5 : sv 5 = _), -⟩; (try dsimp only at f4 f5)
    have hk9 := (Ext.refl wr).drew.trans hw'; obtain ⟨hc, hff, hz9⟩ := hk9.walk; have y1 := (hc _ _ l1).trans c1; have y2 := (hc _ _ l1).trans c2; have y3 := (hc _ _ l1).trans c3; have y4 := (hc _ _ l1).trans c4; have y5 := (hc _ _ l1).trans c5; have y6 := (hc _ _ l1).trans c6; have y7 := (hc _ _ l1).trans c7; have z1 := (hc _ _ l2).trans d1; have z2 := (hc _ _ l2).trans d2; have z3 := (hc _ _ l2).trans d3; have z4 := (hc _ _ l2).trans d4; have z5 := (hc _ _ l2).trans d5; have z6 := (hc _ _ l2).trans d6; have z7 := (hc _ _ l2).trans d7
    refine ⟨rfl, ?_⟩; simp only [putsL]; change qT (pT (pT _ 21 (sv 5)) 20 (sv 4)); simp only [qT, pT, Act.put, sIA, sCS, sCZ]; simp [go_sem, quietTo, Ext.refl, ↓IntWalk.iteOmega, f4, f5, hkI]; (all_goals try simp (disch := omega) only [IntWalk.i64_in]); all_goals rfl
   refine fq 7 rfl rfl rfl cK rfl rfl ?_; apply Exists.intro; constructor
   ·rintro sv w' hw' ⟨_, _, (f6 : sv 6 = _), -⟩; (try dsimp only at f6)
    have hk9 := (Ext.refl wr).drew.trans hw'; obtain ⟨hc, hff, hz9⟩ := hk9.walk; have y1 := (hc _ _ l1).trans c1; have y2 := (hc _ _ l1).trans c2; have y3 := (hc _ _ l1).trans c3; have y4 := (hc _ _ l1).trans c4; have y5 := (hc _ _ l1).trans c5; have y6 := (hc _ _ l1).trans c6; have y7 := (hc _ _ l1).trans c7; have z1 := (hc _ _ l2).trans d1; have z2 := (hc _ _ l2).trans d2; have z3 := (hc _ _ l2).trans d3; have z4 := (hc _ _ l2).trans d4; have z5 := (hc _ _ l2).trans d5; have z6 := (hc _ _ l2).trans d6; have z7 := (hc _ _ l2).trans d7
    refine ⟨rfl, ?_⟩; simp only [putsL]; change qT (pT (pT (pT _ 22 (sv 6)) 21 (sv 5)) 20 (sv 4)); simp only [qT, pT, Act.put, sIA, sCS, sCZ]; simp [go_sem, quietTo, Ext.refl, ↓IntWalk.iteOmega, f6, z1, z2, z3, z4, z5, z6, z7]; (all_goals try simp (disch := omega) only [IntWalk.i64_in]); all_goals rfl
   refine fq 8 rfl rfl rfl cK rfl rfl ?_; apply Exists.intro; constructor
   ·rintro sv w' hw' ⟨_, _, _, (f3 : sv 3 = _), _, _, _, (f7 : sv 7 = _), -⟩; (try dsimp only at f3 f7)
    refine ⟨rfl, ?_⟩; simp only [putsL]; change qT (pT (pT (pT (pT (pT (pT (pT (pT _ 23 (sv 7)) 22 (sv 6)) 21 (sv 5)) 20 (sv 4)) 19 (sv 3)) 18 (sv 2)) 17 (sv 1)) 16 (sv 0)); simp only [qT, pT, Act.put, sIA, sCS, sCZ]; simp [go_sem, quietTo, Ext.refl, ↓IntWalk.iteOmega, f3, f7]; (all_goals try simp (disch := omega) only [IntWalk.i64_in]); all_goals rfl
   refine fac_nil fun xq wrq herq hfrq hcrq holdq hapq => ?_
   obtain ⟨(f0 : xq 0 = _), (f1 : xq 1 = _), (f2 : xq 2 = _), (f3 : xq 3 = _), (f4 : xq 4 = _), (f5 : xq 5 = _), (f6 : xq 6 = _), (f7 : xq 7 = _), (f8 : xq 8 = _), -⟩ := hfrq; (try dsimp only at f0 f1 f2 f3 f4 f5 f6 f7 f8)
   change wpList _ _ _ _ (pT (pT (pT (pT (pT (pT (pT (pT (pT _ 16 (xq 0)) 17 (xq 1)) 18 (xq 2)) 19 (xq 3)) 20 (xq 4)) 21 (xq 5)) 22 (xq 6)) 23 (xq 7)) 24 (xq 8)) _
   simp only [putsL, Nat.reduceAdd, List.drop_succ_cons, List.drop_zero, List.drop_nil, pT, Act.put, sIA, sCS, sCZ]
   try simp only [f0, f1, f2, f3, f4, f5, f6, f7, f8]
   clear f0 f1 f2 f3 f4 f5 f6 f7 f8; clear holdq hapq
   go_wp2
   go_roundw
   case rel => exact ⟨k + 1, by omega, by go_num, hE.trans ((Ext.refl _).drew.trans herq)⟩
   case measure => simp [intOf]; omega
  ·obtain rfl : k = xs.length := by omega
   go_wp2
   go_ret
   exact ⟨rfl, hE⟩
end Go.Proofs.YtehboinleolihaaGreatDoor
