/- Slips of two lists are merged: the walk. Conditions: sizes. -/
import Derived.Test.YtehboinleolihaaGreatDoorCzMgB
import Derived.Test.YtehboinleolihaaGreatDoorCzJ31
import Derived.Test.YtehboinleolihaaGreatDoorCzJ13
import Derived.Shelf.SlSortCmp.NoneTotal
set_option linter.unusedSimpArgs false
set_option linter.unusedVariables false
namespace Go.Proofs.YtehboinleolihaaGreatDoor
open Go Go.RowKit Go.Maps Go.Sort
/-! ### the sort -/
theorem ltS_iff (a b : SlipV) : ltOf sliO a b = true ↔ sliLt a b := by
 rw [← sliLt_iff]
 unfold ltOf
 exact decide_eq_true_iff
theorem sliLt_left {a b c : SlipV} (e : a.by_ = b.by_ ∧ a.no = b.no) (h : sliLt a c) : sliLt b c := by
 unfold sliLt at h ⊢
 rw [← e.1, ← e.2]
 exact h
theorem sli_swo : SWO (ltOf sliO) where
 irrefl x := by
  rw [← Bool.not_eq_true, ltS_iff]
  exact fun h => sliLt_asym h h
 trans x y z h1 h2 := by
  rw [ltS_iff] at *
  exact sliLt_trans h1 h2
 ntrans x y z h1 h2 := by
  rw [← Bool.not_eq_true, ltS_iff] at *
  intro h
  rcases sliLt_tri x y with k | k | k
  ·exact h1 k
  ·exact h2 (sliLt_trans k h)
  ·exact h2 (sliLt_left k h)
theorem sortS_of {P : List SlipV} (hdis : Diff P) {d : Array SlipV} (hp : PermIn 0 P.length P.toArray d) (hs : SortedIn (ltOf sliO) 0 P.length d) : d.toList.Perm P ∧ d.toList.Pairwise sliLt := by
 have hsz : d.size = P.length := by have := hp.1; simpa using this
 have hperm : d.toList.Perm P := by
  have h9 := hp.2.2
  have e2 : d.extract 0 P.length = d := by simp [← hsz]
  rw [e2] at h9
  simpa using h9
 refine ⟨hperm, ?_⟩
 have hdd := diff_rise hdis hperm
 unfold Diff at hdd
 rw [List.pairwise_iff_getElem] at hdd ⊢
 intro i j hi hj hij
 have h1 := hdd i j hi hj hij
 have h9 := hs i j (Nat.zero_le _) hij (by simp at hj; omega)
 rw [← Bool.not_eq_true, ltS_iff] at h9
 simp at hi hj
 rw [getElem!_pos d j hj, getElem!_pos d i hi] at h9
 rcases sliLt_tri d[i] d[j] with h | h | h
 ·exact h
 ·exact absurd h h9
 ·unfold sameK at h1
  simp only [Array.getElem_toList, decide_eq_false_iff_not] at h1
  exact absurd h h1
set_option maxRecDepth 100000 in
theorem sortSlip_any {w : World} {base g n cap : Nat} {L : List SlipV} (h : w.ownsRow base 79 7 (.slice (some ⟨g, 0, none⟩) n cap) n (L.flatMap slipC)) (hn : L.length = n) (hn1 : n ≤ 100000) (hok : Diff L) :
 Calls Tryz.prog 140 #[.slice (some ⟨g, 0, none⟩) n cap, .func (.func 141) #[] #[]] w fun e w' => e = .returned (.tuple #[]) ∧ ∃ M : List SlipV, M.Perm L ∧ M.Pairwise sliLt ∧ w'.ownsRow base 79 7 (.slice (some ⟨g, 0, none⟩) n cap) n (M.flatMap slipC) ∧ ∀ a : World, Ext a w → a.heap.size ≤ g → Ext a w' := by
 have hgl := (h.lt g rfl).2
 subst hn
 have hs := AnyQ.slices_SortFunc Tryz.lsfSlip 7 Tryz.isAgg79 Tryz.sizeOf79 slipC slipC_len slipC_one sliO sli_swo 141 #[] g 0 cap L.toArray w (fun args u => by rfl) (fun m os dk _ x y => sliOwnG_any x y _) (holdsK_own slipC_len h) hgl (by simp; omega)
 refine hs.mono fun e w' ⟨he, d', q, os, hp, hso, hw⟩ => ?_
 obtain ⟨hpm, hri⟩ := sortS_of hok (by simpa using hp) (by simpa using hso)
 refine ⟨he, d'.toList, hpm, hri, ?_, ?_⟩
 ·rw [hw]
  exact own_sortK slipC_len h hpm.length_eq
 ·intro a ha hg
  rw [hw]
  exact ext_sortK ha hg
theorem sortNoneS_any (p : Option Addr) (cap : Nat) (fv : Value) (w : World) :
 Calls Tryz.prog 140 #[.slice p 0 cap, fv] w fun e w' => e = .returned (.tuple #[]) ∧ w = w' := (AnyF.slices_SortFunc_none Tryz.lsfSlip _ _ _ _).mono (fun _ _ h => And.intro h.1 h.2.symm)
/-! ### the merge -/
/-- What the map of slips so far holds. -/
def seenS (o : List SlipV) : IdV → Option SlipV := fun k => o.find? fun y => decide ((y.by_, y.no) = k)
theorem seen_look (o : List SlipV) (x : SlipV) : seenS o (x.by_, x.no) = o.find? fun y => sameK y x := by
 unfold seenS sameK
 congr 1
 funext y
 simp
theorem seen_put {o : List SlipV} {x : SlipV} (h : (o.find? fun y => sameK y x) = none) : updK (seenS o) (x.by_, x.no) x = seenS (o ++ [x]) := by
 rw [← seen_look] at h
 funext k
 unfold updK
 unfold seenS at h ⊢
 rw [List.find?_append]
 by_cases e : k = (x.by_, x.no)
 ·subst e
  rw [if_pos rfl, h]
  simp
 ·rw [if_neg e]
  have e2 : ([x].find? fun y => decide ((y.by_, y.no) = k)) = none := by
   rw [List.find?_cons_of_neg (by simpa using fun h => e h.symm)]; rfl
  rw [e2]
  simp
def MrgV (A B M : List SlipV) (f : Int) : Prop :=
 if slipsF A ≠ 0 then M = [] ∧ f = slipsF A else if slipsF B ≠ 0 then M = [] ∧ f = slipsF B else
  match mrgF [] (A ++ B) with
  | none => M = [] ∧ f = 13
  | some o => ∃ S : List SlipV, S.Perm o ∧ S.Pairwise sliLt ∧ ((slipsF S = 0 ∧ M = S ∧ f = 0) ∨ (slipsF S ≠ 0 ∧ M = [] ∧ f = slipsF S))
/-- What a merge answers. -/
def MrgR (A B : List SlipV) (w : World) (e : Ending) (w' : World) : Prop := ∃ (v : Value) (M : List SlipV) (f : Int), e = .returned (.tuple #[v, .int .i64 f]) ∧ w'.ownsRow w.heap.size 79 7 v M.length (M.flatMap slipC) ∧ MrgV A B M f ∧ Ext w w'
theorem mrg_none {A B : List SlipV} {w w' : World} {f : Int} (h : MrgV A B [] f) (hx : Ext w w') : MrgR A B w (.returned (.tuple #[.slice none 0 0, .int .i64 f])) w' := ⟨_, [], f, rfl, World.ownsRow_nil _ _ _ _, h, hx⟩
theorem ExtS.turned {s : Nat} {a b c : World} (h : ExtS s a b) (hg : b.grownBy c (some s)) : ExtS s a c := h.trans ⟨hg.os, hg.tape, hg.output, hg.size, fun k hk hn => hg.block k hk fun e => hn (by simpa using e)⟩
theorem mrg_bounds {A B : List SlipV} (hA : slipsF A = 0) (hB : slipsF B = 0) (sA : ∀ x ∈ A, x.Small) (sB : ∀ x ∈ B, x.Small) {x : SlipV} (hx : x ∈ A ++ B) : x.Small ∧ okSN (x.by_, x.no) := by
 have h : slipE x = 0 := (List.mem_append.1 hx).elim ((slipsF_good hA).2 x) ((slipsF_good hB).2 x)
 have hs : x.Small := (List.mem_append.1 hx).elim (sA x) (sB x)
 have h1 := (slip_ok h).no
 exact ⟨hs, hs.1, by show _ ≤ x.no; omega, by show x.no ≤ _; omega⟩
theorem seen_some {o : List SlipV} {x y : SlipV} (h : (o.find? fun y => sameK y x) = some y) : y ∈ o ∧ y.by_ = x.by_ ∧ y.no = x.no := by
 have h1 := List.find?_some h
 unfold sameK at h1
 simp only [decide_eq_true_eq] at h1
 exact ⟨List.mem_of_find?_eq_some h, h1⟩
theorem diff_snoc {o : List SlipV} {x : SlipV} (hd : Diff o) (hn : (o.find? fun y => sameK y x) = none) : Diff (o ++ [x]) :=
 List.pairwise_append.2 ⟨hd, List.pairwise_singleton _ _, fun a ha b hb => by rw [List.mem_singleton.1 hb]; simpa using List.find?_eq_none.1 hn a ha⟩
set_option maxRecDepth 100000 in
set_option maxHeartbeats 12800000 in
theorem merge_any (p q : Option Addr) (n c m d : Nat) (A B : List SlipV) (w : World) (hA : Slc 7 slipC w p n c A) (hB : Slc 7 slipC w q m d B) (hsA : ∀ x ∈ A, x.Small) (hsB : ∀ x ∈ B, x.Small) (hn : n ≤ 10000) (hm : m ≤ 10000) :
 Calls Tryz.prog 61 #[.slice p n c, .slice q m d] w (MrgR A B w) := by
 have hAl := hA.1.1
 have hBl := hB.1.1
 have hG := Blk.new' (w := w) (g := w.heap.size) (t := 31) (cs := #[.slice p n c, .slice q m d]) rfl
 have hE0 : Ext w (w.alloc (.cells #[.slice p n c, .slice q m d] 31)) := (Ext.refl w).alloc _
 have hckA := fun u (hu : Ext w u) => checkSlips_any p n c A u (hA.1.ext hu) hsA (by omega)
 have hckB := fun u (hu : Ext w u) => checkSlips_any q m d B u (hB.1.ext hu) hsB (by omega)
 have hresA : slipsF A ≠ 0 → ∀ w', Ext w w' → MrgR A B w (.returned (.tuple #[.slice none 0 0, .int .i64 (slipsF A)])) w' := fun h w' hw => mrg_none (by unfold MrgV; rw [if_pos h]; exact ⟨rfl, rfl⟩) hw
 have hresB : slipsF A = 0 → slipsF B ≠ 0 → ∀ w', Ext w w' → MrgR A B w (.returned (.tuple #[.slice none 0 0, .int .i64 (slipsF B)])) w' := fun h0 h w' hw => mrg_none (by unfold MrgV; rw [if_neg (by simpa using h0), if_pos h]; exact ⟨rfl, rfl⟩) hw
 replace hckA := Lib.hid hckA; replace hckB := Lib.hid hckB; replace hresA := Lib.hid hresA; replace hresB := Lib.hid hresB; replace hG := Lib.hid hG
 go_enter Tryz.func61, Tryz.ntmps61
 go_wp2
 go_loopw [21] (fun v wr => ∃ k : Nat, v = .int .i64 k ∧ (k = 0 ∨ (k = 1 ∧ slipsF A = 0) ∨ (k = 2 ∧ slipsF A = 0 ∧ slipsF B = 0)) ∧ Ext (w.alloc (.cells #[.slice p n c, .slice q m d] 31)) wr) (fun v _ => 2 - (intOf v).toNat)
 case atStart => exact ⟨0, rfl, .inl rfl, Ext.refl _⟩
 case round =>
  obtain ⟨k, rfl, hk, he⟩ := hrel
  have hG1 := hG.out.ext he
  obtain ⟨x1, x2⟩ := hG1.walk
  have y0 := x1 0
  have y1 := x1 1
  have ly := hG1.lt
  have hEw := hE0.trans he
  clear x1
  rcases hk with rfl | ⟨rfl, hA0⟩ | ⟨rfl, hA0, hB0⟩
  ·have hc := hckA.out wr hEw
   by_cases hf : slipsF A = 0
   ·rw [hf] at hc
    replace hc := Lib.hid hc; replace hf := Lib.hid hf
    go_wp2_with (go_at_call 73; (with_reducible refine Calls.mono hc.out ?_); rintro e w1 ⟨rfl, hb1⟩)
    go_roundw
    case rel => exact ⟨1, rfl, .inr (.inl ⟨rfl, hf.out⟩), he.trans hb1⟩
    case measure => simp [intOf]
   ·have hr := hresA.out hf
    generalize slipsF A = f at *
    replace hc := Lib.hid hc; replace hr := Lib.hid hr
    go_wp2_with (go_at_call 73; (with_reducible refine Calls.mono hc.out ?_); rintro e w1 ⟨rfl, hb1⟩)
    go_ret2
    exact hr.out _ (hEw.trans hb1)
  ·have hc := hckB.out wr hEw
   by_cases hf : slipsF B = 0
   ·rw [hf] at hc
    replace hc := Lib.hid hc; replace hf := Lib.hid hf
    go_wp2_with (go_at_call 73; (with_reducible refine Calls.mono hc.out ?_); rintro e w1 ⟨rfl, hb1⟩)
    go_roundw
    case rel => exact ⟨2, rfl, .inr (.inr ⟨rfl, hA0, hf.out⟩), he.trans hb1⟩
    case measure => simp [intOf]
   ·have hr := hresB.out hA0 hf
    generalize slipsF B = f at *
    replace hc := Lib.hid hc; replace hr := Lib.hid hr
    go_wp2_with (go_at_call 73; (with_reducible refine Calls.mono hc.out ?_); rintro e w1 ⟨rfl, hb1⟩)
    go_ret2
    exact hr.out _ (hEw.trans hb1)
  ·have hsl := fun u (hu : Ext w u) => hA.ext hu
   have hsr := fun u (hu : Ext w u) => hB.ext hu
   have hmm := @run_makeMap Tryz.prog
   have hcc := fun u g (hu : Ext w u) (hg : Blk u g 31 #[.slice p n c, .slice q m d]) => concat_any g p q n c m d A B u hg (hsl u hu) (hsr u hu) (by omega) (by omega)
   have hmb := fun x hx => mrg_bounds hA0 hB0 hsA hsB (x := x) hx
   have hgm := OwnK.made (M := ownS) wr
   have hG2 : Blk ((wr.alloc (.map #[] 0)).alloc (.cells #[.slice p n c, .slice q m d] 31)) (wr.heap.size + 1) 31 #[.slice p n c, .slice q m d] := Blk.new' (by simp)
   have hE2 : Ext wr ((wr.alloc (.map #[] 0)).alloc (.cells #[.slice p n c, .slice q m d] 31)) := ((Ext.refl wr).alloc _).alloc _
   have hgm2 := hgm.ext ((Ext.refl (wr.alloc (.map #[] 0))).alloc (.cells #[.slice p n c, .slice q m d] 31))
   have hc2 := hcc _ _ (hEw.trans hE2) hG2
   have hres0 : ∀ w', Ext w w' → mrgF [] (A ++ B) = none → MrgR A B w (.returned (.tuple #[.slice none 0 0, .int .i64 13])) w' := fun w' hw hn => mrg_none (by unfold MrgV; rw [if_neg (by simpa using hA0), if_neg (by simpa using hB0), hn]; exact ⟨rfl, rfl⟩) hw
   have hsz2 : ((wr.alloc (.map #[] 0)).alloc (.cells #[.slice p n c, .slice q m d] 31)).heap.size = wr.heap.size + 2 := by simp
   replace hc2 := Lib.hid hc2; replace hmb := Lib.hid hmb; replace hres0 := Lib.hid hres0; replace hgm2 := Lib.hid hgm2; replace hsz2 := Lib.hid hsz2; clear hgm hG2 hcc hsl hsr hckA hckB hresA hresB hG hG1 y0 y1 ly
   go_wp2_with (go_at_call 139; (with_reducible refine Calls.mono hc2.out ?_); rintro e w2 ⟨rp, rl, rfl, hR, hrb, hb2⟩)
   have hEw2 := (hEw.trans hE2).trans hb2
   have hgm3 := hgm2.out.ext hb2
   have hgl : wr.heap.size < w2.heap.size := hgm3.lt
   have hrg : ∀ a, rp = some a → a.block ≠ wr.heap.size := fun a ha => by have := hrb a ha; have := hsz2.out; omega
   have hRl := hR.1.1
   have hABl : (A ++ B).length = n + m := hRl
   have hwl : w.heap.size ≤ wr.heap.size := hEw.size
   replace hrg := Lib.hid hrg; replace hR := Lib.hid hR; replace hEw2 := Lib.hid hEw2; clear hc2 hgm2 hsz2 hrb hb2 hE2 hEw he
   generalize wr.heap.size = gm at *
   generalize hAB : A ++ B = AB at *
   go_loopw [10,37] (fun v10 v37 wq => ∃ (i : Nat) (o : List SlipV) (v : Value), v37 = .int .i64 i ∧ v = v10 ∧ i ≤ n + m ∧ wq.ownsRow w2.heap.size 79 7 v o.length (o.flatMap slipC) ∧ OwnK ownS wq gm i (seenS o) ∧ mrgF [] AB = mrgF o (AB.drop i) ∧ Diff o ∧ (∀ x ∈ o, x ∈ AB) ∧ o.length ≤ i ∧ ExtS gm w2 wq) (fun _ v37 _ => n + m - (intOf v37).toNat)
   case atStart =>
    refine ⟨0,[], _, rfl, rfl, Nat.zero_le _, World.ownsRow_nil _ _ _ _, ?_, by rw [List.drop_zero], List.Pairwise.nil, by simp, by simp, ExtS.refl _ _⟩
    have e : seenS [] = fun _ => none := by funext k; rfl
    rw [e]
    exact hgm3
   case round =>
    clear hgm3
    obtain ⟨i, o, v, rfl, rfl, hi, hown, hmap, hmf, hdf, hmem, hol, hEq⟩ := hrel
    by_cases hlt : i < n + m
    ·obtain ⟨x, hx⟩ := getD_some hABl hlt
     have hRr := hR.out.extS hEq (fun a ha => hrg.out a ha)
     obtain ⟨b, off, rfl, hb, hEl⟩ := hRr.1.2.2 (by omega)
     obtain ⟨d0, d1, d2, d3, d4, d5, d6⟩ := hEl.slip hx
     obtain ⟨hxs, hxk⟩ := hmb.out x (List.mem_of_getElem? hx)
     have hdr : AB.drop i = x :: AB.drop (i + 1) := by
      have h1 := (List.getElem?_eq_some_iff.1 hx).1
      have h2 : AB[i] = x := (List.getElem?_eq_some_iff.1 hx).2
      rw [List.drop_eq_getElem_cons h1, h2]
     rw [hdr] at hmf
     have hmf2 := hmf.trans (show mrgF o (x :: AB.drop (i + 1)) = match o.find? (fun y => sameK y x) with | none => mrgF (o ++ [x]) (AB.drop (i + 1)) | some y => if y = x then mrgF o (AB.drop (i + 1)) else none from rfl)
     have hlk := fun u (hu : Ext wr u) => (hmap.ext hu).look_ok (k := (x.by_, x.no)) hxk
     rw [seen_look] at hlk
     have hi1 : (i : Int) < ((n : Int) + (m : Int)) := by omega
     have hw1 := hEq.2.2.2.1
     have hbk := ExtS.back hEw2.out hwl hEq
     replace hx := Lib.hid hx; replace hEl := Lib.hid hEl; replace hmem := Lib.hid hmem; replace hdf := Lib.hid hdf; replace hbk := Lib.hid hbk; replace hxk := Lib.hid hxk; clear hdr
     cases hf : o.find? (fun y => sameK y x) with
     | none =>
       rw [hf] at hlk hmf2
       have hlk1 : ∀ u, Ext wr u → (Instr.lookup 211 (.map (some gm)) (.agg #[.string x.by_, .int .i64 x.no]) true).run Tryz.prog u = .ok (.tuple #[.agg #[.string ⟨#[]⟩, .int .i64 0, .int .i64 0, .int .i64 0, .string ⟨#[]⟩, .int .i64 0, .string ⟨#[]⟩], .bool false]) u := fun u hu => hlk u hu
       have hE3 : Ext wr (((wr.alloc (.cells #[.string x.by_, .int .i64 x.no, .int .i64 x.at_, .int .i64 x.kind, .string x.piece, .int .i64 x.copy, .string x.singer] 79)).alloc (.cells #[.string x.by_, .int .i64 x.no] 214)).alloc (.cells #[.string ⟨#[]⟩, .int .i64 0, .int .i64 0, .int .i64 0, .string ⟨#[]⟩, .int .i64 0, .string ⟨#[]⟩] 79)) := (((Ext.refl wr).alloc _).alloc _).alloc _
       obtain ⟨w4, hr4, hm4, hg4⟩ := (hmap.ext hE3).put (k := (x.by_, x.no)) hxk.out (by omega) x
       have hr4' : (Instr.mapUpdate 211 (.map (some gm)) (.agg #[.string x.by_, .int .i64 x.no]) (.agg #[.string x.by_, .int .i64 x.no, .int .i64 x.at_, .int .i64 x.kind, .string x.piece, .int .i64 x.copy, .string x.singer])).run Tryz.prog (((wr.alloc (.cells #[.string x.by_, .int .i64 x.no, .int .i64 x.at_, .int .i64 x.kind, .string x.piece, .int .i64 x.copy, .string x.singer] 79)).alloc (.cells #[.string x.by_, .int .i64 x.no] 214)).alloc (.cells #[.string ⟨#[]⟩, .int .i64 0, .int .i64 0, .int .i64 0, .string ⟨#[]⟩, .int .i64 0, .string ⟨#[]⟩] 79)) = .ok () w4 := hr4
       have hown4 : w4.ownsRow w2.heap.size 79 7 v o.length (o.flatMap slipC) := (((hown.alloc _).alloc _).alloc _).kept hg4 (.inr fun e => by have := (hown.lt gm e).1; omega)
       have hX4 : Blk w4 wr.heap.size 79 #[.string x.by_, .int .i64 x.no, .int .i64 x.at_, .int .i64 x.kind, .string x.piece, .int .i64 x.copy, .string x.singer] := (hg4.block wr.heap.size (by simp; omega) fun e => by have := hmap.lt; cases e; omega).trans (((Blk.new' rfl).alloc _).alloc _)
       have hK4 : Blk w4 (wr.heap.size + 1) 214 #[.string x.by_, .int .i64 x.no] := (hg4.block (wr.heap.size + 1) (by simp) fun e => by have := hmap.lt; cases e; omega).trans ((Blk.new' (by simp)).alloc _)
       have hE4 : ExtS gm w2 w4 := (((hEq.alloc _).alloc _).alloc _).turned hg4
       rw [seen_put hf] at hm4
       have hdf2 := diff_snoc hdf.out hf
       have lx4 := hX4.lt
       have x0 := hX4.cell 0
       have x1 := hX4.cell 1
       have x2 := hX4.cell 2
       have x3 := hX4.cell 3
       have x4 := hX4.cell 4
       have x5 := hX4.cell 5
       have x6 := hX4.cell 6
       have hw4 := hE4.2.2.2.1
       replace hlk1 := Lib.hid hlk1; replace hr4' := Lib.hid hr4'; replace hmf2 := Lib.hid hmf2; clear hlk hr4 hmap hmf hX4 hK4 hE3
       go_wp2_with (first
        | (refine wpList_lookM rfl _ _ 211 true rfl (.map (some gm)) (.agg #[.string x.by_, .int .i64 x.no]) _ rfl rfl (hlk1.out _ (by exact ((Ext.refl wr).alloc _).alloc _)) ?_)
        | (refine wpList_putM rfl _ _ _ 211 rfl (.map (some gm)) (.agg #[.string x.by_, .int .i64 x.no]) (.agg #[.string x.by_, .int .i64 x.no, .int .i64 x.at_, .int .i64 x.kind, .string x.piece, .int .i64 x.copy, .string x.singer]) rfl rfl rfl w4 hr4'.out ?_)
        | (at_builtin; go_loud (refine wp_app1 _ (.tmp 58) (.tmp 60) 31 79 7 80 _ rfl rfl Tryz.underlying31 sliInfo rfl (by decide) (by decide) w2.heap.size _ o.length _ rfl (hown4.alloc _) _ (slipC x) rfl rfl (Blk.new' rfl) (slipC_one _) (by omega) (by simp; omega) ?_; intro v' w6 hown6 hgrow6 _)))
       have hm6 := (hm4.ext ((Ext.refl w4).alloc (.cells (slipC x).toArray 79))).grown hgrow6 (fun e => by have := (hown4.lt gm e.symm).1; omega)
       have hl6 : (o ++ [x]).length = o.length + 1 := by simp
       go_roundw
       case rel => exact ⟨i + 1, o ++ [x], v', by go_num, rfl, by omega, by rw [hl6, flat_snoc]; exact hown6, hm6, hmf2.out, hdf2, (fun z hz => (List.mem_append.1 hz).elim (hmem.out z) fun h => by rw [List.mem_singleton.1 h]; exact List.mem_of_getElem? hx.out), by omega, (hE4.alloc _).app (hown4.alloc _) (by omega) hgrow6⟩
       case measure => simp [intOf]; omega
     | some y =>
       obtain ⟨hyo, hy1, hy2⟩ := seen_some hf
       rw [hf] at hlk hmf2
       by_cases e : y = x
       ·subst e
        simp only [if_pos] at hmf2
        have hlk1 : ∀ u, Ext wr u → (Instr.lookup 211 (.map (some gm)) (.agg #[.string y.by_, .int .i64 y.no]) true).run Tryz.prog u = .ok (.tuple #[.agg #[.string y.by_, .int .i64 y.no, .int .i64 y.at_, .int .i64 y.kind, .string y.piece, .int .i64 y.copy, .string y.singer], .bool true]) u := fun u hu => hlk u hu
        replace hlk1 := Lib.hid hlk1; replace hmf2 := Lib.hid hmf2; replace hf := Lib.hid hf; clear hlk hy1 hy2 hyo
        go_wp2_with (refine wpList_lookM rfl _ _ 211 true rfl (.map (some gm)) (.agg #[.string y.by_, .int .i64 y.no]) _ rfl rfl (hlk1.out _ (by exact ((Ext.refl wr).alloc _).alloc _)) ?_)
        go_roundw
        case rel => exact ⟨i + 1, o, _, by go_num, rfl, by omega, ((hown.alloc _).alloc _).alloc _, ((hmap.ext ((Ext.refl wr).alloc _)).ext ((Ext.refl _).alloc _)).ext ((Ext.refl _).alloc _) |>.le (by omega), hmf2.out, hdf.out, hmem.out, by omega, ((hEq.alloc _).alloc _).alloc _⟩
        case measure => simp [intOf]; omega
       ·simp only [if_neg e] at hmf2
        have hrf := fun w' hw => hres0.out w' hw hmf2
        obtain ⟨by2, no2, at2, k2, p2, c2, s2⟩ := y
        obtain ⟨xb, xn, xa, xk, xp, xc, xs⟩ := x
        dsimp only at *
        subst hy1 hy2
        have hlk1 : ∀ u, Ext wr u → (Instr.lookup 211 (.map (some gm)) (.agg #[.string by2, .int .i64 no2]) true).run Tryz.prog u = .ok (.tuple #[.agg #[.string by2, .int .i64 no2, .int .i64 at2, .int .i64 k2, .string p2, .int .i64 c2, .string s2], .bool true]) u := fun u hu => hlk u hu
        replace hlk1 := Lib.hid hlk1; replace hrf := Lib.hid hrf; replace hf := Lib.hid hf; clear hlk hyo hmf hmf2 hmap hown hmem hdf
        by_cases e3 : at2 = xa
        ·subst e3
         by_cases e4 : k2 = xk
         ·subst e4
          by_cases e5 : p2 = xp
          ·subst e5
           by_cases e6 : c2 = xc
           ·subst e6
            have e7 : (s2.toList == xs.toList) = false := by rw [← Bool.not_eq_true, bytesB]; intro e7; subst e7; exact e rfl
            replace e := Lib.hid e
            go_wp2_with (refine wpList_lookM rfl _ _ 211 true rfl (.map (some gm)) (.agg #[.string by2, .int .i64 no2]) _ rfl rfl (hlk1.out _ (by exact ((Ext.refl wr).alloc _).alloc _)) ?_)
            go_ret2
            exact hrf.out _ (((hbk.out.alloc _).alloc _).alloc _)
           ·replace e := Lib.hid e
            go_wp2_with (refine wpList_lookM rfl _ _ 211 true rfl (.map (some gm)) (.agg #[.string by2, .int .i64 no2]) _ rfl rfl (hlk1.out _ (by exact ((Ext.refl wr).alloc _).alloc _)) ?_)
            go_ret2
            exact hrf.out _ (((hbk.out.alloc _).alloc _).alloc _)
          ·have e7 : (p2.toList == xp.toList) = false := by rw [← Bool.not_eq_true, bytesB]; exact e5
           replace e := Lib.hid e
           go_wp2_with (refine wpList_lookM rfl _ _ 211 true rfl (.map (some gm)) (.agg #[.string by2, .int .i64 no2]) _ rfl rfl (hlk1.out _ (by exact ((Ext.refl wr).alloc _).alloc _)) ?_)
           go_ret2
           exact hrf.out _ (((hbk.out.alloc _).alloc _).alloc _)
         ·replace e := Lib.hid e
          go_wp2_with (refine wpList_lookM rfl _ _ 211 true rfl (.map (some gm)) (.agg #[.string by2, .int .i64 no2]) _ rfl rfl (hlk1.out _ (by exact ((Ext.refl wr).alloc _).alloc _)) ?_)
          go_ret2
          exact hrf.out _ (((hbk.out.alloc _).alloc _).alloc _)
        ·replace e := Lib.hid e
         go_wp2_with (refine wpList_lookM rfl _ _ 211 true rfl (.map (some gm)) (.agg #[.string by2, .int .i64 no2]) _ rfl rfl (hlk1.out _ (by exact ((Ext.refl wr).alloc _).alloc _)) ?_)
         go_ret2
         exact hrf.out _ (((hbk.out.alloc _).alloc _).alloc _)
    ·obtain rfl : i = n + m := by omega
     have hbk := ExtS.back hEw2.out hwl hEq
     rw [List.drop_of_length_le (by omega)] at hmf
     have hmf2 : mrgF [] AB = some o := hmf
     have hosm : ∀ x ∈ o, x.Small := fun x hx => (hmb.out x (hmem x hx)).1
     have hw1 := hEq.2.2.2.1
     have hres1 : ∀ (S : List SlipV) v' w', S.Perm o → S.Pairwise sliLt → slipsF S = 0 → w'.ownsRow w2.heap.size 79 7 v' S.length (S.flatMap slipC) → Ext w w' → MrgR A B w (.returned (.tuple #[v', .int .i64 0])) w' := fun S v' w' h1 h2 h3 h4 h5 => ⟨v', S, 0, rfl, own_low h4 (by omega), by
      unfold MrgV
      rw [if_neg (by simpa using hA0), if_neg (by simpa using hB0), hAB, hmf2]
      exact ⟨S, h1, h2, .inl ⟨h3, rfl, rfl⟩⟩, h5⟩
     have hres2 : ∀ (S : List SlipV) w', S.Perm o → S.Pairwise sliLt → slipsF S ≠ 0 → Ext w w' → MrgR A B w (.returned (.tuple #[.slice none 0 0, .int .i64 (slipsF S)])) w' := fun S w' h1 h2 h3 h5 => mrg_none (by
      unfold MrgV
      rw [if_neg (by simpa using hA0), if_neg (by simpa using hB0), hAB, hmf2]
      exact ⟨S, h1, h2, .inr ⟨h3, rfl, rfl⟩⟩) h5
     replace hres1 := Lib.hid hres1; replace hres2 := Lib.hid hres2; replace hbk := Lib.hid hbk; clear hmf hmf2 hmem hmap hres0 hmb hR hrg
     rcases Nat.eq_zero_or_pos o.length with h0 | h0
     ·have hnil := List.eq_nil_of_length_eq_zero h0
      subst hnil
      obtain ⟨p9, c9, rfl, hS9⟩ := slc_of_own slipC_len hown (by decide) (by simp)
      have hck := fun u (hu : Ext wr u) => checkSlips_any p9 0 c9 [] u (hS9.ext hu).1 (by simp) (by omega)
      have hz : slipsF ([] : List SlipV) = 0 := by decide
      rw [hz] at hck
      have hr := fun w' (hw : Ext wr w') => hres1.out [] _ w' List.Perm.nil List.Pairwise.nil hz (own_ext hw hown) (hbk.out.trans hw)
      replace hck := Lib.hid hck; replace hr := Lib.hid hr; clear hown hS9 hdf hosm hres1 hres2 hz
      go_wp2_with (first
       | (go_at_call 140; (with_reducible refine Calls.mono (sortNoneS_any p9 c9 _ _) ?_); rintro e w5 ⟨rfl, rfl⟩)
       | (go_at_call 73; (with_reducible refine Calls.mono (hck.out _ (Ext.refl _)) ?_); rintro e w6 ⟨rfl, hb6⟩))
      go_ret2
      exact hr.out _ hb6
     ·obtain ⟨g, cap, rfl, hg, hgl2⟩ := hown.form h0
      have hso := sortSlip_any hown rfl (by omega) hdf
      have hbk2 := hbk.out
      replace hso := Lib.hid hso; replace hown := Lib.hid hown
      go_upto_region 22 with (go_at_call 140; (with_reducible refine Calls.mono hso.out ?_); rintro e w5 ⟨rfl, S, hSp, hSr, hSo, hSx⟩)
      have hb5 : Ext w w5 := hSx w hbk2 (by omega)
      obtain ⟨p9, c9, e9, hS9⟩ := slc_of_own slipC_len hSo (by decide) (by omega)
      cases e9
      have hSl : S.length = o.length := hSp.length_eq
      have hck := checkSlips_any (some ⟨g, 0, none⟩) o.length cap S w5 hS9.1 (fun x hx => hosm x (hSp.mem_iff.1 hx)) (by omega)
      clear hso hSx hown hosm hdf hbk2 hS9
      by_cases hz : slipsF S = 0
      ·have hr := fun w' (hw : Ext w5 w') => hres1.out S (.slice (some ⟨g, 0, none⟩) o.length cap) w' hSp hSr hz (by rw [hSl]; exact own_ext hw hSo) (hb5.trans hw)
       rw [hz] at hck
       replace hck := Lib.hid hck; replace hr := Lib.hid hr; clear hSo hres1 hres2 hz
       go_wp2_with (go_at_call 73; (with_reducible refine Calls.mono hck.out ?_); rintro e w6 ⟨rfl, hb6⟩)
       go_ret2
       exact hr.out _ hb6
      ·have hr := fun w' (hw : Ext w5 w') => hres2.out S w' hSp hSr hz (hb5.trans hw)
       generalize slipsF S = f at *
       replace hck := Lib.hid hck; replace hr := Lib.hid hr; clear hSo hres1 hres2
       go_wp2_with (go_at_call 73; (with_reducible refine Calls.mono hck.out ?_); rintro e w6 ⟨rfl, hb6⟩)
       go_ret2
       exact hr.out _ hb6
end Go.Proofs.YtehboinleolihaaGreatDoor
