/- Slips of two lists are merged, by the document's text. Conditions: sizes. (Printed by gen_ska.py.) -/
import Derived.Test.YtehboinleolihaaGreatDoorZkMgC
import Derived.Test.YtehboinleolihaaGreatDoorZkJ18
import Derived.Test.YtehboinleolihaaGreatDoorZkFactsB
set_option linter.unusedSimpArgs false
set_option linter.unusedVariables false
namespace Go.Proofs.YtehboinleolihaaGreatDoor
open Go Go.RowKit Go.Maps Go.Sort
theorem sliO_zero (a b : SlipV) : decide (sliO a b = 0) = sameK b a := by
 unfold sameK
 apply decide_eq_decide.2
 constructor
 ·intro h
  rcases sliLt_tri a b with k | k | k
  ·have := (sliLt_iff a b).2 k; omega
  ·exfalso
   unfold sliO orF at h
   rcases k with k | ⟨e, k⟩
   ·rw [cmpS_flip k] at h; simp at h
   ·rw [← e, cmpS_refl] at h
    have h2 : cmpZ a.no b.no = 1 := by unfold cmpZ; rw [if_neg (by omega)]; rw [if_neg (by omega)]
    rw [h2] at h
    simp [orF] at h
  ·exact ⟨k.1.symm, k.2.symm⟩
 ·rintro ⟨e1, e2⟩
  unfold sliO
  rw [e1, e2, cmpS_refl]
  have h2 : cmpZ a.no a.no = 0 := by unfold cmpZ; simp
  rw [h2]
  rfl
theorem slip_flat_len : ∀ (xs : List SlipV), (xs.flatMap slipC).length = xs.length * 7
 | [] => rfl
 | x :: l => by rw [List.flatMap_cons, List.length_append, slip_flat_len l, slipC_len, List.length_cons]; omega
theorem cloneSlip_any (p : Option Addr) (n c : Nat) (xs : List SlipV) (w : World) (h : Slc 7 slipC w p n c xs) (hn : n ≤ 100000) :
 Calls Tryz.prog 66 #[.slice p n c] w fun e w' => ∃ v, e = .returned v ∧ w'.ownsRow w.heap.size 79 7 v n (xs.flatMap slipC) ∧ Ext w w' := by
 obtain ⟨hS, hnc, hp0, hp⟩ := h
 cases p with
 | none =>
   obtain rfl := hp0 rfl
   have hx : xs = [] := List.eq_nil_of_length_eq_zero hS.1
   subst hx
   exact (AnyE.slices_Clone_nil Tryz.lecSlip 0 c w).mono fun e w' ⟨he, hw⟩ => by
    subst hw
    exact ⟨_, he, World.ownsRow_nil _ _ _ _, Ext.refl _⟩
 | some a =>
   obtain ⟨b, off, rfl, hb⟩ := hp a rfl
   obtain ⟨i0, hi, hz0, hz1, hz2⟩ := info_parts (P := Tryz.prog) (e := 79) (z := .agg #[.string ⟨#[]⟩, .int .i64 0, .int .i64 0, .int .i64 0, .string ⟨#[]⟩, .int .i64 0, .string ⟨#[]⟩]) (size := 7) (bytes := 80) (by kernel_rfl)
   refine (AnyE.slices_Clone Tryz.lecSlip i0 _ 7 80 hi hz0 hz1 hz2 rfl (by decide) Tryz.sizeOf79 b off n c (xs.flatMap slipC) w (by rw [slip_flat_len, hS.1]) (by unfold maxLen; omega) (by omega) (fun j u hj => ?_) (fun u hu => ?_)).mono fun e w' ⟨v', he, ho, _, hb'⟩ => ⟨v', he, ho, hb'⟩
   ·have hj' : j < xs.length * 7 := by rw [← slip_flat_len]; exact (List.getElem?_eq_some_iff.1 hj).1
    have hn0 : n ≠ 0 := by have := hS.1; omega
    obtain ⟨b', off', hpe, hb', hE⟩ := hS.2.2 hn0
    cases hpe
    obtain ⟨x, hx⟩ : ∃ x, xs[j / 7]? = some x := ⟨_, List.getElem?_eq_getElem (by omega)⟩
    have hjm : j % 7 < 7 := Nat.mod_lt _ (by omega)
    obtain ⟨u', hu'⟩ : ∃ u', (slipC x)[j % 7]? = some u' := ⟨_, List.getElem?_eq_getElem (by rw [slipC_len]; exact hjm)⟩
    have h1 := flat_at slipC_len xs (j / 7) x hx (j % 7) u' hu'
    have e5 : j / 7 * 7 + j % 7 = j := by omega
    rw [e5, hj] at h1
    cases h1
    have h2 := hE (j / 7) x hx (j % 7) u hu'
    rw [Nat.add_assoc, e5] at h2
    exact h2
   ·obtain ⟨x, _, hu⟩ := List.mem_flatMap.1 hu
    exact slipC_one x u hu
set_option maxRecDepth 100000 in
theorem idxSlip_nil (c : Nat) (fv : Value) (w : World) : Calls Tryz.prog 148 #[.slice none 0 c, fv] w fun e w' => e = .returned (.int .i64 (-1)) ∧ Ext w w' := by
 go_enter Tryz.func148, Tryz.ntmps148
 go_wp2
 refine wp_loop_rounds 1 ?_
 rw [rounds_succ]
 go_wp2
 go_ret
 exact ⟨rfl, Ext.refl _⟩
theorem idx_one {α : Type} (p : α → Bool) (d : α) : ∀ (l : List α) (i : Nat), (Lib.idxByFrom (fun _ y => p y) d l i = -1 ∧ l.find? p = none) ∨ ∃ (k : Nat) (x : α), l[k]? = some x ∧ l.find? p = some x ∧ Lib.idxByFrom (fun _ y => p y) d l i = ((i + k : Nat) : Int)
 | [], _ => .inl ⟨rfl, rfl⟩
 | y :: r, i => by
   unfold Lib.idxByFrom
   cases h : p y
   ·rw [List.find?_cons_of_neg (by rw [h]; decide)]
    rcases idx_one p d r (i + 1) with ⟨h1, h2⟩ | ⟨k, x, hx, hp, e⟩
    ·exact .inl ⟨by simpa using h1, h2⟩
    ·refine .inr ⟨k + 1, x, hx, hp, ?_⟩
     simp only [Bool.false_eq_true, if_false]
     rw [e]
     congr 1
     omega
   ·rw [List.find?_cons_of_pos h]
    exact .inr ⟨0, y, rfl, rfl, by simp⟩
/-- The number of the first slip that is the same. -/
theorem findSlip_any {w : World} {p : Option Addr} {n c : Nat} {xs : List SlipV} (h : Slc 7 slipC w p n c xs) (hn : n ≤ 1000000) (pr : SlipV → Bool) {f : Nat} {lb : Array Value} (hp : PredBelow Tryz.prog f lb (fun s : SlipV => .agg (slipC s).toArray) pr w) (eg : ∀ args w, (callFunc f args).run Tryz.prog w = .ok (.enter f args) w) :
 Calls Tryz.prog 148 #[.slice p n c, .func (.func f) #[] lb] w fun e w' => Ext w w' ∧ ((xs.find? pr = none ∧ e = .returned (.int .i64 (-1))) ∨ ∃ (k : Nat) (x : SlipV), xs[k]? = some x ∧ xs.find? pr = some x ∧ e = .returned (.int .i64 (k : Int))) := by
 obtain ⟨hl, ⟨rfl, e⟩ | ⟨b, off, rfl, hb, hEl⟩⟩ := slcC h
 ·subst e
  have h0 : n = 0 := by simpa using hl
  subst h0
  exact (idxSlip_nil c _ _).mono fun e w' ⟨he, hE⟩ => ⟨hE, .inl ⟨rfl, he⟩⟩
 ·have this := AnyQ.slices_IndexFunc Tryz.lqiSlip 7 Tryz.isAgg79 Tryz.sizeOf79 slipC slipC_len pr f lb eg b off n c xs w hp (by omega) (by omega) hb (fun j hj i v hi => hEl j _ (by rw [List.getElem?_eq_getElem hj, getElem!_pos xs j hj]) i v hi)
  rw [List.take_of_length_le (by omega)] at this
  unfold Lib.idxBy at this
  refine this.mono fun e w' ⟨he, hE⟩ => ⟨hE, ?_⟩
  rcases idx_one pr default xs 0 with ⟨q1, q2⟩ | ⟨k, s, hs, hd, q⟩
  ·rw [q1] at he
   exact .inl ⟨q2, he⟩
  ·rw [q, Nat.zero_add] at he
   exact .inr ⟨k, s, hs, hd, he⟩
set_option maxRecDepth 100000 in
theorem samePred {w : World} {gb : Nat} {x : SlipV} (hX : Blk w gb 79 #[.string x.by_, .int .i64 x.no, .int .i64 x.at_, .int .i64 x.kind, .string x.piece, .int .i64 x.copy, .string x.singer]) :
 PredBelow Tryz.prog 149 #[.pointer (some ⟨gb, 0, none⟩)] (fun s : SlipV => .agg (slipC s).toArray) (fun s => sameK s x) w := fun W s hb => by
 have hE : Ext w W := hb
 show Calls Tryz.prog 149 #[.agg #[.string s.by_, .int .i64 s.no, .int .i64 s.at_, .int .i64 s.kind, .string s.piece, .int .i64 s.copy, .string s.singer], .pointer (some ⟨gb, 0, none⟩)] W fun e w' => e = .returned (.bool (sameK s x)) ∧ Ext w w'
 have hE1 : Ext W (W.alloc (.cells #[.string s.by_, .int .i64 s.no, .int .i64 s.at_, .int .i64 s.kind, .string s.piece, .int .i64 s.copy, .string s.singer] 79)) := (Ext.refl _).alloc _
 obtain ⟨hc, hf⟩ := ((hX.ext hE).ext hE1).walk
 have x0 := hc 0
 have x1 := hc 1
 have x2 := hc 2
 have x3 := hc 3
 have x4 := hc 4
 have x5 := hc 5
 have x6 := hc 6
 have hl9 := ((hX.ext hE).ext hE1).lt
 have hr := sliO_zero x s
 have hby := sliBy_any x s (W.alloc (.cells #[.string s.by_, .int .i64 s.no, .int .i64 s.at_, .int .i64 s.kind, .string s.piece, .int .i64 s.copy, .string s.singer] 79))
 generalize sliO x s = v at *
 rw [← hr]
 replace hby := Lib.hid hby; replace hE := Lib.hid hE; replace hr := Lib.hid hr; clear hX hc hb
 go_enter Tryz.func149, Tryz.ntmps149
 go_wp2_with (go_at_call 144; (with_reducible refine Calls.mono hby.out ?_); rintro e w1 ⟨rfl, hb1⟩)
 go_ret
 exact ⟨rfl, hE.out.trans (hE1.trans hb1)⟩
set_option maxRecDepth 100000 in
theorem sortBy_any {w : World} {base g n cap : Nat} {L : List SlipV} (h : w.ownsRow base 79 7 (.slice (some ⟨g, 0, none⟩) n cap) n (L.flatMap slipC)) (hn : L.length = n) (hn1 : n ≤ 100000) (hok : Diff L) :
 Calls Tryz.prog 140 #[.slice (some ⟨g, 0, none⟩) n cap, .func (.func 144) #[] #[]] w fun e w' => e = .returned (.tuple #[]) ∧ ∃ M : List SlipV, M.Perm L ∧ M.Pairwise sliLt ∧ w'.ownsRow base 79 7 (.slice (some ⟨g, 0, none⟩) n cap) n (M.flatMap slipC) ∧ ∀ a : World, Ext a w → a.heap.size ≤ g → Ext a w' := by
 have hgl := (h.lt g rfl).2
 subst hn
 have hs := AnyQ.slices_SortFunc Tryz.lsfSlip 7 Tryz.isAgg79 Tryz.sizeOf79 slipC slipC_len slipC_one sliO sli_swo 144 #[] g 0 cap L.toArray w (fun args u => by rfl) (fun m os dk _ x y => sliByG_any x y _) (holdsK_own slipC_len h) hgl (by simp; omega)
 refine hs.mono fun e w' ⟨he, d', q, os, hp, hso, hw⟩ => ?_
 obtain ⟨hpm, hri⟩ := sortS_of hok (by simpa using hp) (by simpa using hso)
 refine ⟨he, d'.toList, hpm, hri, ?_, ?_⟩
 ·rw [hw]
  exact own_sortK slipC_len h hpm.length_eq
 ·intro a ha hg
  rw [hw]
  exact ext_sortK ha hg
/-! ### the merge -/
set_option maxRecDepth 100000 in
set_option maxHeartbeats 12800000 in
theorem slipsMerged_any (p q : Option Addr) (n c m d : Nat) (A B : List SlipV) (w : World) (hA : Slc 7 slipC w p n c A) (hB : Slc 7 slipC w q m d B) (hsA : ∀ x ∈ A, x.Small) (hsB : ∀ x ∈ B, x.Small) (hn : n ≤ 10000) (hm : m ≤ 10000) (hA0 : slipsF A = 0) (hB0 : slipsF B = 0) :
 Calls Tryz.prog 74 #[.slice p n c, .slice q m d] w (MrgR A B w) := by
 have hAl := hA.1.1
 have hBl := hB.1.1
 have href := mrg_ref (slipsF_right hA0) (slipsF_right hB0)
 have hcl := cloneSlip_any p n c A w hA (by omega)
 have hres0 : ∀ w', Ext w w' → refM A A B = none → MrgR A B w (.returned (.tuple #[.slice none 0 0, .int .i64 13])) w' := fun w' hw hn => mrg_none (by unfold MrgV; rw [if_neg (by simpa using hA0), if_neg (by simpa using hB0), href, hn]; exact ⟨rfl, rfl⟩) hw
 have hdf : ∀ o, refM A A B = some o → Diff o ∧ (∀ z ∈ o, z.Small) ∧ o.length ≤ n + m := fun o ho => by
  obtain ⟨h1, h2, h3⟩ := mrg_mem (A ++ B) [] o (href.trans ho) List.Pairwise.nil
  refine ⟨h1, fun z hz => ?_, by simpa [hAl, hBl] using h3⟩
  rcases (h2 z).1 hz with h | h
  ·cases h
  ·exact (List.mem_append.1 h).elim (hsA z) (hsB z)
 have hres1 : ∀ (o S : List SlipV) v' w', refM A A B = some o → S.Perm o → S.Pairwise sliLt → slipsF S = 0 → w'.ownsRow w.heap.size 79 7 v' S.length (S.flatMap slipC) → Ext w w' → MrgR A B w (.returned (.tuple #[v', .int .i64 0])) w' := fun o S v' w' h0 h1 h2 h3 h4 h5 => ⟨v', S, 0, rfl, h4, by
  unfold MrgV
  rw [if_neg (by simpa using hA0), if_neg (by simpa using hB0), href, h0]
  exact ⟨S, h1, h2, .inl ⟨h3, rfl, rfl⟩⟩, h5⟩
 have hres2 : ∀ (o S : List SlipV) w', refM A A B = some o → S.Perm o → S.Pairwise sliLt → slipsF S ≠ 0 → Ext w w' → MrgR A B w (.returned (.tuple #[.slice none 0 0, .int .i64 (slipsF S)])) w' := fun o S w' h0 h1 h2 h3 h5 => mrg_none (by
  unfold MrgV
  rw [if_neg (by simpa using hA0), if_neg (by simpa using hB0), href, h0]
  exact ⟨S, h1, h2, .inr ⟨h3, rfl, rfl⟩⟩) h5
 replace hres0 := Lib.hid hres0; replace hres1 := Lib.hid hres1; replace hres2 := Lib.hid hres2; replace hdf := Lib.hid hdf; replace hA := Lib.hid hA; replace hB := Lib.hid hB; replace hcl := Lib.hid hcl; clear href hA0 hB0
 go_enter Tryz.func74, Tryz.ntmps74
 go_wp2_with (go_at_call 66; (with_reducible refine Calls.mono hcl.out ?_); rintro e w1 ⟨v1, rfl, hown1, hb1⟩)
 replace hown1 := Lib.hid hown1
 go_loopw [6,15] (fun v6 v15 wq => ∃ (k : Nat) (o : List SlipV) (v : Value), v15 = .int .i64 k ∧ v = v6 ∧ k ≤ m ∧ wq.ownsRow w.heap.size 79 7 v o.length (o.flatMap slipC) ∧ refM A A B = refM A o (B.drop k) ∧ o.length ≤ n + k ∧ Ext w wq) (fun _ v15 _ => m - (intOf v15).toNat)
 case atStart => exact ⟨0, A, _, rfl, rfl, Nat.zero_le _, by rw [hAl]; exact hown1.out, by rw [List.drop_zero], by omega, hb1⟩
 case round =>
  clear hown1 hcl
  obtain ⟨k, o, v, rfl, rfl, hk, hown, hmf, hol, hEq⟩ := hrel
  by_cases hlt : k < m
  ·obtain ⟨x, hx⟩ := getD_some hBl hlt
   obtain ⟨b2, off2, rfl, hb2, hEl2⟩ := (hB.out.ext hEq).1.2.2 (by omega)
   obtain ⟨c0, c1, c2, c3, c4, c5, c6⟩ := hEl2.slip hx
   have hdr : B.drop k = x :: B.drop (k + 1) := by
    have h1 := (List.getElem?_eq_some_iff.1 hx).1
    have h2 : B[k] = x := (List.getElem?_eq_some_iff.1 hx).2
    rw [List.drop_eq_getElem_cons h1, h2]
   have hkm : (k : Int) < m := by omega
   rw [hdr] at hmf
   have hmf2 := hmf.trans (show refM A o (x :: B.drop (k + 1)) = match A.find? (fun y => sameK y x) with | none => refM A (o ++ [x]) (B.drop (k + 1)) | some y => if y = x then refM A o (B.drop (k + 1)) else none from rfl)
   have hX := Blk.new' (w := wr) (g := wr.heap.size) (t := 79) (cs := #[.string x.by_, .int .i64 x.no, .int .i64 x.at_, .int .i64 x.kind, .string x.piece, .int .i64 x.copy, .string x.singer]) rfl
   have hkX : Ext wr (wr.alloc (.cells #[.string x.by_, .int .i64 x.no, .int .i64 x.at_, .int .i64 x.kind, .string x.piece, .int .i64 x.copy, .string x.singer] 79)) := (Ext.refl _).alloc _
   have hEw := hEq.trans hkX
   have hfi := findSlip_any (hA.out.ext hEw) (by omega) (fun s => sameK s x) (samePred hX) (enters_of Tryz.func149 (by kernel_rfl) rfl)
   have hownX := hown.alloc (.cells #[.string x.by_, .int .i64 x.no, .int .i64 x.at_, .int .i64 x.kind, .string x.piece, .int .i64 x.copy, .string x.singer] 79)
   have hw1 := hEw.size
   replace hfi := Lib.hid hfi; replace hownX := Lib.hid hownX; replace hx := Lib.hid hx; replace hmf2 := Lib.hid hmf2; clear hdr hmf hown hEl2
   go_upto_region 6 with (go_at_call 148; (with_reducible refine Calls.mono hfi.out ?_); rintro e w2 ⟨hb2', hfo⟩; rcases hfo with ⟨hf, rfl⟩ | ⟨i, y, hy, hf, rfl⟩)
   ·have hX2 := hX.ext hb2'
    have x0 := hX2.cell 0
    have x1 := hX2.cell 1
    have x2 := hX2.cell 2
    have x3 := hX2.cell 3
    have x4 := hX2.cell 4
    have x5 := hX2.cell 5
    have x6 := hX2.cell 6
    have lx := hX2.lt
    have hown2 := own_ext hb2' hownX.out
    have hmf3 := hmf2.out
    rw [hf] at hmf3
    have hs2 := hb2'.size
    replace hown2 := Lib.hid hown2; replace hmf3 := Lib.hid hmf3; clear hmf2 hX hX2 hownX hfi hf; clear c0 c1 c2 c3 c4 c5 c6
    go_wp2_with (at_builtin; go_loud (refine wp_app1 _ (.tmp 25) (.tmp 27) 31 79 7 80 _ rfl rfl Tryz.underlying31 sliInfo rfl (by decide) (by decide) w.heap.size _ o.length _ rfl (hown2.out.alloc _) _ (slipC x) rfl rfl (Blk.new' rfl) (slipC_one _) (by omega) (by simp; omega) ?_; intro v' w6 hown6 hgrow6 _))
    have hl6 : (o ++ [x]).length = o.length + 1 := by simp
    go_roundw
    case rel => exact ⟨k + 1, o ++ [x], v', by go_num, rfl, by omega, by rw [hl6, flat_snoc]; exact hown6, hmf3.out, by omega, ((hEw.trans hb2').alloc _).grown hgrow6 fun j e => (hown2.out.lt j e).1⟩
    case measure => simp [intOf]; omega
   ·obtain ⟨hyA, hy1, hy2⟩ := seen_some hf
    obtain ⟨b1, off1, rfl, hb1', hEl1⟩ := hA.out.1.2.2 (by have := (List.getElem?_eq_some_iff.1 hy).1; omega)
    obtain ⟨d0, d1, d2, d3, d4, d5, d6⟩ := hEl1.slip hy
    have l1 := hb1'
    have hin : i < n := by have := (List.getElem?_eq_some_iff.1 hy).1; omega
    have hkI : (i : Int) < n := by omega
    have hmf3 := hmf2.out
    rw [hf] at hmf3
    have hX2 := hX.ext hb2'
    have hkE := hEw.trans hb2'
    have hbk := Lib.hid hkE
    have hown2 := Lib.hid (own_ext hb2' hownX.out)
    replace hX := hX2
    clear hX2 hmf2 hfi hEl1 hownX hy hyA hf; clear c0 c1 c2 c3 c4 c5 c6
    by_cases e : y = x
    ·subst e
     simp only [if_pos] at hmf3
     replace hmf3 := Lib.hid hmf3
     go_upto_region 8 with fail
     refine wp_region_facts [] [([],false,false),([],false,false),([0,1],false,false),([0,1,2],false,false),([],false,false),([0,1,2,3,4],false,false),([0,1,2,3,4,5],false,false)] (Ext) Ext (fun _ => True) (by kernel_rfl) (by kernel_rfl) Ext.refl (fun _ _ _ => Ext.trans) (fun _ _ h => h) (fun _ _ h => h.size) (fun _ _ h _ => h) trivial ?_
     dsimp only [List.length_cons, List.length_nil, List.drop_succ_cons, List.drop_zero, List.drop_nil]
     refine fq 0 rfl rfl rfl cK rfl rfl ?_; apply Exists.intro; constructor
     ·intro sv w' hw' hfa
      refine ⟨rfl, ?_⟩; simp only [putsL]; change qT _; simp only [qT, Act.put, sIA, sCS, sCZ]; simp [go_sem, quietTo, Ext.refl]; all_goals rfl
     refine fq 1 rfl rfl rfl cK rfl rfl ?_; apply Exists.intro; constructor
     ·intro sv w' hw' hfa
      refine ⟨rfl, ?_⟩; simp only [putsL]; change qT _; simp only [qT, Act.put, sIA, sCS, sCZ]; simp [go_sem, quietTo, Ext.refl]; all_goals rfl
     refine fq 2 rfl rfl rfl cK rfl rfl ?_; apply Exists.intro; constructor
     ·rintro sv w' hw' ⟨(f0 : sv 0 = _), (f1 : sv 1 = _), -⟩; (try dsimp only at f0 f1)
      have hk9 := (hkE.trans ((Ext.refl _).drew.trans hw')); obtain ⟨hc, hff, hz9⟩ := hk9.walk; have hX9 := hX.ext ((Ext.refl _).drew.trans hw'); have y0 := (hc _ _ l1).trans d0; have y1 := (hc _ _ l1).trans d1; have y2 := (hc _ _ l1).trans d2; have y3 := (hc _ _ l1).trans d3; have y4 := (hc _ _ l1).trans d4; have y5 := (hc _ _ l1).trans d5; have y6 := (hc _ _ l1).trans d6; have z0 := hX9.cell 0; have z1 := hX9.cell 1; have z2 := hX9.cell 2; have z3 := hX9.cell 3; have z4 := hX9.cell 4; have z5 := hX9.cell 5; have z6 := hX9.cell 6
      refine ⟨rfl, ?_⟩; simp only [putsL]; change qT (pT (pT _ 31 (sv 1)) 30 (sv 0)); simp only [qT, pT, Act.put, sIA, sCS, sCZ]; simp [go_sem, quietTo, Ext.refl, ↓IntWalk.iteOmega, f0, f1, hkI]; (all_goals try simp (disch := omega) only [IntWalk.i64_in]); all_goals rfl
     refine fq 3 rfl rfl rfl cK rfl rfl ?_; apply Exists.intro; constructor
     ·rintro sv w' hw' ⟨_, _, (f2 : sv 2 = _), -⟩; (try dsimp only at f2)
      have hk9 := (hkE.trans ((Ext.refl _).drew.trans hw')); obtain ⟨hc, hff, hz9⟩ := hk9.walk; have hX9 := hX.ext ((Ext.refl _).drew.trans hw'); have y0 := (hc _ _ l1).trans d0; have y1 := (hc _ _ l1).trans d1; have y2 := (hc _ _ l1).trans d2; have y3 := (hc _ _ l1).trans d3; have y4 := (hc _ _ l1).trans d4; have y5 := (hc _ _ l1).trans d5; have y6 := (hc _ _ l1).trans d6; have z0 := hX9.cell 0; have z1 := hX9.cell 1; have z2 := hX9.cell 2; have z3 := hX9.cell 3; have z4 := hX9.cell 4; have z5 := hX9.cell 5; have z6 := hX9.cell 6
      refine ⟨rfl, ?_⟩; simp only [putsL]; change qT (pT (pT (pT _ 32 (sv 2)) 31 (sv 1)) 30 (sv 0)); simp only [qT, pT, Act.put, sIA, sCS, sCZ]; simp [go_sem, quietTo, Ext.refl, ↓IntWalk.iteOmega, f2, y0, y1, y2, y3, y4, y5, y6]; (all_goals try simp (disch := omega) only [IntWalk.i64_in]); all_goals rfl
     refine fq 4 rfl rfl rfl cK rfl rfl ?_; apply Exists.intro; constructor
     ·intro sv w' hw' hfa
      have hk9 := (hkE.trans ((Ext.refl _).drew.trans hw')); obtain ⟨hc, hff, hz9⟩ := hk9.walk; have hX9 := hX.ext ((Ext.refl _).drew.trans hw'); have y0 := (hc _ _ l1).trans d0; have y1 := (hc _ _ l1).trans d1; have y2 := (hc _ _ l1).trans d2; have y3 := (hc _ _ l1).trans d3; have y4 := (hc _ _ l1).trans d4; have y5 := (hc _ _ l1).trans d5; have y6 := (hc _ _ l1).trans d6; have z0 := hX9.cell 0; have z1 := hX9.cell 1; have z2 := hX9.cell 2; have z3 := hX9.cell 3; have z4 := hX9.cell 4; have z5 := hX9.cell 5; have z6 := hX9.cell 6
      refine ⟨rfl, ?_⟩; simp only [putsL]; change qT _; simp only [qT, Act.put, sIA, sCS, sCZ]; simp [go_sem, quietTo, Ext.refl, ↓IntWalk.iteOmega, z0, z1, z2, z3, z4, z5, z6]; (all_goals try simp (disch := omega) only [IntWalk.i64_in]); all_goals rfl
     refine fq 5 rfl rfl rfl cK rfl rfl ?_; apply Exists.intro; constructor
     ·rintro sv w' hw' ⟨_, _, _, (f3 : sv 3 = _), (f4 : sv 4 = _), -⟩; (try dsimp only at f3 f4)
      refine ⟨rfl, ?_⟩; simp only [putsL]; change qT (pT (pT (pT (pT (pT _ 34 (sv 4)) 33 (sv 3)) 32 (sv 2)) 31 (sv 1)) 30 (sv 0)); simp only [qT, pT, Act.put, sIA, sCS, sCZ]; simp [go_sem, quietTo, Ext.refl, ↓IntWalk.iteOmega, f3, f4]; (all_goals try simp (disch := omega) only [IntWalk.i64_in]); all_goals rfl
     refine fq 6 rfl rfl rfl cK rfl rfl ?_; apply Exists.intro; constructor
     ·rintro sv w' hw' ⟨_, _, _, _, _, (f5 : sv 5 = _), -⟩; (try dsimp only at f5)
      refine ⟨rfl, ?_⟩; simp only [putsL]; change qT (pT (pT (pT (pT (pT (pT _ 35 (sv 5)) 34 (sv 4)) 33 (sv 3)) 32 (sv 2)) 31 (sv 1)) 30 (sv 0)); simp only [qT, pT, Act.put, sIA, sCS, sCZ]; simp [go_sem, quietTo, Ext.refl, f5]; all_goals rfl
     refine fac_nil fun xq wrq herq hfrq hcrq holdq hapq => ?_
     obtain ⟨(f0 : xq 0 = _), (f1 : xq 1 = _), (f2 : xq 2 = _), (f3 : xq 3 = _), (f4 : xq 4 = _), (f5 : xq 5 = _), (f6 : xq 6 = _), -⟩ := hfrq; (try dsimp only at f0 f1 f2 f3 f4 f5 f6)
     change wpList _ _ _ _ (pT (pT (pT (pT (pT (pT (pT _ 30 (xq 0)) 31 (xq 1)) 32 (xq 2)) 33 (xq 3)) 34 (xq 4)) 35 (xq 5)) 29 (xq 6)) _
     simp only [putsL, Nat.reduceAdd, List.drop_succ_cons, List.drop_zero, List.drop_nil, pT, Act.put, sIA, sCS, sCZ]
     try simp only [f0, f1, f2, f3, f4, f5, f6]
     clear f0 f1 f2 f3 f4 f5 f6; clear holdq hapq; clear hX d0 d1 d2 d3 d4 d5 d6
     go_wp2
     have hq9 := (Ext.refl _).drew.trans herq
     go_roundw
     case rel => exact ⟨k + 1, o, _, by go_num, rfl, by omega, own_ext hq9 hown2.out, hmf3.out, by omega, hkE.trans hq9⟩
     case measure => simp [intOf]; omega
    ·simp only [if_neg e] at hmf3
     have hrf := fun w' hw => hres0.out w' hw hmf3
     obtain ⟨by2, no2, at2, k2, p2, c2, s2⟩ := y
     obtain ⟨xb, xn, xa, xk, xp, xc, xs⟩ := x
     dsimp only at *
     subst hy1 hy2
     replace hrf := Lib.hid hrf; clear hmf3 hown2
     go_upto_region 8 with fail
     by_cases e3 : at2 = xa
     rotate_left
     ·skip
      replace e := Lib.hid e
      refine wp_region_facts [] [([],false,false),([],false,false),([0,1],false,false),([0,1,2],false,false),([],false,false),([0,1,2,3,4],false,false),([0,1,2,3,4,5],false,false)] (Ext) Ext (fun _ => True) (by kernel_rfl) (by kernel_rfl) Ext.refl (fun _ _ _ => Ext.trans) (fun _ _ h => h) (fun _ _ h => h.size) (fun _ _ h _ => h) trivial ?_
      dsimp only [List.length_cons, List.length_nil, List.drop_succ_cons, List.drop_zero, List.drop_nil]
      refine fq 0 rfl rfl rfl cK rfl rfl ?_; apply Exists.intro; constructor
      ·intro sv w' hw' hfa
       refine ⟨rfl, ?_⟩; simp only [putsL]; change qT _; simp only [qT, Act.put, sIA, sCS, sCZ]; simp [go_sem, quietTo, Ext.refl]; all_goals rfl
      refine fq 1 rfl rfl rfl cK rfl rfl ?_; apply Exists.intro; constructor
      ·intro sv w' hw' hfa
       refine ⟨rfl, ?_⟩; simp only [putsL]; change qT _; simp only [qT, Act.put, sIA, sCS, sCZ]; simp [go_sem, quietTo, Ext.refl]; all_goals rfl
      refine fq 2 rfl rfl rfl cK rfl rfl ?_; apply Exists.intro; constructor
      ·rintro sv w' hw' ⟨(f0 : sv 0 = _), (f1 : sv 1 = _), -⟩; (try dsimp only at f0 f1)
       have hk9 := (hkE.trans ((Ext.refl _).drew.trans hw')); obtain ⟨hc, hff, hz9⟩ := hk9.walk; have hX9 := hX.ext ((Ext.refl _).drew.trans hw'); have y0 := (hc _ _ l1).trans d0; have y1 := (hc _ _ l1).trans d1; have y2 := (hc _ _ l1).trans d2; have y3 := (hc _ _ l1).trans d3; have y4 := (hc _ _ l1).trans d4; have y5 := (hc _ _ l1).trans d5; have y6 := (hc _ _ l1).trans d6; have z0 := hX9.cell 0; have z1 := hX9.cell 1; have z2 := hX9.cell 2; have z3 := hX9.cell 3; have z4 := hX9.cell 4; have z5 := hX9.cell 5; have z6 := hX9.cell 6
       refine ⟨rfl, ?_⟩; simp only [putsL]; change qT (pT (pT _ 31 (sv 1)) 30 (sv 0)); simp only [qT, pT, Act.put, sIA, sCS, sCZ]; simp [go_sem, quietTo, Ext.refl, ↓IntWalk.iteOmega, f0, f1, hkI]; (all_goals try simp (disch := omega) only [IntWalk.i64_in]); all_goals rfl
      refine fq 3 rfl rfl rfl cK rfl rfl ?_; apply Exists.intro; constructor
      ·rintro sv w' hw' ⟨_, _, (f2 : sv 2 = _), -⟩; (try dsimp only at f2)
       have hk9 := (hkE.trans ((Ext.refl _).drew.trans hw')); obtain ⟨hc, hff, hz9⟩ := hk9.walk; have hX9 := hX.ext ((Ext.refl _).drew.trans hw'); have y0 := (hc _ _ l1).trans d0; have y1 := (hc _ _ l1).trans d1; have y2 := (hc _ _ l1).trans d2; have y3 := (hc _ _ l1).trans d3; have y4 := (hc _ _ l1).trans d4; have y5 := (hc _ _ l1).trans d5; have y6 := (hc _ _ l1).trans d6; have z0 := hX9.cell 0; have z1 := hX9.cell 1; have z2 := hX9.cell 2; have z3 := hX9.cell 3; have z4 := hX9.cell 4; have z5 := hX9.cell 5; have z6 := hX9.cell 6
       refine ⟨rfl, ?_⟩; simp only [putsL]; change qT (pT (pT (pT _ 32 (sv 2)) 31 (sv 1)) 30 (sv 0)); simp only [qT, pT, Act.put, sIA, sCS, sCZ]; simp [go_sem, quietTo, Ext.refl, ↓IntWalk.iteOmega, f2, y0, y1, y2, y3, y4, y5, y6]; (all_goals try simp (disch := omega) only [IntWalk.i64_in]); all_goals rfl
      refine fq 4 rfl rfl rfl cK rfl rfl ?_; apply Exists.intro; constructor
      ·intro sv w' hw' hfa
       have hk9 := (hkE.trans ((Ext.refl _).drew.trans hw')); obtain ⟨hc, hff, hz9⟩ := hk9.walk; have hX9 := hX.ext ((Ext.refl _).drew.trans hw'); have y0 := (hc _ _ l1).trans d0; have y1 := (hc _ _ l1).trans d1; have y2 := (hc _ _ l1).trans d2; have y3 := (hc _ _ l1).trans d3; have y4 := (hc _ _ l1).trans d4; have y5 := (hc _ _ l1).trans d5; have y6 := (hc _ _ l1).trans d6; have z0 := hX9.cell 0; have z1 := hX9.cell 1; have z2 := hX9.cell 2; have z3 := hX9.cell 3; have z4 := hX9.cell 4; have z5 := hX9.cell 5; have z6 := hX9.cell 6
       refine ⟨rfl, ?_⟩; simp only [putsL]; change qT _; simp only [qT, Act.put, sIA, sCS, sCZ]; simp [go_sem, quietTo, Ext.refl, ↓IntWalk.iteOmega, z0, z1, z2, z3, z4, z5, z6]; (all_goals try simp (disch := omega) only [IntWalk.i64_in]); all_goals rfl
      refine fq 5 rfl rfl rfl cK rfl rfl ?_; apply Exists.intro; constructor
      ·rintro sv w' hw' ⟨_, _, _, (f3 : sv 3 = _), (f4 : sv 4 = _), -⟩; (try dsimp only at f3 f4)
       have hk9 := (hkE.trans ((Ext.refl _).drew.trans hw')); obtain ⟨hc, hff, hz9⟩ := hk9.walk; have hX9 := hX.ext ((Ext.refl _).drew.trans hw'); have y0 := (hc _ _ l1).trans d0; have y1 := (hc _ _ l1).trans d1; have y2 := (hc _ _ l1).trans d2; have y3 := (hc _ _ l1).trans d3; have y4 := (hc _ _ l1).trans d4; have y5 := (hc _ _ l1).trans d5; have y6 := (hc _ _ l1).trans d6; have z0 := hX9.cell 0; have z1 := hX9.cell 1; have z2 := hX9.cell 2; have z3 := hX9.cell 3; have z4 := hX9.cell 4; have z5 := hX9.cell 5; have z6 := hX9.cell 6
       refine ⟨rfl, ?_⟩; simp only [putsL]; change qT (pT (pT (pT (pT (pT _ 34 (sv 4)) 33 (sv 3)) 32 (sv 2)) 31 (sv 1)) 30 (sv 0)); simp only [qT, pT, Act.put, sIA, sCS, sCZ]; simp [go_sem, quietTo, Ext.refl, ↓IntWalk.iteOmega, f3, f4, e3]; (all_goals try simp (disch := omega) only [IntWalk.i64_in]); all_goals rfl
      refine fq 6 rfl rfl rfl cK rfl rfl ?_; apply Exists.intro; constructor
      ·rintro sv w' hw' ⟨_, _, _, _, _, (f5 : sv 5 = _), -⟩; (try dsimp only at f5)
       refine ⟨rfl, ?_⟩; simp only [putsL]; change qT (pT (pT (pT (pT (pT (pT _ 35 (sv 5)) 34 (sv 4)) 33 (sv 3)) 32 (sv 2)) 31 (sv 1)) 30 (sv 0)); simp only [qT, pT, Act.put, sIA, sCS, sCZ]; simp [go_sem, quietTo, Ext.refl, f5]; all_goals rfl
      refine fac_nil fun xq wrq herq hfrq hcrq holdq hapq => ?_
      obtain ⟨(f0 : xq 0 = _), (f1 : xq 1 = _), (f2 : xq 2 = _), (f3 : xq 3 = _), (f4 : xq 4 = _), (f5 : xq 5 = _), (f6 : xq 6 = _), -⟩ := hfrq; (try dsimp only at f0 f1 f2 f3 f4 f5 f6)
      change wpList _ _ _ _ (pT (pT (pT (pT (pT (pT (pT _ 30 (xq 0)) 31 (xq 1)) 32 (xq 2)) 33 (xq 3)) 34 (xq 4)) 35 (xq 5)) 29 (xq 6)) _
      simp only [putsL, Nat.reduceAdd, List.drop_succ_cons, List.drop_zero, List.drop_nil, pT, Act.put, sIA, sCS, sCZ]
      try simp only [f0, f1, f2, f3, f4, f5, f6]
      clear f0 f1 f2 f3 f4 f5 f6; clear holdq hapq; clear hX d0 d1 d2 d3 d4 d5 d6
      go_wp2
      go_ret2
      exact hrf.out _ (hbk.out.trans ((Ext.refl _).drew.trans herq))
     subst e3
     by_cases e4 : k2 = xk
     rotate_left
     ·skip
      replace e := Lib.hid e
      refine wp_region_facts [] [([],false,false),([],false,false),([0,1],false,false),([0,1,2],false,false),([],false,false),([0,1,2,3,4],false,false),([0,1,2,3,4,5],false,false)] (Ext) Ext (fun _ => True) (by kernel_rfl) (by kernel_rfl) Ext.refl (fun _ _ _ => Ext.trans) (fun _ _ h => h) (fun _ _ h => h.size) (fun _ _ h _ => h) trivial ?_
      dsimp only [List.length_cons, List.length_nil, List.drop_succ_cons, List.drop_zero, List.drop_nil]
      refine fq 0 rfl rfl rfl cK rfl rfl ?_; apply Exists.intro; constructor
      ·intro sv w' hw' hfa
       refine ⟨rfl, ?_⟩; simp only [putsL]; change qT _; simp only [qT, Act.put, sIA, sCS, sCZ]; simp [go_sem, quietTo, Ext.refl]; all_goals rfl
      refine fq 1 rfl rfl rfl cK rfl rfl ?_; apply Exists.intro; constructor
      ·intro sv w' hw' hfa
       refine ⟨rfl, ?_⟩; simp only [putsL]; change qT _; simp only [qT, Act.put, sIA, sCS, sCZ]; simp [go_sem, quietTo, Ext.refl]; all_goals rfl
      refine fq 2 rfl rfl rfl cK rfl rfl ?_; apply Exists.intro; constructor
      ·rintro sv w' hw' ⟨(f0 : sv 0 = _), (f1 : sv 1 = _), -⟩; (try dsimp only at f0 f1)
       have hk9 := (hkE.trans ((Ext.refl _).drew.trans hw')); obtain ⟨hc, hff, hz9⟩ := hk9.walk; have hX9 := hX.ext ((Ext.refl _).drew.trans hw'); have y0 := (hc _ _ l1).trans d0; have y1 := (hc _ _ l1).trans d1; have y2 := (hc _ _ l1).trans d2; have y3 := (hc _ _ l1).trans d3; have y4 := (hc _ _ l1).trans d4; have y5 := (hc _ _ l1).trans d5; have y6 := (hc _ _ l1).trans d6; have z0 := hX9.cell 0; have z1 := hX9.cell 1; have z2 := hX9.cell 2; have z3 := hX9.cell 3; have z4 := hX9.cell 4; have z5 := hX9.cell 5; have z6 := hX9.cell 6
       refine ⟨rfl, ?_⟩; simp only [putsL]; change qT (pT (pT _ 31 (sv 1)) 30 (sv 0)); simp only [qT, pT, Act.put, sIA, sCS, sCZ]; simp [go_sem, quietTo, Ext.refl, ↓IntWalk.iteOmega, f0, f1, hkI]; (all_goals try simp (disch := omega) only [IntWalk.i64_in]); all_goals rfl
      refine fq 3 rfl rfl rfl cK rfl rfl ?_; apply Exists.intro; constructor
      ·rintro sv w' hw' ⟨_, _, (f2 : sv 2 = _), -⟩; (try dsimp only at f2)
       have hk9 := (hkE.trans ((Ext.refl _).drew.trans hw')); obtain ⟨hc, hff, hz9⟩ := hk9.walk; have hX9 := hX.ext ((Ext.refl _).drew.trans hw'); have y0 := (hc _ _ l1).trans d0; have y1 := (hc _ _ l1).trans d1; have y2 := (hc _ _ l1).trans d2; have y3 := (hc _ _ l1).trans d3; have y4 := (hc _ _ l1).trans d4; have y5 := (hc _ _ l1).trans d5; have y6 := (hc _ _ l1).trans d6; have z0 := hX9.cell 0; have z1 := hX9.cell 1; have z2 := hX9.cell 2; have z3 := hX9.cell 3; have z4 := hX9.cell 4; have z5 := hX9.cell 5; have z6 := hX9.cell 6
       refine ⟨rfl, ?_⟩; simp only [putsL]; change qT (pT (pT (pT _ 32 (sv 2)) 31 (sv 1)) 30 (sv 0)); simp only [qT, pT, Act.put, sIA, sCS, sCZ]; simp [go_sem, quietTo, Ext.refl, ↓IntWalk.iteOmega, f2, y0, y1, y2, y3, y4, y5, y6]; (all_goals try simp (disch := omega) only [IntWalk.i64_in]); all_goals rfl
      refine fq 4 rfl rfl rfl cK rfl rfl ?_; apply Exists.intro; constructor
      ·intro sv w' hw' hfa
       have hk9 := (hkE.trans ((Ext.refl _).drew.trans hw')); obtain ⟨hc, hff, hz9⟩ := hk9.walk; have hX9 := hX.ext ((Ext.refl _).drew.trans hw'); have y0 := (hc _ _ l1).trans d0; have y1 := (hc _ _ l1).trans d1; have y2 := (hc _ _ l1).trans d2; have y3 := (hc _ _ l1).trans d3; have y4 := (hc _ _ l1).trans d4; have y5 := (hc _ _ l1).trans d5; have y6 := (hc _ _ l1).trans d6; have z0 := hX9.cell 0; have z1 := hX9.cell 1; have z2 := hX9.cell 2; have z3 := hX9.cell 3; have z4 := hX9.cell 4; have z5 := hX9.cell 5; have z6 := hX9.cell 6
       refine ⟨rfl, ?_⟩; simp only [putsL]; change qT _; simp only [qT, Act.put, sIA, sCS, sCZ]; simp [go_sem, quietTo, Ext.refl, ↓IntWalk.iteOmega, z0, z1, z2, z3, z4, z5, z6]; (all_goals try simp (disch := omega) only [IntWalk.i64_in]); all_goals rfl
      refine fq 5 rfl rfl rfl cK rfl rfl ?_; apply Exists.intro; constructor
      ·rintro sv w' hw' ⟨_, _, _, (f3 : sv 3 = _), (f4 : sv 4 = _), -⟩; (try dsimp only at f3 f4)
       have hk9 := (hkE.trans ((Ext.refl _).drew.trans hw')); obtain ⟨hc, hff, hz9⟩ := hk9.walk; have hX9 := hX.ext ((Ext.refl _).drew.trans hw'); have y0 := (hc _ _ l1).trans d0; have y1 := (hc _ _ l1).trans d1; have y2 := (hc _ _ l1).trans d2; have y3 := (hc _ _ l1).trans d3; have y4 := (hc _ _ l1).trans d4; have y5 := (hc _ _ l1).trans d5; have y6 := (hc _ _ l1).trans d6; have z0 := hX9.cell 0; have z1 := hX9.cell 1; have z2 := hX9.cell 2; have z3 := hX9.cell 3; have z4 := hX9.cell 4; have z5 := hX9.cell 5; have z6 := hX9.cell 6
       refine ⟨rfl, ?_⟩; simp only [putsL]; change qT (pT (pT (pT (pT (pT _ 34 (sv 4)) 33 (sv 3)) 32 (sv 2)) 31 (sv 1)) 30 (sv 0)); simp only [qT, pT, Act.put, sIA, sCS, sCZ]; simp [go_sem, quietTo, Ext.refl, ↓IntWalk.iteOmega, f3, f4, e4]; (all_goals try simp (disch := omega) only [IntWalk.i64_in]); all_goals rfl
      refine fq 6 rfl rfl rfl cK rfl rfl ?_; apply Exists.intro; constructor
      ·rintro sv w' hw' ⟨_, _, _, _, _, (f5 : sv 5 = _), -⟩; (try dsimp only at f5)
       refine ⟨rfl, ?_⟩; simp only [putsL]; change qT (pT (pT (pT (pT (pT (pT _ 35 (sv 5)) 34 (sv 4)) 33 (sv 3)) 32 (sv 2)) 31 (sv 1)) 30 (sv 0)); simp only [qT, pT, Act.put, sIA, sCS, sCZ]; simp [go_sem, quietTo, Ext.refl, f5]; all_goals rfl
      refine fac_nil fun xq wrq herq hfrq hcrq holdq hapq => ?_
      obtain ⟨(f0 : xq 0 = _), (f1 : xq 1 = _), (f2 : xq 2 = _), (f3 : xq 3 = _), (f4 : xq 4 = _), (f5 : xq 5 = _), (f6 : xq 6 = _), -⟩ := hfrq; (try dsimp only at f0 f1 f2 f3 f4 f5 f6)
      change wpList _ _ _ _ (pT (pT (pT (pT (pT (pT (pT _ 30 (xq 0)) 31 (xq 1)) 32 (xq 2)) 33 (xq 3)) 34 (xq 4)) 35 (xq 5)) 29 (xq 6)) _
      simp only [putsL, Nat.reduceAdd, List.drop_succ_cons, List.drop_zero, List.drop_nil, pT, Act.put, sIA, sCS, sCZ]
      try simp only [f0, f1, f2, f3, f4, f5, f6]
      clear f0 f1 f2 f3 f4 f5 f6; clear holdq hapq; clear hX d0 d1 d2 d3 d4 d5 d6
      go_wp2
      go_ret2
      exact hrf.out _ (hbk.out.trans ((Ext.refl _).drew.trans herq))
     subst e4
     by_cases e5 : p2 = xp
     rotate_left
     ·have e7 : (p2.toList == xp.toList) = false := by rw [← Bool.not_eq_true, bytesB]; exact e5
      replace e := Lib.hid e
      refine wp_region_facts [] [([],false,false),([],false,false),([0,1],false,false),([0,1,2],false,false),([],false,false),([0,1,2,3,4],false,false),([0,1,2,3,4,5],false,false)] (Ext) Ext (fun _ => True) (by kernel_rfl) (by kernel_rfl) Ext.refl (fun _ _ _ => Ext.trans) (fun _ _ h => h) (fun _ _ h => h.size) (fun _ _ h _ => h) trivial ?_
      dsimp only [List.length_cons, List.length_nil, List.drop_succ_cons, List.drop_zero, List.drop_nil]
      refine fq 0 rfl rfl rfl cK rfl rfl ?_; apply Exists.intro; constructor
      ·intro sv w' hw' hfa
       refine ⟨rfl, ?_⟩; simp only [putsL]; change qT _; simp only [qT, Act.put, sIA, sCS, sCZ]; simp [go_sem, quietTo, Ext.refl]; all_goals rfl
      refine fq 1 rfl rfl rfl cK rfl rfl ?_; apply Exists.intro; constructor
      ·intro sv w' hw' hfa
       refine ⟨rfl, ?_⟩; simp only [putsL]; change qT _; simp only [qT, Act.put, sIA, sCS, sCZ]; simp [go_sem, quietTo, Ext.refl]; all_goals rfl
      refine fq 2 rfl rfl rfl cK rfl rfl ?_; apply Exists.intro; constructor
      ·rintro sv w' hw' ⟨(f0 : sv 0 = _), (f1 : sv 1 = _), -⟩; (try dsimp only at f0 f1)
       have hk9 := (hkE.trans ((Ext.refl _).drew.trans hw')); obtain ⟨hc, hff, hz9⟩ := hk9.walk; have hX9 := hX.ext ((Ext.refl _).drew.trans hw'); have y0 := (hc _ _ l1).trans d0; have y1 := (hc _ _ l1).trans d1; have y2 := (hc _ _ l1).trans d2; have y3 := (hc _ _ l1).trans d3; have y4 := (hc _ _ l1).trans d4; have y5 := (hc _ _ l1).trans d5; have y6 := (hc _ _ l1).trans d6; have z0 := hX9.cell 0; have z1 := hX9.cell 1; have z2 := hX9.cell 2; have z3 := hX9.cell 3; have z4 := hX9.cell 4; have z5 := hX9.cell 5; have z6 := hX9.cell 6
       refine ⟨rfl, ?_⟩; simp only [putsL]; change qT (pT (pT _ 31 (sv 1)) 30 (sv 0)); simp only [qT, pT, Act.put, sIA, sCS, sCZ]; simp [go_sem, quietTo, Ext.refl, ↓IntWalk.iteOmega, f0, f1, hkI]; (all_goals try simp (disch := omega) only [IntWalk.i64_in]); all_goals rfl
      refine fq 3 rfl rfl rfl cK rfl rfl ?_; apply Exists.intro; constructor
      ·rintro sv w' hw' ⟨_, _, (f2 : sv 2 = _), -⟩; (try dsimp only at f2)
       have hk9 := (hkE.trans ((Ext.refl _).drew.trans hw')); obtain ⟨hc, hff, hz9⟩ := hk9.walk; have hX9 := hX.ext ((Ext.refl _).drew.trans hw'); have y0 := (hc _ _ l1).trans d0; have y1 := (hc _ _ l1).trans d1; have y2 := (hc _ _ l1).trans d2; have y3 := (hc _ _ l1).trans d3; have y4 := (hc _ _ l1).trans d4; have y5 := (hc _ _ l1).trans d5; have y6 := (hc _ _ l1).trans d6; have z0 := hX9.cell 0; have z1 := hX9.cell 1; have z2 := hX9.cell 2; have z3 := hX9.cell 3; have z4 := hX9.cell 4; have z5 := hX9.cell 5; have z6 := hX9.cell 6
       refine ⟨rfl, ?_⟩; simp only [putsL]; change qT (pT (pT (pT _ 32 (sv 2)) 31 (sv 1)) 30 (sv 0)); simp only [qT, pT, Act.put, sIA, sCS, sCZ]; simp [go_sem, quietTo, Ext.refl, ↓IntWalk.iteOmega, f2, y0, y1, y2, y3, y4, y5, y6]; (all_goals try simp (disch := omega) only [IntWalk.i64_in]); all_goals rfl
      refine fq 4 rfl rfl rfl cK rfl rfl ?_; apply Exists.intro; constructor
      ·intro sv w' hw' hfa
       have hk9 := (hkE.trans ((Ext.refl _).drew.trans hw')); obtain ⟨hc, hff, hz9⟩ := hk9.walk; have hX9 := hX.ext ((Ext.refl _).drew.trans hw'); have y0 := (hc _ _ l1).trans d0; have y1 := (hc _ _ l1).trans d1; have y2 := (hc _ _ l1).trans d2; have y3 := (hc _ _ l1).trans d3; have y4 := (hc _ _ l1).trans d4; have y5 := (hc _ _ l1).trans d5; have y6 := (hc _ _ l1).trans d6; have z0 := hX9.cell 0; have z1 := hX9.cell 1; have z2 := hX9.cell 2; have z3 := hX9.cell 3; have z4 := hX9.cell 4; have z5 := hX9.cell 5; have z6 := hX9.cell 6
       refine ⟨rfl, ?_⟩; simp only [putsL]; change qT _; simp only [qT, Act.put, sIA, sCS, sCZ]; simp [go_sem, quietTo, Ext.refl, ↓IntWalk.iteOmega, z0, z1, z2, z3, z4, z5, z6]; (all_goals try simp (disch := omega) only [IntWalk.i64_in]); all_goals rfl
      refine fq 5 rfl rfl rfl cK rfl rfl ?_; apply Exists.intro; constructor
      ·rintro sv w' hw' ⟨_, _, _, (f3 : sv 3 = _), (f4 : sv 4 = _), -⟩; (try dsimp only at f3 f4)
       have hk9 := (hkE.trans ((Ext.refl _).drew.trans hw')); obtain ⟨hc, hff, hz9⟩ := hk9.walk; have hX9 := hX.ext ((Ext.refl _).drew.trans hw'); have y0 := (hc _ _ l1).trans d0; have y1 := (hc _ _ l1).trans d1; have y2 := (hc _ _ l1).trans d2; have y3 := (hc _ _ l1).trans d3; have y4 := (hc _ _ l1).trans d4; have y5 := (hc _ _ l1).trans d5; have y6 := (hc _ _ l1).trans d6; have z0 := hX9.cell 0; have z1 := hX9.cell 1; have z2 := hX9.cell 2; have z3 := hX9.cell 3; have z4 := hX9.cell 4; have z5 := hX9.cell 5; have z6 := hX9.cell 6
       refine ⟨rfl, ?_⟩; simp only [putsL]; change qT (pT (pT (pT (pT (pT _ 34 (sv 4)) 33 (sv 3)) 32 (sv 2)) 31 (sv 1)) 30 (sv 0)); simp only [qT, pT, Act.put, sIA, sCS, sCZ]; simp [go_sem, quietTo, Ext.refl, ↓IntWalk.iteOmega, f3, f4, e7]; (all_goals try simp (disch := omega) only [IntWalk.i64_in]); all_goals rfl
      refine fq 6 rfl rfl rfl cK rfl rfl ?_; apply Exists.intro; constructor
      ·rintro sv w' hw' ⟨_, _, _, _, _, (f5 : sv 5 = _), -⟩; (try dsimp only at f5)
       refine ⟨rfl, ?_⟩; simp only [putsL]; change qT (pT (pT (pT (pT (pT (pT _ 35 (sv 5)) 34 (sv 4)) 33 (sv 3)) 32 (sv 2)) 31 (sv 1)) 30 (sv 0)); simp only [qT, pT, Act.put, sIA, sCS, sCZ]; simp [go_sem, quietTo, Ext.refl, f5]; all_goals rfl
      refine fac_nil fun xq wrq herq hfrq hcrq holdq hapq => ?_
      obtain ⟨(f0 : xq 0 = _), (f1 : xq 1 = _), (f2 : xq 2 = _), (f3 : xq 3 = _), (f4 : xq 4 = _), (f5 : xq 5 = _), (f6 : xq 6 = _), -⟩ := hfrq; (try dsimp only at f0 f1 f2 f3 f4 f5 f6)
      change wpList _ _ _ _ (pT (pT (pT (pT (pT (pT (pT _ 30 (xq 0)) 31 (xq 1)) 32 (xq 2)) 33 (xq 3)) 34 (xq 4)) 35 (xq 5)) 29 (xq 6)) _
      simp only [putsL, Nat.reduceAdd, List.drop_succ_cons, List.drop_zero, List.drop_nil, pT, Act.put, sIA, sCS, sCZ]
      try simp only [f0, f1, f2, f3, f4, f5, f6]
      clear f0 f1 f2 f3 f4 f5 f6; clear holdq hapq; clear hX d0 d1 d2 d3 d4 d5 d6
      go_wp2
      go_ret2
      exact hrf.out _ (hbk.out.trans ((Ext.refl _).drew.trans herq))
     subst e5
     by_cases e6 : c2 = xc
     rotate_left
     ·skip
      replace e := Lib.hid e
      refine wp_region_facts [] [([],false,false),([],false,false),([0,1],false,false),([0,1,2],false,false),([],false,false),([0,1,2,3,4],false,false),([0,1,2,3,4,5],false,false)] (Ext) Ext (fun _ => True) (by kernel_rfl) (by kernel_rfl) Ext.refl (fun _ _ _ => Ext.trans) (fun _ _ h => h) (fun _ _ h => h.size) (fun _ _ h _ => h) trivial ?_
      dsimp only [List.length_cons, List.length_nil, List.drop_succ_cons, List.drop_zero, List.drop_nil]
      refine fq 0 rfl rfl rfl cK rfl rfl ?_; apply Exists.intro; constructor
      ·intro sv w' hw' hfa
       refine ⟨rfl, ?_⟩; simp only [putsL]; change qT _; simp only [qT, Act.put, sIA, sCS, sCZ]; simp [go_sem, quietTo, Ext.refl]; all_goals rfl
      refine fq 1 rfl rfl rfl cK rfl rfl ?_; apply Exists.intro; constructor
      ·intro sv w' hw' hfa
       refine ⟨rfl, ?_⟩; simp only [putsL]; change qT _; simp only [qT, Act.put, sIA, sCS, sCZ]; simp [go_sem, quietTo, Ext.refl]; all_goals rfl
      refine fq 2 rfl rfl rfl cK rfl rfl ?_; apply Exists.intro; constructor
      ·rintro sv w' hw' ⟨(f0 : sv 0 = _), (f1 : sv 1 = _), -⟩; (try dsimp only at f0 f1)
       have hk9 := (hkE.trans ((Ext.refl _).drew.trans hw')); obtain ⟨hc, hff, hz9⟩ := hk9.walk; have hX9 := hX.ext ((Ext.refl _).drew.trans hw'); have y0 := (hc _ _ l1).trans d0; have y1 := (hc _ _ l1).trans d1; have y2 := (hc _ _ l1).trans d2; have y3 := (hc _ _ l1).trans d3; have y4 := (hc _ _ l1).trans d4; have y5 := (hc _ _ l1).trans d5; have y6 := (hc _ _ l1).trans d6; have z0 := hX9.cell 0; have z1 := hX9.cell 1; have z2 := hX9.cell 2; have z3 := hX9.cell 3; have z4 := hX9.cell 4; have z5 := hX9.cell 5; have z6 := hX9.cell 6
       refine ⟨rfl, ?_⟩; simp only [putsL]; change qT (pT (pT _ 31 (sv 1)) 30 (sv 0)); simp only [qT, pT, Act.put, sIA, sCS, sCZ]; simp [go_sem, quietTo, Ext.refl, ↓IntWalk.iteOmega, f0, f1, hkI]; (all_goals try simp (disch := omega) only [IntWalk.i64_in]); all_goals rfl
      refine fq 3 rfl rfl rfl cK rfl rfl ?_; apply Exists.intro; constructor
      ·rintro sv w' hw' ⟨_, _, (f2 : sv 2 = _), -⟩; (try dsimp only at f2)
       have hk9 := (hkE.trans ((Ext.refl _).drew.trans hw')); obtain ⟨hc, hff, hz9⟩ := hk9.walk; have hX9 := hX.ext ((Ext.refl _).drew.trans hw'); have y0 := (hc _ _ l1).trans d0; have y1 := (hc _ _ l1).trans d1; have y2 := (hc _ _ l1).trans d2; have y3 := (hc _ _ l1).trans d3; have y4 := (hc _ _ l1).trans d4; have y5 := (hc _ _ l1).trans d5; have y6 := (hc _ _ l1).trans d6; have z0 := hX9.cell 0; have z1 := hX9.cell 1; have z2 := hX9.cell 2; have z3 := hX9.cell 3; have z4 := hX9.cell 4; have z5 := hX9.cell 5; have z6 := hX9.cell 6
       refine ⟨rfl, ?_⟩; simp only [putsL]; change qT (pT (pT (pT _ 32 (sv 2)) 31 (sv 1)) 30 (sv 0)); simp only [qT, pT, Act.put, sIA, sCS, sCZ]; simp [go_sem, quietTo, Ext.refl, ↓IntWalk.iteOmega, f2, y0, y1, y2, y3, y4, y5, y6]; (all_goals try simp (disch := omega) only [IntWalk.i64_in]); all_goals rfl
      refine fq 4 rfl rfl rfl cK rfl rfl ?_; apply Exists.intro; constructor
      ·intro sv w' hw' hfa
       have hk9 := (hkE.trans ((Ext.refl _).drew.trans hw')); obtain ⟨hc, hff, hz9⟩ := hk9.walk; have hX9 := hX.ext ((Ext.refl _).drew.trans hw'); have y0 := (hc _ _ l1).trans d0; have y1 := (hc _ _ l1).trans d1; have y2 := (hc _ _ l1).trans d2; have y3 := (hc _ _ l1).trans d3; have y4 := (hc _ _ l1).trans d4; have y5 := (hc _ _ l1).trans d5; have y6 := (hc _ _ l1).trans d6; have z0 := hX9.cell 0; have z1 := hX9.cell 1; have z2 := hX9.cell 2; have z3 := hX9.cell 3; have z4 := hX9.cell 4; have z5 := hX9.cell 5; have z6 := hX9.cell 6
       refine ⟨rfl, ?_⟩; simp only [putsL]; change qT _; simp only [qT, Act.put, sIA, sCS, sCZ]; simp [go_sem, quietTo, Ext.refl, ↓IntWalk.iteOmega, z0, z1, z2, z3, z4, z5, z6]; (all_goals try simp (disch := omega) only [IntWalk.i64_in]); all_goals rfl
      refine fq 5 rfl rfl rfl cK rfl rfl ?_; apply Exists.intro; constructor
      ·rintro sv w' hw' ⟨_, _, _, (f3 : sv 3 = _), (f4 : sv 4 = _), -⟩; (try dsimp only at f3 f4)
       have hk9 := (hkE.trans ((Ext.refl _).drew.trans hw')); obtain ⟨hc, hff, hz9⟩ := hk9.walk; have hX9 := hX.ext ((Ext.refl _).drew.trans hw'); have y0 := (hc _ _ l1).trans d0; have y1 := (hc _ _ l1).trans d1; have y2 := (hc _ _ l1).trans d2; have y3 := (hc _ _ l1).trans d3; have y4 := (hc _ _ l1).trans d4; have y5 := (hc _ _ l1).trans d5; have y6 := (hc _ _ l1).trans d6; have z0 := hX9.cell 0; have z1 := hX9.cell 1; have z2 := hX9.cell 2; have z3 := hX9.cell 3; have z4 := hX9.cell 4; have z5 := hX9.cell 5; have z6 := hX9.cell 6
       refine ⟨rfl, ?_⟩; simp only [putsL]; change qT (pT (pT (pT (pT (pT _ 34 (sv 4)) 33 (sv 3)) 32 (sv 2)) 31 (sv 1)) 30 (sv 0)); simp only [qT, pT, Act.put, sIA, sCS, sCZ]; simp [go_sem, quietTo, Ext.refl, ↓IntWalk.iteOmega, f3, f4, e6]; (all_goals try simp (disch := omega) only [IntWalk.i64_in]); all_goals rfl
      refine fq 6 rfl rfl rfl cK rfl rfl ?_; apply Exists.intro; constructor
      ·rintro sv w' hw' ⟨_, _, _, _, _, (f5 : sv 5 = _), -⟩; (try dsimp only at f5)
       refine ⟨rfl, ?_⟩; simp only [putsL]; change qT (pT (pT (pT (pT (pT (pT _ 35 (sv 5)) 34 (sv 4)) 33 (sv 3)) 32 (sv 2)) 31 (sv 1)) 30 (sv 0)); simp only [qT, pT, Act.put, sIA, sCS, sCZ]; simp [go_sem, quietTo, Ext.refl, f5]; all_goals rfl
      refine fac_nil fun xq wrq herq hfrq hcrq holdq hapq => ?_
      obtain ⟨(f0 : xq 0 = _), (f1 : xq 1 = _), (f2 : xq 2 = _), (f3 : xq 3 = _), (f4 : xq 4 = _), (f5 : xq 5 = _), (f6 : xq 6 = _), -⟩ := hfrq; (try dsimp only at f0 f1 f2 f3 f4 f5 f6)
      change wpList _ _ _ _ (pT (pT (pT (pT (pT (pT (pT _ 30 (xq 0)) 31 (xq 1)) 32 (xq 2)) 33 (xq 3)) 34 (xq 4)) 35 (xq 5)) 29 (xq 6)) _
      simp only [putsL, Nat.reduceAdd, List.drop_succ_cons, List.drop_zero, List.drop_nil, pT, Act.put, sIA, sCS, sCZ]
      try simp only [f0, f1, f2, f3, f4, f5, f6]
      clear f0 f1 f2 f3 f4 f5 f6; clear holdq hapq; clear hX d0 d1 d2 d3 d4 d5 d6
      go_wp2
      go_ret2
      exact hrf.out _ (hbk.out.trans ((Ext.refl _).drew.trans herq))
     subst e6
     have e7 : (s2.toList == xs.toList) = false := by rw [← Bool.not_eq_true, bytesB]; intro e7; subst e7; exact e rfl
     replace e := Lib.hid e
     refine wp_region_facts [] [([],false,false),([],false,false),([0,1],false,false),([0,1,2],false,false),([],false,false),([0,1,2,3,4],false,false),([0,1,2,3,4,5],false,false)] (Ext) Ext (fun _ => True) (by kernel_rfl) (by kernel_rfl) Ext.refl (fun _ _ _ => Ext.trans) (fun _ _ h => h) (fun _ _ h => h.size) (fun _ _ h _ => h) trivial ?_
     dsimp only [List.length_cons, List.length_nil, List.drop_succ_cons, List.drop_zero, List.drop_nil]
     refine fq 0 rfl rfl rfl cK rfl rfl ?_; apply Exists.intro; constructor
     ·intro sv w' hw' hfa
      refine ⟨rfl, ?_⟩; simp only [putsL]; change qT _; simp only [qT, Act.put, sIA, sCS, sCZ]; simp [go_sem, quietTo, Ext.refl]; all_goals rfl
     refine fq 1 rfl rfl rfl cK rfl rfl ?_; apply Exists.intro; constructor
     ·intro sv w' hw' hfa
      refine ⟨rfl, ?_⟩; simp only [putsL]; change qT _; simp only [qT, Act.put, sIA, sCS, sCZ]; simp [go_sem, quietTo, Ext.refl]; all_goals rfl
     refine fq 2 rfl rfl rfl cK rfl rfl ?_; apply Exists.intro; constructor
     ·rintro sv w' hw' ⟨(f0 : sv 0 = _), (f1 : sv 1 = _), -⟩; (try dsimp only at f0 f1)
      have hk9 := (hkE.trans ((Ext.refl _).drew.trans hw')); obtain ⟨hc, hff, hz9⟩ := hk9.walk; have hX9 := hX.ext ((Ext.refl _).drew.trans hw'); have y0 := (hc _ _ l1).trans d0; have y1 := (hc _ _ l1).trans d1; have y2 := (hc _ _ l1).trans d2; have y3 := (hc _ _ l1).trans d3; have y4 := (hc _ _ l1).trans d4; have y5 := (hc _ _ l1).trans d5; have y6 := (hc _ _ l1).trans d6; have z0 := hX9.cell 0; have z1 := hX9.cell 1; have z2 := hX9.cell 2; have z3 := hX9.cell 3; have z4 := hX9.cell 4; have z5 := hX9.cell 5; have z6 := hX9.cell 6
      refine ⟨rfl, ?_⟩; simp only [putsL]; change qT (pT (pT _ 31 (sv 1)) 30 (sv 0)); simp only [qT, pT, Act.put, sIA, sCS, sCZ]; simp [go_sem, quietTo, Ext.refl, ↓IntWalk.iteOmega, f0, f1, hkI]; (all_goals try simp (disch := omega) only [IntWalk.i64_in]); all_goals rfl
     refine fq 3 rfl rfl rfl cK rfl rfl ?_; apply Exists.intro; constructor
     ·rintro sv w' hw' ⟨_, _, (f2 : sv 2 = _), -⟩; (try dsimp only at f2)
      have hk9 := (hkE.trans ((Ext.refl _).drew.trans hw')); obtain ⟨hc, hff, hz9⟩ := hk9.walk; have hX9 := hX.ext ((Ext.refl _).drew.trans hw'); have y0 := (hc _ _ l1).trans d0; have y1 := (hc _ _ l1).trans d1; have y2 := (hc _ _ l1).trans d2; have y3 := (hc _ _ l1).trans d3; have y4 := (hc _ _ l1).trans d4; have y5 := (hc _ _ l1).trans d5; have y6 := (hc _ _ l1).trans d6; have z0 := hX9.cell 0; have z1 := hX9.cell 1; have z2 := hX9.cell 2; have z3 := hX9.cell 3; have z4 := hX9.cell 4; have z5 := hX9.cell 5; have z6 := hX9.cell 6
      refine ⟨rfl, ?_⟩; simp only [putsL]; change qT (pT (pT (pT _ 32 (sv 2)) 31 (sv 1)) 30 (sv 0)); simp only [qT, pT, Act.put, sIA, sCS, sCZ]; simp [go_sem, quietTo, Ext.refl, ↓IntWalk.iteOmega, f2, y0, y1, y2, y3, y4, y5, y6]; (all_goals try simp (disch := omega) only [IntWalk.i64_in]); all_goals rfl
     refine fq 4 rfl rfl rfl cK rfl rfl ?_; apply Exists.intro; constructor
     ·intro sv w' hw' hfa
      have hk9 := (hkE.trans ((Ext.refl _).drew.trans hw')); obtain ⟨hc, hff, hz9⟩ := hk9.walk; have hX9 := hX.ext ((Ext.refl _).drew.trans hw'); have y0 := (hc _ _ l1).trans d0; have y1 := (hc _ _ l1).trans d1; have y2 := (hc _ _ l1).trans d2; have y3 := (hc _ _ l1).trans d3; have y4 := (hc _ _ l1).trans d4; have y5 := (hc _ _ l1).trans d5; have y6 := (hc _ _ l1).trans d6; have z0 := hX9.cell 0; have z1 := hX9.cell 1; have z2 := hX9.cell 2; have z3 := hX9.cell 3; have z4 := hX9.cell 4; have z5 := hX9.cell 5; have z6 := hX9.cell 6
      refine ⟨rfl, ?_⟩; simp only [putsL]; change qT _; simp only [qT, Act.put, sIA, sCS, sCZ]; simp [go_sem, quietTo, Ext.refl, ↓IntWalk.iteOmega, z0, z1, z2, z3, z4, z5, z6]; (all_goals try simp (disch := omega) only [IntWalk.i64_in]); all_goals rfl
     refine fq 5 rfl rfl rfl cK rfl rfl ?_; apply Exists.intro; constructor
     ·rintro sv w' hw' ⟨_, _, _, (f3 : sv 3 = _), (f4 : sv 4 = _), -⟩; (try dsimp only at f3 f4)
      have hk9 := (hkE.trans ((Ext.refl _).drew.trans hw')); obtain ⟨hc, hff, hz9⟩ := hk9.walk; have hX9 := hX.ext ((Ext.refl _).drew.trans hw'); have y0 := (hc _ _ l1).trans d0; have y1 := (hc _ _ l1).trans d1; have y2 := (hc _ _ l1).trans d2; have y3 := (hc _ _ l1).trans d3; have y4 := (hc _ _ l1).trans d4; have y5 := (hc _ _ l1).trans d5; have y6 := (hc _ _ l1).trans d6; have z0 := hX9.cell 0; have z1 := hX9.cell 1; have z2 := hX9.cell 2; have z3 := hX9.cell 3; have z4 := hX9.cell 4; have z5 := hX9.cell 5; have z6 := hX9.cell 6
      refine ⟨rfl, ?_⟩; simp only [putsL]; change qT (pT (pT (pT (pT (pT _ 34 (sv 4)) 33 (sv 3)) 32 (sv 2)) 31 (sv 1)) 30 (sv 0)); simp only [qT, pT, Act.put, sIA, sCS, sCZ]; simp [go_sem, quietTo, Ext.refl, ↓IntWalk.iteOmega, f3, f4, e7]; (all_goals try simp (disch := omega) only [IntWalk.i64_in]); all_goals rfl
     refine fq 6 rfl rfl rfl cK rfl rfl ?_; apply Exists.intro; constructor
     ·rintro sv w' hw' ⟨_, _, _, _, _, (f5 : sv 5 = _), -⟩; (try dsimp only at f5)
      refine ⟨rfl, ?_⟩; simp only [putsL]; change qT (pT (pT (pT (pT (pT (pT _ 35 (sv 5)) 34 (sv 4)) 33 (sv 3)) 32 (sv 2)) 31 (sv 1)) 30 (sv 0)); simp only [qT, pT, Act.put, sIA, sCS, sCZ]; simp [go_sem, quietTo, Ext.refl, f5]; all_goals rfl
     refine fac_nil fun xq wrq herq hfrq hcrq holdq hapq => ?_
     obtain ⟨(f0 : xq 0 = _), (f1 : xq 1 = _), (f2 : xq 2 = _), (f3 : xq 3 = _), (f4 : xq 4 = _), (f5 : xq 5 = _), (f6 : xq 6 = _), -⟩ := hfrq; (try dsimp only at f0 f1 f2 f3 f4 f5 f6)
     change wpList _ _ _ _ (pT (pT (pT (pT (pT (pT (pT _ 30 (xq 0)) 31 (xq 1)) 32 (xq 2)) 33 (xq 3)) 34 (xq 4)) 35 (xq 5)) 29 (xq 6)) _
     simp only [putsL, Nat.reduceAdd, List.drop_succ_cons, List.drop_zero, List.drop_nil, pT, Act.put, sIA, sCS, sCZ]
     try simp only [f0, f1, f2, f3, f4, f5, f6]
     clear f0 f1 f2 f3 f4 f5 f6; clear holdq hapq; clear hX d0 d1 d2 d3 d4 d5 d6
     go_wp2
     go_ret2
     exact hrf.out _ (hbk.out.trans ((Ext.refl _).drew.trans herq))
  ·obtain rfl : k = m := by omega
   rw [List.drop_of_length_le (by omega)] at hmf
   have hmf2 : refM A A B = some o := hmf
   obtain ⟨hdo, hosm, -⟩ := hdf.out o hmf2
   replace hres1 := Lib.hid (fun S v' w' => hres1.out o S v' w' hmf2)
   replace hres2 := Lib.hid (fun S w' => hres2.out o S w' hmf2)
   have hbk := Lib.hid hEq
   clear hmf hmf2 hres0 hdf hA hB
   rcases Nat.eq_zero_or_pos o.length with h0 | h0
   ·have hnil := List.eq_nil_of_length_eq_zero h0
    subst hnil
    obtain ⟨p9, c9, rfl, hS9⟩ := slc_of_own slipC_len hown (by decide) (by simp)
    have hck := fun u (hu : Ext wr u) => slipsFault_any p9 0 c9 [] u (hS9.ext hu).1 (by simp) (by omega)
    have hz : slipsF ([] : List SlipV) = 0 := by decide
    rw [hz] at hck
    have hr := fun w' (hw : Ext wr w') => hres1.out [] _ w' List.Perm.nil List.Pairwise.nil hz (own_ext hw hown) (hbk.out.trans hw)
    replace hck := Lib.hid hck; replace hr := Lib.hid hr; clear hown hS9 hosm hres1 hres2 hz
    go_wp2_with (first
     | (go_at_call 140; (with_reducible refine Calls.mono (sortNoneS_any p9 c9 _ _) ?_); rintro e w5 ⟨rfl, rfl⟩)
     | (go_at_call 68; (with_reducible refine Calls.mono (hck.out _ (Ext.refl _)) ?_); rintro e w6 ⟨rfl, hb6⟩))
    go_ret2
    exact hr.out _ hb6
   ·obtain ⟨g, cap, rfl, hg, hgl2⟩ := hown.form h0
    have hso := sortBy_any hown rfl (by omega) hdo
    have hbk2 := hbk.out
    replace hso := Lib.hid hso; replace hown := Lib.hid hown
    go_upto_region 12 with (go_at_call 140; (with_reducible refine Calls.mono hso.out ?_); rintro e w5 ⟨rfl, S, hSp, hSr, hSo, hSx⟩)
    have hb5 : Ext w w5 := hSx w hbk2 (by omega)
    obtain ⟨p9, c9, e9, hS9⟩ := slc_of_own slipC_len hSo (by decide) (by omega)
    cases e9
    have hSl : S.length = o.length := hSp.length_eq
    have hck := slipsFault_any (some ⟨g, 0, none⟩) o.length cap S w5 hS9.1 (fun x hx => hosm x (hSp.mem_iff.1 hx)) (by omega)
    clear hso hSx hown hosm hdo hbk2 hS9
    by_cases hz : slipsF S = 0
    ·have hr := fun w' (hw : Ext w5 w') => hres1.out S (.slice (some ⟨g, 0, none⟩) o.length cap) w' hSp hSr hz (by rw [hSl]; exact own_ext hw hSo) (hb5.trans hw)
     rw [hz] at hck
     replace hck := Lib.hid hck; replace hr := Lib.hid hr; clear hSo hres1 hres2 hz
     go_wp2_with (go_at_call 68; (with_reducible refine Calls.mono hck.out ?_); rintro e w6 ⟨rfl, hb6⟩)
     go_ret2
     exact hr.out _ hb6
    ·have hr := fun w' (hw : Ext w5 w') => hres2.out S w' hSp hSr hz (hb5.trans hw)
     generalize slipsF S = f at *
     replace hck := Lib.hid hck; replace hr := Lib.hid hr; clear hSo hres1 hres2
     go_wp2_with (go_at_call 68; (with_reducible refine Calls.mono hck.out ?_); rintro e w6 ⟨rfl, hb6⟩)
     go_ret2
     exact hr.out _ hb6
end Go.Proofs.YtehboinleolihaaGreatDoor
