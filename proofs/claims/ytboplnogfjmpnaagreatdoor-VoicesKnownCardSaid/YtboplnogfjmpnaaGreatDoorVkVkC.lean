/- One line of voices is taken, by the document's text: the closure of VoicesRead. Conditions: sizes. -/
import Derived.Test.YtboplnogfjmpnaaGreatDoorVkVkA
import Derived.Test.YtboplnogfjmpnaaGreatDoorVkVkB
import Derived.Test.YtboplnogfjmpnaaGreatDoorVkVtE
set_option linter.unusedSimpArgs false
set_option linter.unusedVariables false
namespace Go.Proofs.YtboplnogfjmpnaaGreatDoor
open Go Go.RowKit

/-- What was read so far lies behind a variable. -/
def TkM (t : List UInt8) (w0 u : World) (gC k : Nat) : Prop :=
  ∃ (X : List VoiceV) (v : Value), X = ((linesF t).take k).filterMap rdVo ∧ X.length = k ∧ (∀ x ∈ X, x.Wide) ∧ Blk u gC 26 #[v] ∧ u.ownsRow (gC + 1) 37 4 v k (X.flatMap voiC) ∧ Ext w0 u ∧ w0.heap.size ≤ gC
theorem TkM.ext {t : List UInt8} {w0 u u' : World} {gC k : Nat} (h : TkM t w0 u gC k) (he : Ext u u') : TkM t w0 u' gC k := by
  obtain ⟨X, v, h1, h2, h3, h4, h5, h6, h7⟩ := h
  exact ⟨X, v, h1, h2, h3, h4.ext he, own_ext he h5, h6.trans he, h7⟩
theorem idxFrom_in (w : ByteArray) : ∀ (L : List ByteArray) (i : Nat), 0 ≤ Lib.idxFromS L w i ↔ ∃ x ∈ L, x = w
  | [], i => by simp [Lib.idxFromS]
  | x :: r, i => by
    unfold Lib.idxFromS
    split
    · rename_i h
      exact ⟨fun _ => ⟨x, List.mem_cons_self, by simpa using h⟩, fun _ => by omega⟩
    · rename_i h
      rw [idxFrom_in w r (i + 1)]
      constructor
      · rintro ⟨y, hy, e⟩
        exact ⟨y, List.mem_cons_of_mem _ hy, e⟩
      · rintro ⟨y, hy, e⟩
        rcases List.mem_cons.1 hy with h1 | h1
        · subst h1; exact absurd (by simpa using e) h
        · exact ⟨y, h1, e⟩
theorem containsS_nil {W : List ByteArray} : Lib.containsS W ⟨#[]⟩ = true ↔ ∃ x ∈ W, x = ⟨#[]⟩ := by
  unfold Lib.containsS
  rw [decide_eq_true_eq]
  exact idxFrom_in _ W 0
theorem contains_row (W : List ByteArray) (g : Nat) (w : World) (h : Blk w g 9 (W.map Value.string).toArray) (hl : W.length ≤ 1000000) :
    Calls Tryz.prog 61 #[.slice (some ⟨g, 0, none⟩) W.length W.length, .string ⟨#[]⟩] w fun e w' => e = .returned (.bool (Lib.containsS W ⟨#[]⟩)) ∧ w' = w := by
  have := Tryz.slices_Contains_string g 0 W.length W.length W ⟨#[]⟩ w (Nat.le_refl _) (by omega) (fun j hj => by
    rw [Nat.zero_add]
    obtain ⟨x, hx⟩ := getD_some (rfl : W.length = W.length) hj
    rw [cell_of_row h hx, List.getD_eq_getElem?_getD, hx]; rfl)
  rwa [List.take_length] at this

set_option maxRecDepth 100000 in
set_option maxHeartbeats 6400000 in
theorem take_bad {B : Nat} {t : List UInt8} {w0 u : World} {gC k : Nat} {x : ByteArray} (hP : TkM t w0 u gC k) (hxs : x.size ≤ 200000) (hr : rdVo x.data.toList = none) (hm : MaxL B w0) (ht : Tab B w0) :
    Calls Tryz.prog 59 #[.string x, .pointer (some ⟨gC, 0, none⟩)] u fun e w' => e = .returned (.bool false) ∧ Ext w0 w' := by
  obtain ⟨X, v, -, -, -, hC, -, he, hg⟩ := hP
  have hxl : x.data.toList.length = x.size := Array.length_toList
  have hsp := split_any 32 x B u (by omega) (hm.ext he)
  have hW6 : (wordsL x.data.toList).length ≤ 200001 := by have := splitW_most 32 x.data.toList; change (wordsL x.data.toList).length ≤ _ at this; omega
  rw [show splitW 32 x.data.toList = wordsL x.data.toList from rfl] at hsp
  have hR : Blk (u.alloc (.cells ((wordsL x.data.toList).map Value.string).toArray 9)) u.heap.size 9 ((wordsL x.data.toList).map Value.string).toArray := Blk.new' rfl
  have hcn := contains_row (wordsL x.data.toList) u.heap.size _ hR (by omega)
  have he1 : Ext w0 (u.alloc (.cells ((wordsL x.data.toList).map Value.string).toArray 9)) := he.alloc _
  have hWm : ∀ y ∈ wordsL x.data.toList, y.size ≤ 1000000 := fun y hy => by have := wordsL_size hy; omega
  by_cases hem : ∃ y ∈ wordsL x.data.toList, y = ⟨#[]⟩
  · rw [containsS_nil.2 hem] at hcn
    generalize wordsL x.data.toList = Wd at *
    replace hsp := Lib.hid hsp
    replace hcn := Lib.hid hcn
    clear hem hR hWm hr
    go_enter Tryz.func59, Tryz.ntmps59
    go_wp2_with (first
      | (go_at_call 60; (with_reducible refine Calls.mono hsp.out ?_); rintro e w1 ⟨rfl, rfl⟩)
      | (go_at_call 61; (with_reducible refine Calls.mono hcn.out ?_); rintro e w2 ⟨rfl, rfl⟩))
    go_ret
    exact ⟨rfl, he1⟩
  have hnc : Lib.containsS (wordsL x.data.toList) ⟨#[]⟩ = false := Bool.eq_false_iff.2 fun e => hem (containsS_nil.1 e)
  rw [hnc] at hcn
  by_cases h4 : (wordsL x.data.toList).length = 4
  rotate_left
  · generalize wordsL x.data.toList = Wd at *
    have h4a : decide ((Wd.length : Int) = 4) = false := by simp; omega
    have h4b : ((Wd.length : Int) == 4) = false := by simp; omega
    have h4c : ¬ (Wd.length : Int) = 4 := by omega
    replace h4 := Lib.hid h4
    replace hsp := Lib.hid hsp
    replace hcn := Lib.hid hcn
    clear hem hR hWm hr
    go_enter Tryz.func59, Tryz.ntmps59
    go_wp2_with (first
      | (go_at_call 60; (with_reducible refine Calls.mono hsp.out ?_); rintro e w1 ⟨rfl, rfl⟩)
      | (go_at_call 61; (with_reducible refine Calls.mono hcn.out ?_); rintro e w2 ⟨rfl, rfl⟩))
    go_ret
    exact ⟨rfl, he1⟩
  have hne : ∀ y ∈ wordsL x.data.toList, y ≠ ⟨#[]⟩ := fun y hy e => hem ⟨y, hy, e⟩
  obtain ⟨a0, a1, a2, a3, hW⟩ : ∃ a b c d, wordsL x.data.toList = [a, b, c, d] := ⟨_, _, _, _, getG ⟨#[]⟩ h4⟩
  have hrd := rd_four hW hne
  rw [hW] at hsp hcn hR he1 hWm
  simp only [List.map_cons, List.map_nil, List.length_cons, List.length_nil, Nat.zero_add, Nat.reduceAdd] at hsp hcn hR he1
  have hok : ¬ (numOk 15 a1 && numOk 15 a2 && numOk 15 a3) = true := fun e => by rw [hrd, if_pos e] at hr; cases hr
  have hex : ∃ y ∈ [a1, a2, a3], numOk 15 y = false := by
    cases e1 : numOk 15 a1
    · exact ⟨a1, by simp, e1⟩
    · cases e2 : numOk 15 a2
      · exact ⟨a2, by simp, e2⟩
      · cases e3 : numOk 15 a3
        · exact ⟨a3, by simp, e3⟩
        · rw [e1, e2, e3] at hok; exact absurd rfl hok
  have hnb := ints_badO B u.heap.size 1 3 3 [a1, a2, a3] _ (fun j y hy => by
    refine cell_of_row (W := [a0, a1, a2, a3]) hR (j := 1 + j) ?_
    rw [Nat.add_comm]
    exact hy) hR.lt rfl (by decide) (fun y hy => hWm y (List.mem_cons_of_mem _ hy)) hex (ht.ext he1)
  replace hnb := Lib.hid hnb
  replace hsp := Lib.hid hsp
  replace hcn := Lib.hid hcn
  clear hem hR hWm hr hrd hW hex hok hne h4 hW6
  go_enter Tryz.func59, Tryz.ntmps59
  go_wp2_with (first
    | (go_at_call 60; (with_reducible refine Calls.mono hsp.out ?_); rintro e w1 ⟨rfl, rfl⟩)
    | (go_at_call 61; (with_reducible refine Calls.mono hcn.out ?_); rintro e w2 ⟨rfl, rfl⟩)
    | (go_at_call 62; (with_reducible refine Calls.mono hnb.out ?_); rintro e w3 ⟨rfl, hb3⟩))
  go_ret
  exact ⟨rfl, he1.trans hb3⟩

set_option maxRecDepth 100000 in
set_option maxHeartbeats 12800000 in
theorem take_good {B : Nat} {t : List UInt8} {w0 u : World} {gC k : Nat} {x : ByteArray} {y : VoiceV} (hP : TkM t w0 u gC k) (hx : (linesF t)[k]? = some x.data.toList) (hxs : x.size ≤ 200000) (hk : k ≤ 1000000) (hr : rdVo x.data.toList = some y) (hm : MaxL B w0) (ht : Tab B w0) :
    Calls Tryz.prog 59 #[.string x, .pointer (some ⟨gC, 0, none⟩)] u fun e w' => e = .returned (.bool true) ∧ TkM t w0 w' gC (k + 1) := by
  obtain ⟨X, v, hX, hXl, hXw, hC, hown, he, hg⟩ := hP
  have hxl : x.data.toList.length = x.size := Array.length_toList
  have hsp := split_any 32 x B u (by omega) (hm.ext he)
  have hW6 : (wordsL x.data.toList).length ≤ 200001 := by have := splitW_most 32 x.data.toList; change (wordsL x.data.toList).length ≤ _ at this; omega
  rw [show splitW 32 x.data.toList = wordsL x.data.toList from rfl] at hsp
  have hR : Blk (u.alloc (.cells ((wordsL x.data.toList).map Value.string).toArray 9)) u.heap.size 9 ((wordsL x.data.toList).map Value.string).toArray := Blk.new' rfl
  have hcn := contains_row (wordsL x.data.toList) u.heap.size _ hR (by omega)
  have he1 : Ext u (u.alloc (.cells ((wordsL x.data.toList).map Value.string).toArray 9)) := (Ext.refl _).alloc _
  have hWm : ∀ y ∈ wordsL x.data.toList, y.size ≤ 1000000 := fun y hy => by have := wordsL_size hy; omega
  have hyw := rd_wide hr (by omega)
  have hne : ¬ ((∃ y ∈ wordsL x.data.toList, y = ⟨#[]⟩) ∨ (wordsL x.data.toList).length ≠ 4) := fun e => by rw [rd_words e] at hr; cases hr
  have hem : ¬ ∃ y ∈ wordsL x.data.toList, y = ⟨#[]⟩ := fun e => hne (.inl e)
  have h4 : (wordsL x.data.toList).length = 4 := Classical.byContradiction fun e => hne (.inr e)
  have hnc : Lib.containsS (wordsL x.data.toList) ⟨#[]⟩ = false := Bool.eq_false_iff.2 fun e => hem (containsS_nil.1 e)
  rw [hnc] at hcn
  obtain ⟨a0, a1, a2, a3, hW⟩ : ∃ a b c d, wordsL x.data.toList = [a, b, c, d] := ⟨_, _, _, _, getG ⟨#[]⟩ h4⟩
  have hrd := rd_four hW fun y hy e => hem ⟨y, hy, e⟩
  rw [hW] at hsp hcn hR he1 hWm
  simp only [List.map_cons, List.map_nil, List.length_cons, List.length_nil, Nat.zero_add, Nat.reduceAdd] at hsp hcn hR he1
  have hok : (numOk 15 a1 && numOk 15 a2 && numOk 15 a3) = true := Classical.byContradiction fun e => by rw [hrd, if_neg e] at hr; cases hr
  rw [hrd, if_pos hok] at hr
  have hfm : ((linesF t).take (k + 1)).filterMap rdVo = ((linesF t).take k).filterMap rdVo ++ [y] := by
    rw [take_snocL hx, List.filterMap_append, List.filterMap_cons, hrd, if_pos hok, hr]
    rfl
  simp only [Bool.and_eq_true] at hok
  obtain ⟨⟨ok1, ok2⟩, ok3⟩ := hok
  have hng : Calls Tryz.prog 62 #[.slice (some ⟨u.heap.size, 1, none⟩) 3 3, .int .i64 15] (u.alloc (.cells #[.string a0, .string a1, .string a2, .string a3] 9)) fun e w' => (∃ p c', e = .returned (.tuple #[.slice p 3 c', .bool true]) ∧ Slc 1 intC w' p 3 c' [numV a1, numV a2, numV a3]) ∧ Ext (u.alloc (.cells #[.string a0, .string a1, .string a2, .string a3] 9)) w' := ints_goodO B u.heap.size 1 3 3 [a1, a2, a3] _ (fun j y hy => by
    refine cell_of_row (W := [a0, a1, a2, a3]) hR (j := 1 + j) ?_
    rw [Nat.add_comm]
    exact hy) hR.lt rfl (by decide) (fun y hy => hWm y (List.mem_cons_of_mem _ hy)) (fun y hy => by
      simp only [List.mem_cons, List.not_mem_nil, or_false] at hy
      rcases hy with rfl | rfl | rfl <;> assumption) (ht.ext (he.trans he1))
  generalize numV a1 = z1 at *
  generalize numV a2 = z2 at *
  generalize numV a3 = z3 at *
  obtain rfl : y = ⟨a0, z1, z2, z3⟩ := (Option.some.inj hr).symm
  have hstep : ∀ v' w', w'.ownsRow (gC + 1) 37 4 v' (k + 1) (X.flatMap voiC ++ voiC ⟨a0, z1, z2, z3⟩) → Blk w' gC 26 #[v'] → Ext w0 w' → TkM t w0 w' gC (k + 1) := fun v' w' ho hB' he' =>
    ⟨X ++ [⟨a0, z1, z2, z3⟩], v', by rw [hfm, ← hX], by simp [hXl], (fun z hz => by
      rcases List.mem_append.1 hz with h | h
      · exact hXw z h
      · obtain rfl := List.mem_singleton.1 h; exact hyw), hB', by rw [flat_snoc]; exact ho, he', hg⟩
  have hRl := hR.lt
  have u0 := cell_of_row (W := [a0, a1, a2, a3]) hR (j := 0) (x := a0) rfl
  have hC1 := hC.ext he1
  have hown1 := own_ext he1 hown
  have he01 := he.trans he1
  replace hstep := Lib.hid hstep
  replace hng := Lib.hid hng
  replace hsp := Lib.hid hsp
  replace hcn := Lib.hid hcn
  replace hown1 := Lib.hid hown1
  clear hem hR hWm hr hrd hW hne h4 hW6 hfm ok1 ok2 ok3 hyw hXw hX hC hown he he1 hnc
  go_enter Tryz.func59, Tryz.ntmps59
  go_upto_region 6 with (first
    | (go_at_call 60; (with_reducible refine Calls.mono hsp.out ?_); rintro e w1 ⟨rfl, rfl⟩)
    | (go_at_call 61; (with_reducible refine Calls.mono hcn.out ?_); rintro e w2 ⟨rfl, rfl⟩)
    | (go_at_call 62; (with_reducible refine Calls.mono hng.out ?_); rintro e w3 ⟨⟨p3, c3, rfl, hS3⟩, hb3⟩))
  obtain ⟨-, hp3⟩ := slcC hS3
  rcases hp3 with ⟨-, e3⟩ | ⟨b3, o3, rfl, l3, hE3⟩
  · cases e3
  have v0 : w3.cell? ⟨u.heap.size, 0, none⟩ = some (.string a0) := by obtain ⟨hc9, -, -⟩ := hb3.walk; exact (hc9 _ 0 hRl).trans u0
  have y0 : w3.cell? ⟨b3, o3, none⟩ = some (.int .i64 z1) := by simpa using hE3 0 z1 rfl 0 (.int .i64 z1) rfl
  have y1 : w3.cell? ⟨b3, o3 + 1, none⟩ = some (.int .i64 z2) := by simpa using hE3 1 z2 rfl 0 (.int .i64 z2) rfl
  have y2 : w3.cell? ⟨b3, o3 + 2, none⟩ = some (.int .i64 z3) := by simpa using hE3 2 z3 rfl 0 (.int .i64 z3) rfl
  have lR := Nat.lt_of_lt_of_le hRl hb3.size
  have hC3 := hC1.ext hb3
  have y3 : w3.cell? ⟨gC, 0, none⟩ = some v := hC3.cell 0
  have lC := hC3.lt
  have hown3 := own_ext hb3 hown1.out
  have he3 := he01.trans hb3
  replace hown3 := Lib.hid hown3
  clear hS3 hE3 hC1 hown1 hb3 he01
  refine wp_region_facts [] [([], false, false), ([], false, false), ([1], false, false), ([1, 2], false, false), ([], false, false), ([4], false, false), ([4, 5], false, false), ([], false, false), ([7], false, false), ([7, 8], false, false), ([], false, false), ([10], false, false), ([10, 11], false, false), ([7, 8, 9, 10, 11, 12], false, false), ([1, 2, 3, 4, 5, 6, 7, 8, 9, 10, 11, 12, 13], false, false), ([1, 2, 3, 4, 5, 6, 7, 8, 9, 10, 11, 12, 13, 14], false, true)] (Ext) Ext (fun _ => True) (by kernel_rfl) (by kernel_rfl) Ext.refl (fun _ _ _ => Ext.trans) (fun _ _ h => h) (fun _ _ h => h.size) (fun _ _ h _ => h) trivial ?_
  dsimp only [List.length_cons, List.length_nil, List.drop_succ_cons, List.drop_zero, List.drop_nil]
  refine fac_quiet 0 rfl rfl rfl (fun _ _ h _ => h) rfl rfl ?_
  apply Exists.intro
  refine ⟨fun sv w' hw' hfa => ?_, ?_⟩
  · obtain ⟨hc, hf, hz9⟩ := ((Ext.refl _).drew.trans hw').walk; have x0 := (hc _ 0 lR).trans v0; have x1 := (hc _ o3 l3).trans y0; have x2 := (hc _ (o3 + 1) l3).trans y1; have x3 := (hc _ (o3 + 2) l3).trans y2; have x4 := (hc _ 0 lC).trans y3
    refine ⟨rfl, ?_⟩
    simp only [putsL]
    change quietTo _ _ _ _ (Sem.run _ (execOp (Act.eval _) _) _)
    try simp only [Act.put, List.setIfInBounds_toArray, List.set_cons_succ, List.set_cons_zero]
    simp [go_sem, quietTo, Ext.refl, ↓IntWalk.iteOmega, x4]
    all_goals try simp (disch := omega) only [IntWalk.i64_in]
    all_goals first
      | rfl
  refine fac_quiet 1 rfl rfl rfl (fun _ _ h _ => h) rfl rfl ?_
  apply Exists.intro
  refine ⟨fun sv w' hw' hfa => ?_, ?_⟩
  · refine ⟨rfl, ?_⟩
    simp only [putsL]
    change quietTo _ _ _ _ (Sem.run _ (execOp (Act.eval _) _) _)
    try simp only [Act.put, List.setIfInBounds_toArray, List.set_cons_succ, List.set_cons_zero]
    simp [go_sem, quietTo, Ext.refl]
    all_goals first
      | rfl
  refine fac_quiet 2 rfl rfl rfl (fun _ _ h _ => h) rfl rfl ?_
  apply Exists.intro
  refine ⟨fun sv w' hw' hfa => ?_, ?_⟩
  · obtain ⟨f1, -⟩ := hfa
    replace f1 : sv 1 = _ := f1
    try dsimp only at f1
    refine ⟨rfl, ?_⟩
    simp only [putsL]
    change quietTo _ _ _ _ (Sem.run _ (execOp (Act.eval (Act.put _ (some 24) (sv 1))) _) _)
    try simp only [Act.put, List.setIfInBounds_toArray, List.set_cons_succ, List.set_cons_zero]
    simp [go_sem, quietTo, Ext.refl, ↓IntWalk.iteOmega, f1]
    all_goals try simp (disch := omega) only [IntWalk.i64_in]
    all_goals first
      | rfl
  refine fac_quiet 3 rfl rfl rfl (fun _ _ h _ => h) rfl rfl ?_
  apply Exists.intro
  refine ⟨fun sv w' hw' hfa => ?_, ?_⟩
  · obtain ⟨_, f2, -⟩ := hfa
    replace f2 : sv 2 = _ := f2
    try dsimp only at f2
    obtain ⟨hc, hf, hz9⟩ := ((Ext.refl _).drew.trans hw').walk; have x0 := (hc _ 0 lR).trans v0; have x1 := (hc _ o3 l3).trans y0; have x2 := (hc _ (o3 + 1) l3).trans y1; have x3 := (hc _ (o3 + 2) l3).trans y2; have x4 := (hc _ 0 lC).trans y3
    refine ⟨rfl, ?_⟩
    simp only [putsL]
    change quietTo _ _ _ _ (Sem.run _ (execOp (Act.eval (Act.put (Act.put _ (some 25) (sv 2)) (some 24) (sv 1))) _) _)
    try simp only [Act.put, List.setIfInBounds_toArray, List.set_cons_succ, List.set_cons_zero]
    simp [go_sem, quietTo, Ext.refl, ↓IntWalk.iteOmega, f2, x0]
    all_goals try simp (disch := omega) only [IntWalk.i64_in]
    all_goals first
      | rfl
  refine fac_quiet 4 rfl rfl rfl (fun _ _ h _ => h) rfl rfl ?_
  apply Exists.intro
  refine ⟨fun sv w' hw' hfa => ?_, ?_⟩
  · refine ⟨rfl, ?_⟩
    simp only [putsL]
    change quietTo _ _ _ _ (Sem.run _ (execOp (Act.eval _) _) _)
    try simp only [Act.put, List.setIfInBounds_toArray, List.set_cons_succ, List.set_cons_zero]
    simp [go_sem, quietTo, Ext.refl]
    all_goals first
      | rfl
  refine fac_quiet 5 rfl rfl rfl (fun _ _ h _ => h) rfl rfl ?_
  apply Exists.intro
  refine ⟨fun sv w' hw' hfa => ?_, ?_⟩
  · obtain ⟨f4, -⟩ := hfa
    replace f4 : sv 4 = _ := f4
    try dsimp only at f4
    refine ⟨rfl, ?_⟩
    simp only [putsL]
    change quietTo _ _ _ _ (Sem.run _ (execOp (Act.eval (Act.put _ (some 27) (sv 4))) _) _)
    try simp only [Act.put, List.setIfInBounds_toArray, List.set_cons_succ, List.set_cons_zero]
    simp [go_sem, quietTo, Ext.refl, ↓IntWalk.iteOmega, f4]
    all_goals try simp (disch := omega) only [IntWalk.i64_in]
    all_goals first
      | rfl
  refine fac_quiet 6 rfl rfl rfl (fun _ _ h _ => h) rfl rfl ?_
  apply Exists.intro
  refine ⟨fun sv w' hw' hfa => ?_, ?_⟩
  · obtain ⟨_, f5, -⟩ := hfa
    replace f5 : sv 5 = _ := f5
    try dsimp only at f5
    obtain ⟨hc, hf, hz9⟩ := ((Ext.refl _).drew.trans hw').walk; have x0 := (hc _ 0 lR).trans v0; have x1 := (hc _ o3 l3).trans y0; have x2 := (hc _ (o3 + 1) l3).trans y1; have x3 := (hc _ (o3 + 2) l3).trans y2; have x4 := (hc _ 0 lC).trans y3
    refine ⟨rfl, ?_⟩
    simp only [putsL]
    change quietTo _ _ _ _ (Sem.run _ (execOp (Act.eval (Act.put (Act.put _ (some 28) (sv 5)) (some 27) (sv 4))) _) _)
    try simp only [Act.put, List.setIfInBounds_toArray, List.set_cons_succ, List.set_cons_zero]
    simp [go_sem, quietTo, Ext.refl, ↓IntWalk.iteOmega, f5, x1]
    all_goals try simp (disch := omega) only [IntWalk.i64_in]
    all_goals first
      | rfl
  refine fac_quiet 7 rfl rfl rfl (fun _ _ h _ => h) rfl rfl ?_
  apply Exists.intro
  refine ⟨fun sv w' hw' hfa => ?_, ?_⟩
  · refine ⟨rfl, ?_⟩
    simp only [putsL]
    change quietTo _ _ _ _ (Sem.run _ (execOp (Act.eval _) _) _)
    try simp only [Act.put, List.setIfInBounds_toArray, List.set_cons_succ, List.set_cons_zero]
    simp [go_sem, quietTo, Ext.refl]
    all_goals first
      | rfl
  refine fac_quiet 8 rfl rfl rfl (fun _ _ h _ => h) rfl rfl ?_
  apply Exists.intro
  refine ⟨fun sv w' hw' hfa => ?_, ?_⟩
  · obtain ⟨f7, -⟩ := hfa
    replace f7 : sv 7 = _ := f7
    try dsimp only at f7
    refine ⟨rfl, ?_⟩
    simp only [putsL]
    change quietTo _ _ _ _ (Sem.run _ (execOp (Act.eval (Act.put _ (some 30) (sv 7))) _) _)
    try simp only [Act.put, List.setIfInBounds_toArray, List.set_cons_succ, List.set_cons_zero]
    simp [go_sem, quietTo, Ext.refl, ↓IntWalk.iteOmega, f7]
    all_goals try simp (disch := omega) only [IntWalk.i64_in]
    all_goals first
      | rfl
  refine fac_quiet 9 rfl rfl rfl (fun _ _ h _ => h) rfl rfl ?_
  apply Exists.intro
  refine ⟨fun sv w' hw' hfa => ?_, ?_⟩
  · obtain ⟨_, f8, -⟩ := hfa
    replace f8 : sv 8 = _ := f8
    try dsimp only at f8
    obtain ⟨hc, hf, hz9⟩ := ((Ext.refl _).drew.trans hw').walk; have x0 := (hc _ 0 lR).trans v0; have x1 := (hc _ o3 l3).trans y0; have x2 := (hc _ (o3 + 1) l3).trans y1; have x3 := (hc _ (o3 + 2) l3).trans y2; have x4 := (hc _ 0 lC).trans y3
    refine ⟨rfl, ?_⟩
    simp only [putsL]
    change quietTo _ _ _ _ (Sem.run _ (execOp (Act.eval (Act.put (Act.put _ (some 31) (sv 8)) (some 30) (sv 7))) _) _)
    try simp only [Act.put, List.setIfInBounds_toArray, List.set_cons_succ, List.set_cons_zero]
    simp [go_sem, quietTo, Ext.refl, ↓IntWalk.iteOmega, f8, x2]
    all_goals try simp (disch := omega) only [IntWalk.i64_in]
    all_goals first
      | rfl
  refine fac_quiet 10 rfl rfl rfl (fun _ _ h _ => h) rfl rfl ?_
  apply Exists.intro
  refine ⟨fun sv w' hw' hfa => ?_, ?_⟩
  · refine ⟨rfl, ?_⟩
    simp only [putsL]
    change quietTo _ _ _ _ (Sem.run _ (execOp (Act.eval _) _) _)
    try simp only [Act.put, List.setIfInBounds_toArray, List.set_cons_succ, List.set_cons_zero]
    simp [go_sem, quietTo, Ext.refl]
    all_goals first
      | rfl
  refine fac_quiet 11 rfl rfl rfl (fun _ _ h _ => h) rfl rfl ?_
  apply Exists.intro
  refine ⟨fun sv w' hw' hfa => ?_, ?_⟩
  · obtain ⟨f10, -⟩ := hfa
    replace f10 : sv 10 = _ := f10
    try dsimp only at f10
    refine ⟨rfl, ?_⟩
    simp only [putsL]
    change quietTo _ _ _ _ (Sem.run _ (execOp (Act.eval (Act.put _ (some 33) (sv 10))) _) _)
    try simp only [Act.put, List.setIfInBounds_toArray, List.set_cons_succ, List.set_cons_zero]
    simp [go_sem, quietTo, Ext.refl, ↓IntWalk.iteOmega, f10]
    all_goals try simp (disch := omega) only [IntWalk.i64_in]
    all_goals first
      | rfl
  refine fac_quiet 12 rfl rfl rfl (fun _ _ h _ => h) rfl rfl ?_
  apply Exists.intro
  refine ⟨fun sv w' hw' hfa => ?_, ?_⟩
  · obtain ⟨_, f11, -⟩ := hfa
    replace f11 : sv 11 = _ := f11
    try dsimp only at f11
    obtain ⟨hc, hf, hz9⟩ := ((Ext.refl _).drew.trans hw').walk; have x0 := (hc _ 0 lR).trans v0; have x1 := (hc _ o3 l3).trans y0; have x2 := (hc _ (o3 + 1) l3).trans y1; have x3 := (hc _ (o3 + 2) l3).trans y2; have x4 := (hc _ 0 lC).trans y3
    refine ⟨rfl, ?_⟩
    simp only [putsL]
    change quietTo _ _ _ _ (Sem.run _ (execOp (Act.eval (Act.put (Act.put _ (some 34) (sv 11)) (some 33) (sv 10))) _) _)
    try simp only [Act.put, List.setIfInBounds_toArray, List.set_cons_succ, List.set_cons_zero]
    simp [go_sem, quietTo, Ext.refl, ↓IntWalk.iteOmega, f11, x3]
    all_goals try simp (disch := omega) only [IntWalk.i64_in]
    all_goals first
      | rfl
  refine fac_quiet 13 rfl rfl rfl (fun _ _ h _ => h) rfl rfl ?_
  apply Exists.intro
  refine ⟨fun sv w' hw' hfa => ?_, ?_⟩
  · obtain ⟨_, _, f9, _, _, f12, -⟩ := hfa
    replace f9 : sv 9 = _ := f9
    try dsimp only at f9
    replace f12 : sv 12 = _ := f12
    try dsimp only at f12
    refine ⟨rfl, ?_⟩
    simp only [putsL]
    change quietTo _ _ _ _ (Sem.run _ (execOp (Act.eval (Act.put (Act.put (Act.put (Act.put (Act.put (Act.put _ (some 35) (sv 12)) (some 34) (sv 11)) (some 33) (sv 10)) (some 32) (sv 9)) (some 31) (sv 8)) (some 30) (sv 7))) _) _)
    try simp only [Act.put, List.setIfInBounds_toArray, List.set_cons_succ, List.set_cons_zero]
    simp [go_sem, quietTo, Ext.refl, f9, f12]
    all_goals first
      | rfl
  refine fac_quiet 14 rfl rfl rfl (fun _ _ h _ => h) rfl rfl ?_
  apply Exists.intro
  refine ⟨fun sv w' hw' hfa => ?_, ?_⟩
  · obtain ⟨_, _, f3, _, _, f6, _, _, _, _, _, _, f13, -⟩ := hfa
    replace f3 : sv 3 = _ := f3
    try dsimp only at f3
    replace f6 : sv 6 = _ := f6
    try dsimp only at f6
    replace f13 : sv 13 = _ := f13
    try dsimp only at f13
    refine ⟨rfl, ?_⟩
    simp only [putsL]
    change quietTo _ _ _ _ (Sem.run _ (execOp (Act.eval (Act.put (Act.put (Act.put (Act.put (Act.put (Act.put (Act.put (Act.put (Act.put (Act.put (Act.put (Act.put (Act.put _ (some 36) (sv 13)) (some 35) (sv 12)) (some 34) (sv 11)) (some 33) (sv 10)) (some 32) (sv 9)) (some 31) (sv 8)) (some 30) (sv 7)) (some 29) (sv 6)) (some 28) (sv 5)) (some 27) (sv 4)) (some 26) (sv 3)) (some 25) (sv 2)) (some 24) (sv 1))) _) _)
    try simp only [Act.put, List.setIfInBounds_toArray, List.set_cons_succ, List.set_cons_zero]
    simp [go_sem, quietTo, Ext.refl, f3, f6, f13]
    all_goals first
      | rfl
  refine fac_row 15 rfl rfl rfl (fun _ _ h _ => h) (fun _ _ h => h.size) (fun _ _ _ _ _ he _ hb => hb.ext he) ?_
  apply Exists.intro
  apply Exists.intro
  apply Exists.intro
  apply Exists.intro
  refine ⟨fun sv w' hw' hfa => ?_, ?_⟩
  · obtain ⟨_, _, _, _, _, _, _, _, _, _, _, _, _, f14, -⟩ := hfa
    replace f14 : sv 14 = _ := f14
    try dsimp only at f14
    refine ⟨rfl, ?_⟩
    simp only [putsL]
    change rowTo _ _ _ _ _ (Sem.run _ (execOp (Act.eval (Act.put (Act.put (Act.put (Act.put (Act.put (Act.put (Act.put (Act.put (Act.put (Act.put (Act.put (Act.put (Act.put (Act.put _ (some 37) (sv 14)) (some 36) (sv 13)) (some 35) (sv 12)) (some 34) (sv 11)) (some 33) (sv 10)) (some 32) (sv 9)) (some 31) (sv 8)) (some 30) (sv 7)) (some 29) (sv 6)) (some 28) (sv 5)) (some 27) (sv 4)) (some 26) (sv 3)) (some 25) (sv 2)) (some 24) (sv 1))) _) _)
    try simp only [Act.put, List.setIfInBounds_toArray, List.set_cons_succ, List.set_cons_zero]
    simp [go_sem, rowTo, Ext.refl, f14]
    all_goals try simp (disch := omega) only [IntWalk.i64_in]
    all_goals first
      | rfl
      | exact ⟨rfl, rfl⟩
      | exact ⟨⟨rfl, rfl⟩, rfl⟩
  refine fac_nil fun xa wra hera hfra hcra holda hapa => ?_
  obtain ⟨f0, f1, f2, f3, f4, f5, f6, f7, f8, f9, f10, f11, f12, f13, f14, f15, -⟩ := hfra
  replace f0 : xa 0 = _ := f0
  try dsimp only at f0
  replace f1 : xa 1 = _ := f1
  try dsimp only at f1
  replace f2 : xa 2 = _ := f2
  try dsimp only at f2
  replace f3 : xa 3 = _ := f3
  try dsimp only at f3
  replace f4 : xa 4 = _ := f4
  try dsimp only at f4
  replace f5 : xa 5 = _ := f5
  try dsimp only at f5
  replace f6 : xa 6 = _ := f6
  try dsimp only at f6
  replace f7 : xa 7 = _ := f7
  try dsimp only at f7
  replace f8 : xa 8 = _ := f8
  try dsimp only at f8
  replace f9 : xa 9 = _ := f9
  try dsimp only at f9
  replace f10 : xa 10 = _ := f10
  try dsimp only at f10
  replace f11 : xa 11 = _ := f11
  try dsimp only at f11
  replace f12 : xa 12 = _ := f12
  try dsimp only at f12
  replace f13 : xa 13 = _ := f13
  try dsimp only at f13
  replace f14 : xa 14 = _ := f14
  try dsimp only at f14
  obtain ⟨g15, f15, l15, b15⟩ := f15
  replace f15 : xa 15 = _ := f15
  obtain ⟨p15, q15⟩ := b15.walk
  change wpList _ _ _ _ (Act.put (Act.put (Act.put (Act.put (Act.put (Act.put (Act.put (Act.put (Act.put (Act.put (Act.put (Act.put (Act.put (Act.put (Act.put (Act.put _ (some 23) (xa 0)) (some 24) (xa 1)) (some 25) (xa 2)) (some 26) (xa 3)) (some 27) (xa 4)) (some 28) (xa 5)) (some 29) (xa 6)) (some 30) (xa 7)) (some 31) (xa 8)) (some 32) (xa 9)) (some 33) (xa 10)) (some 34) (xa 11)) (some 35) (xa 12)) (some 36) (xa 13)) (some 37) (xa 14)) (some 38) (xa 15)) _
  simp only [putsL, Nat.reduceAdd, List.drop_succ_cons, List.drop_zero, List.drop_nil, Act.put, List.setIfInBounds_toArray, List.set_cons_succ, List.set_cons_zero]
  try simp only [f0, f1, f2, f3, f4, f5, f6, f7, f8, f9, f10, f11, f12, f13, f14, f15]
  clear f0 f1 f2 f3 f4 f5 f6 f7 f8 f9 f10 f11 f12 f13 f14
  clear holda hapa
  have hka := (Ext.refl _).drew.trans hera
  have howna := own_ext hka hown3.out
  have hCa := hC3.ext hka
  have hea := he3.trans hka
  have hsa := hea.size
  have hsC := hCa.lt
  clear v0 y0 y1 y2 y3 hown3 hC3
  go_wp2_with (at_builtin; go_loud (refine wp_app1 _ (.tmp 23) (.tmp 38) 26 37 4 40 _ rfl rfl Tryz.underlying26 voiInfo rfl (by decide) (by decide) (gC + 1) _ k _ rfl howna g15 (voiC ⟨a0, z1, z2, z3⟩) rfl rfl (by exact b15) (voi_one _) (by omega) (by omega) ?_; intro v' w6 hown6 hgrow6 _; have he6 := hea.app howna (by omega) hgrow6; have hC6 := hCa.app howna (by omega) hgrow6; obtain ⟨pC, qC⟩ := hC6.walk; have lC6 := hC6.lt; have hlts := hown6.lt; obtain ⟨g6, c6, rfl, hg6, hl6⟩ := hown6.form (by omega)))
  go_ret
  exact ⟨rfl, hstep.out _ _ (own_setFar hown6 (p := ⟨gC, 0, none⟩) (fun g e => by have := (hlts g e).1; simp only; omega) _) ((hC6.set_ 0 _).cast (by simp)) (he6.setCell (p := ⟨gC, 0, none⟩) hg _)⟩
end Go.Proofs.YtboplnogfjmpnaaGreatDoor
