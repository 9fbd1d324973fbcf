/- A note out of its name, by tune. Conditions: the string's size. -/
import Derived.Test.YtebhjmknlhmmdaaDoorNumP
import Derived.Test.YtebhjmknlhmmdaaDoorNameA
namespace Go.Proofs.YtebhjmknlhmmdaaDoor
open Go Go.RowKit

def nameL : List ByteArray := [⟨#[99]⟩, ⟨#[99, 35]⟩, ⟨#[100]⟩, ⟨#[100, 35]⟩, ⟨#[101]⟩, ⟨#[102]⟩, ⟨#[102, 35]⟩, ⟨#[103]⟩, ⟨#[103, 35]⟩, ⟨#[97]⟩, ⟨#[97, 35]⟩, ⟨#[98]⟩]
theorem nameL_cells : nameCells = (nameL.map Value.string).toArray := rfl

theorem indexNames_any (g : Nat) (x : ByteArray) (w : World) (hB : Blk w g 9 nameCells) :
    Calls Tryd.prog 43 #[.slice (some ⟨g, 0, none⟩) 12 12, .string x] w fun e w' => e = .returned (.int .i64 (Lib.idxOfS nameL x)) ∧ Ext w w' := by
  have h := Tryd.slices_Index_string g 0 12 12 nameL x w (by decide) (by decide) (fun j hj => by
    rw [Nat.zero_add, hB.cell j, nameL_cells]
    have hj' : j < nameL.length := hj
    simp [hj'])
  exact h.mono fun e w' ⟨he, hw⟩ => ⟨he, hw ▸ Ext.refl _⟩

theorem indexNames_is {g : Nat} {x : ByteArray} {v : Int} {w : World} (hB : Blk w g 9 nameCells) (h : Lib.idxOfS nameL x = v) :
    Calls Tryd.prog 43 #[.slice (some ⟨g, 0, none⟩) 12 12, .string x] w fun e w' => e = .returned (.int .i64 v) ∧ Ext w w' := h ▸ indexNames_any g x w hB

def cutB (s : ByteArray) (b : UInt8) : ByteArray := ⟨(Lib.trimPrefix s.data.toList [b]).toArray⟩
theorem cut_any (s : ByteArray) (b : UInt8) (w : World) :
    Calls Tryd.prog 44 #[.string s, .string ⟨#[b]⟩] w fun e w' => e = .returned (.tuple #[.string (cutB s b), .bool (Lib.hasPrefix s.data.toList [b])]) ∧ w = w' :=
  (Tryd.strings_CutPrefix s ⟨#[b]⟩ w).mono fun e w' h => ⟨h.1, h.2.symm⟩
theorem size_cut (s : ByteArray) (b : UInt8) : (cutB s b).size ≤ s.size := by
  unfold cutB Lib.trimPrefix
  show (List.toArray _).size ≤ s.data.size
  split
  · simp
  · simp

def tailB (s : ByteArray) : ByteArray := s.extract 1 s.size
def headN (s : ByteArray) : Int := Lib.idxOfS nameL (s.extract 0 1)
theorem idxFrom_range : ∀ (l : List ByteArray) (x : ByteArray) (k : Nat), Lib.idxFromS l x k = -1 ∨ ((k : Int) ≤ Lib.idxFromS l x k ∧ Lib.idxFromS l x k < k + l.length)
  | [], _, _ => Or.inl rfl
  | z :: l, x, k => by
    unfold Lib.idxFromS
    rw [List.length_cons]
    split
    · right; omega
    · rcases idxFrom_range l x (k + 1) with h | h
      · exact Or.inl h
      · right; push_cast at *; omega
theorem head_range (s : ByteArray) : -1 ≤ headN s ∧ headN s < 12 := by
  have h := idxFrom_range nameL (s.extract 0 1) 0
  have e : headN s = Lib.idxFromS nameL (s.extract 0 1) 0 := rfl
  have e12 : nameL.length = 12 := rfl
  rw [e]
  omega
theorem size_tail (s : ByteArray) : (tailB s).size ≤ s.size := by
  unfold tailB; simp
def sharpB (s : ByteArray) : Bool := Lib.hasPrefix (tailB s).data.toList [35]
def flatB (s : ByteArray) : Bool := Lib.hasPrefix (tailB s).data.toList [98]
def restB (s : ByteArray) : ByteArray := if sharpB s then cutB (tailB s) 35 else if flatB s then cutB (tailB s) 98 else tailB s
def accN (s : ByteArray) : Int := if sharpB s then 1 else if flatB s then -1 else 0
def noteV (s : ByteArray) : Int := headN s + accN s + 12 * (numR 1 (restB s) + 1)
def noteE (s : ByteArray) : Int := if s.toList.isEmpty then 9 else if headN s < 0 then 9 else if numOk 1 (restB s) then (if outB (noteV s) 0 127 then 1 else 0) else 9
def noteR (s : ByteArray) : Int := if noteE s = 0 then noteV s else 0

theorem size_rest (s : ByteArray) : (restB s).size ≤ s.size := by
  have h1 := size_tail s
  have h2 := size_cut (tailB s) 35
  have h3 := size_cut (tailB s) 98
  unfold restB
  split
  · omega
  · split <;> omega

theorem numR_range (most : Int) (s : ByteArray) (hm : most ≤ 15) : -1000000000000000 < numR most s ∧ numR most s < 1000000000000000 := by
  unfold numR
  split
  · rename_i h
    unfold numOk at h
    simp only [Bool.and_eq_true, Bool.not_eq_true', decide_eq_true_eq] at h
    obtain ⟨⟨⟨h1, h2⟩, h3⟩, h4⟩ := h
    obtain ⟨v, hv, hlt, _⟩ := num_atoi h1 h2 (by simpa using h3) hm
    unfold numV
    rw [hv]
    simp only [Option.getD_some]
    split <;> omega
  · omega

theorem cutSharp (s : ByteArray) (w : World) :
    Calls Tryd.prog 44 #[.string (s.extract 1 s.size), .string ⟨#[35]⟩] w fun e w' => e = .returned (.tuple #[.string (cutB (tailB s) 35), .bool (sharpB s)]) ∧ w = w' := cut_any (tailB s) 35 w
theorem cutFlat (s : ByteArray) (w : World) :
    Calls Tryd.prog 44 #[.string (s.extract 1 s.size), .string ⟨#[98]⟩] w fun e w' => e = .returned (.tuple #[.string (cutB (tailB s) 98), .bool (flatB s)]) ∧ w = w' := cut_any (tailB s) 98 w

set_option maxRecDepth 100000 in
set_option maxHeartbeats 3200000 in
theorem note_any (s : ByteArray) (w : World) (hs : s.size ≤ 1000000000) :
    Calls Tryd.prog 18 #[.string s] w fun e w' => e = .returned (.tuple #[.int .i64 (noteR s), .int .i64 (noteE s)]) ∧ Ext w w' := by
  have hE : noteE s = if s.toList.isEmpty then 9 else if headN s < 0 then 9 else if numOk 1 (restB s) then (if outB (noteV s) 0 127 then 1 else 0) else 9 := rfl
  have hR : noteR s = if noteE s = 0 then noteV s else 0 := rfl
  have hV : noteV s = headN s + accN s + 12 * (numR 1 (restB s) + 1) := rfl
  generalize noteR s = R at *
  generalize noteE s = E at *
  generalize noteV s = V at *
  have hr : restB s = if sharpB s then cutB (tailB s) 35 else if flatB s then cutB (tailB s) 98 else tailB s := rfl
  have ha : accN s = if sharpB s then 1 else if flatB s then -1 else 0 := rfl
  have hsr := size_rest s
  have hnr := numR_range 1 (restB s) (by omega)
  have hi := head_range s
  have hC1 := cutSharp s
  have hC2 := cutFlat s
  have hN := fun w => number_any (restB s) 1 w (by omega) (by omega) (by omega)
  have e1 : Lib.idxOfS nameL (s.extract 0 1) = headN s := rfl
  have ht : tailB s = s.extract 1 s.size := rfl
  generalize sharpB s = sh at *
  generalize flatB s = fl at *
  generalize accN s = ac at *
  generalize headN s = hd at *
  generalize restB s = rs at *
  generalize numR 1 rs = nr at *
  generalize numOk 1 rs = nk at *
  replace hC1 := Lib.hid hC1
  replace hC2 := Lib.hid hC2
  replace hE := Lib.hid hE
  replace hR := Lib.hid hR
  cases h0 : s.toList.isEmpty
  case false =>
    have hp := (size_toList s).1 h0
    have hac : -1 ≤ ac ∧ ac ≤ 1 := by rw [ha]; split; omega; split <;> omega
    cases sh
    case' false => cases fl
    all_goals
      simp only [if_true, if_false, Bool.false_eq_true] at hr ha
      try rw [← hr] at hC1
      try rw [← hr] at hC2
      try (rw [ht] at hr; subst hr)
      subst ha
      cases nk
    all_goals
      replace hN := Lib.hid hN
      go_enter Tryd.func18, Tryd.ntmps18
      go_wp2
      refine wp_region_facts [([], false, true), ([], false, false), ([1], false, false), ([0, 1, 2], false, false), ([0, 1, 2, 3], false, false)] (Ext) Ext (fun _ => True) (by kernel_rfl) (by kernel_rfl) Ext.refl (fun _ _ _ => Ext.trans) (fun _ _ h => h) (fun _ _ h => h.size) (fun _ _ h _ => h) trivial ?_
      dsimp only [List.length_cons, List.length_nil, List.drop_succ_cons, List.drop_zero, List.drop_nil]
      refine fac_callS 0 rfl rfl (fun _ _ h _ => h) (fun _ _ h => h.size) (fun _ _ _ _ _ he _ hb => hb.ext he) ?_
      apply Exists.intro
      apply Exists.intro
      apply Exists.intro
      apply Exists.intro
      refine ⟨fun sv w' hw' hfa => ?_, ?_⟩
      · skip
        refine ⟨rfl, ?_⟩
        simp only [putsL]
        change outc _ _ (Sem.run _ (execOp (Act.eval _) _) _)
        try simp only [Act.put, List.setIfInBounds_toArray, List.set_cons_succ, List.set_cons_zero]
        simp [go_sem, outc]
        exact names_fresh _
      refine fac_quiet 1 rfl rfl (fun _ _ h _ => h) rfl rfl ?_
      apply Exists.intro
      refine ⟨fun sv w' hw' hfa => ?_, ?_⟩
      · skip
        refine ⟨rfl, ?_⟩
        simp only [putsL]
        change quietTo _ _ _ _ (Sem.run _ (execOp (Act.eval _) _) _)
        try simp only [Act.put, List.setIfInBounds_toArray, List.set_cons_succ, List.set_cons_zero]
        simp [go_sem, quietTo, Ext.refl, ↓IntWalk.iteOmega]
        all_goals try simp (disch := omega) only [IntWalk.i64_in]
        all_goals first
          | rfl
      refine fac_quiet 2 rfl rfl (fun _ _ h _ => h) rfl rfl ?_
      apply Exists.intro
      refine ⟨fun sv w' hw' hfa => ?_, ?_⟩
      · obtain ⟨f1, -⟩ := hfa
        replace f1 : sv 1 = _ := f1
        try dsimp only at f1
        skip
        refine ⟨rfl, ?_⟩
        simp only [putsL]
        change quietTo _ _ _ _ (Sem.run _ (execOp (Act.eval (Act.put _ (some 15) (sv 1))) _) _)
        try simp only [Act.put, List.setIfInBounds_toArray, List.set_cons_succ, List.set_cons_zero]
        simp [go_sem, quietTo, Ext.refl, ↓IntWalk.iteOmega, f1]
        all_goals try simp (disch := omega) only [IntWalk.i64_in]
        all_goals first
          | rfl
      refine fac_quiet 3 rfl rfl (fun _ _ h _ => h) rfl rfl ?_
      apply Exists.intro
      refine ⟨fun sv w' hw' hfa => ?_, ?_⟩
      · obtain ⟨f0, f1, f2, -⟩ := hfa
        obtain ⟨g0, f0, l0, b0⟩ := f0
        replace f0 : sv 0 = _ := f0
        obtain ⟨p0, q0⟩ := b0.walk
        replace f1 : sv 1 = _ := f1
        try dsimp only at f1
        replace f2 : sv 2 = _ := f2
        try dsimp only at f2
        skip
        refine ⟨rfl, ?_⟩
        simp only [putsL]
        change quietTo _ _ _ _ (Sem.run _ (execOp (Act.eval (Act.put (Act.put (Act.put _ (some 16) (sv 2)) (some 15) (sv 1)) (some 14) (sv 0))) _) _)
        try simp only [Act.put, List.setIfInBounds_toArray, List.set_cons_succ, List.set_cons_zero]
        simp [go_sem, quietTo, Ext.refl, ↓IntWalk.iteOmega, f0, f1, f2, p0, q0]
        all_goals try simp (disch := omega) only [IntWalk.i64_in]
        all_goals first
          | rfl
          | (exact indexNames_is b0 e1)
      refine fac_quiet 4 rfl rfl (fun _ _ h _ => h) rfl rfl ?_
      apply Exists.intro
      refine ⟨fun sv w' hw' hfa => ?_, ?_⟩
      · obtain ⟨f0, f1, f2, f3, -⟩ := hfa
        obtain ⟨g0, f0, l0, b0⟩ := f0
        replace f0 : sv 0 = _ := f0
        obtain ⟨p0, q0⟩ := b0.walk
        replace f1 : sv 1 = _ := f1
        try dsimp only at f1
        replace f2 : sv 2 = _ := f2
        try dsimp only at f2
        replace f3 : sv 3 = _ := f3
        try dsimp only at f3
        skip
        refine ⟨rfl, ?_⟩
        simp only [putsL]
        change quietTo _ _ _ _ (Sem.run _ (execOp (Act.eval (Act.put (Act.put (Act.put (Act.put _ (some 17) (sv 3)) (some 16) (sv 2)) (some 15) (sv 1)) (some 14) (sv 0))) _) _)
        try simp only [Act.put, List.setIfInBounds_toArray, List.set_cons_succ, List.set_cons_zero]
        simp [go_sem, quietTo, Ext.refl, ↓IntWalk.iteOmega, f0, f1, f2, f3, p0, q0]
        all_goals try simp (disch := omega) only [IntWalk.i64_in]
        all_goals first
          | rfl
      refine fac_nil fun x wr her hfr hcr hold hap => ?_
      obtain ⟨f0, f1, f2, f3, f4, -⟩ := hfr
      obtain ⟨g0, f0, l0, b0⟩ := f0
      replace f0 : x 0 = _ := f0
      obtain ⟨p0, q0⟩ := b0.walk
      replace f1 : x 1 = _ := f1
      try dsimp only at f1
      replace f2 : x 2 = _ := f2
      try dsimp only at f2
      replace f3 : x 3 = _ := f3
      try dsimp only at f3
      replace f4 : x 4 = _ := f4
      try dsimp only at f4
      change wpList _ _ _ _ (Act.put (Act.put (Act.put (Act.put (Act.put _ (some 14) (x 0)) (some 15) (x 1)) (some 16) (x 2)) (some 17) (x 3)) (some 4) (x 4)) _
      simp only [putsL, Nat.reduceAdd, List.drop_succ_cons, List.drop_zero, List.drop_nil, Act.put, List.setIfInBounds_toArray, List.set_cons_succ, List.set_cons_zero]
      try simp only [f1, f2, f3, f4]
      clear f1 f2 f3 f4
      clear hold hap
      clear e1
      replace hV := Lib.hid hV
      go_wp2_with (first
        | (go_at_call 44; first
            | ((with_reducible refine Calls.mono (hC1.out _) ?_); rintro e w1 ⟨rfl, rfl⟩)
            | ((with_reducible refine Calls.mono (hC2.out _) ?_); rintro e w1 ⟨rfl, rfl⟩))
        | (go_at_call 45; (with_reducible refine Calls.mono (hN.out _) ?_); rintro e w2 ⟨rfl, hb2⟩)
        | (go_at_call 38; (with_reducible refine Calls.mono (outside_any _ _ _ _) ?_); rintro e w3 ⟨rfl, rfl⟩))
    all_goals
      replace hV := hV.out
      try simp only [← Int.sub_eq_add_neg] at hV
      first
        | (have hEv : E = 9 := by rw [hE.out]; simp [*]
           have hRv : R = 0 := by rw [hR.out, hEv]; rfl
           go_ret2
           refine ⟨by rw [hEv, hRv]; rfl, ?_⟩)
        | (have hEv : E = 1 := by
             rw [hE.out, hV]
             first
               | (simp [*]; done)
               | (simp [*]; omega)
           have hRv : R = 0 := by rw [hR.out, hEv]; rfl
           go_ret2
           refine ⟨by rw [hEv, hRv]; rfl, ?_⟩)
        | (have hEv : E = 0 := by
             rw [hE.out, hV]
             first
               | (simp [*]; done)
               | (simp [*]; omega)
           have hRv : R = V := by rw [hR.out, hEv]; rfl
           go_ret2
           refine ⟨by rw [hEv, hRv, hV]; first | rfl | (simp; done) | (congr; omega), ?_⟩)
      first
        | (exact (Ext.refl w).drew.trans her)
        | (exact (Ext.refl w).drew.trans (her.trans hb2))
  case true =>
    go_enter Tryd.func18, Tryd.ntmps18
    go_wp2
    go_ret2
    refine ⟨?_, Ext.refl _⟩
    rw [h0] at hE
    rw [hR.out, hE.out]
    rfl

end Go.Proofs.YtebhjmknlhmmdaaDoor
