/- What is said of rows that are lifted: plain mathematics; a list that is sorted, a stand that is found, a clone. Conditions: as each theorem says. -/
import Derived.Test.YtfmkmnnmckbljaaGreatDoorLsSuD
import Derived.Test.YtfmkmnnmckbljaaGreatDoorLsSuB
import Derived.Test.YtfmkmnnmckbljaaGreatDoorLsStZ
set_option linter.unusedSimpArgs false
set_option linter.unusedVariables false
namespace Go.Proofs.YtfmkmnnmckbljaaGreatDoor
open Go Go.RowKit

theorem idx_or {α : Type} (p : α → Bool) (d : α) : ∀ (l : List α) (i : Nat), (Lib.idxByFrom (fun _ y => p y) d l i = -1 ∧ ∀ x ∈ l, p x = false) ∨ ∃ k x, l[k]? = some x ∧ p x = true ∧ Lib.idxByFrom (fun _ y => p y) d l i = ((i + k : Nat) : Int)
  | [], _ => .inl ⟨rfl, fun x hx => by cases hx⟩
  | y :: r, i => by
    unfold Lib.idxByFrom
    cases h : p y
    · rcases idx_or p d r (i + 1) with ⟨h1, h2⟩ | ⟨k, x, hx, hp, e⟩
      · refine .inl ⟨by simpa using h1, fun x hx => ?_⟩
        rcases List.mem_cons.1 hx with e | hx
        · subst e; exact h
        · exact h2 x hx
      · refine .inr ⟨k + 1, x, hx, hp, ?_⟩
        simp only [Bool.false_eq_true, if_false]
        rw [e]
        congr 1
        omega
    · exact .inr ⟨0, y, rfl, h, by simp⟩
theorem clone_int {α : Type} {enc : α → List Value} (val : α → Int) (henc : ∀ x, enc x = [.int .i64 (val x)]) (p : Option Addr) (n c : Nat) (xs : List α) (w : World) (h : Slc 1 enc w p n c xs) (hn : n ≤ 1000) :
    Calls Tryz.prog 29 #[.slice p n c] w fun e w' => ∃ p' c', e = .returned (.slice p' n c') ∧ w'.ownsRow w.heap.size 3 1 (.slice p' n c') n (xs.flatMap enc) ∧ Ext w w' := by
  have hfl : ∀ l : List α, (l.map val).map (Value.int .i64) = l.flatMap enc := fun l => by
    induction l with
    | nil => rfl
    | cons x l ih => rw [List.flatMap_cons, ← ih, henc]; rfl
  obtain ⟨hl, ⟨rfl, rfl⟩ | ⟨b, off, rfl, hb, hE⟩⟩ := slcC h
  · subst hl
    refine (Tryz.slices_Clone_int_nil 0 c w).mono fun e w' ⟨he, hw⟩ => ?_
    subst hw
    exact ⟨none, 0, he, World.ownsRow_nil _ _ _ _, Ext.refl _⟩
  · refine (Tryz.slices_Clone_int b off n c (xs.map val) w (by rw [List.length_map]; omega) (by omega) (fun j hj => ?_)).mono fun e w' ⟨v', he, ho, hne, hb'⟩ => ?_
    · rw [List.length_map] at hj
      have hx : xs[j]? = some xs[j] := List.getElem?_eq_getElem hj
      have := hE j _ hx 0 (.int .i64 (val xs[j])) (by rw [henc]; rfl)
      rw [List.getD_eq_getElem?_getD, List.getElem?_map, hx]
      simpa using this
    · rw [List.take_of_length_le (by rw [List.length_map]; omega), hfl] at ho
      rcases ho.2 with ⟨h1, _⟩ | ⟨g, cap, cur, h1, _⟩
      · exact absurd h1 hne
      · subst h1
        exact ⟨_, _, he, ho, hb'⟩

theorem foldl_inv {α : Type} {f : Int → α → Int} {I : Int → Prop} : ∀ (l : List α) (acc : Int), (∀ acc x, x ∈ l → I acc → I (f acc x)) → I acc → I (l.foldl f acc)
  | [], _, _, h => h
  | x :: l, acc, hf, h => foldl_inv l (f acc x) (fun a y hy => hf a y (List.mem_cons_of_mem _ hy)) (hf acc x List.mem_cons_self h)
section
variable {P : List PersonV} {wide high : List Int} {S : List StandV}
theorem getD_bound {u : List Int} {lo hi : Int} (h : ∀ v ∈ u, lo ≤ v ∧ v ≤ hi) (h0 : lo ≤ 0 ∧ 0 ≤ hi) (i : Nat) : lo ≤ u.getD i 0 ∧ u.getD i 0 ≤ hi := by
  rw [List.getD_eq_getElem?_getD]
  cases hg : u[i]? with
  | none => simpa using h0
  | some v => simpa using h v (List.mem_of_getElem? hg)
theorem liftL_bound (hok : StandsOk P wide high S) : ∀ n, ∀ v ∈ liftL P wide high S n, 0 ≤ v ∧ v ≤ 2000001 * n
  | 0 => fun v hv => by cases hv
  | 1 => fun v hv => by
    simp only [liftL, List.mem_singleton] at hv
    omega
  | n + 2 => fun v hv => by
    have ih := liftL_bound hok (n + 1)
    simp only [liftL] at hv
    rcases List.mem_append.1 hv with h | h
    · have := ih v h
      omega
    · rw [List.mem_singleton] at h
      subst h
      have hb : ∀ i, 0 ≤ (liftL P wide high S (n + 1)).getD i 0 ∧ (liftL P wide high S (n + 1)).getD i 0 ≤ 2000001 * ((n + 1 : Nat) : Int) := fun i => getD_bound ih (by omega) i
      unfold liftR
      have h2 : ((n + 2 : Nat) : Int) = ((n + 1 : Nat) : Int) + 1 := by omega
      refine foldl_inv (I := fun x => 0 ≤ x ∧ x ≤ 2000001 * ((n + 2 : Nat) : Int)) S _ (fun acc b hb1 hacc => ?_) (by have := hb n; omega)
      unfold liftB
      refine foldl_inv (I := fun x => 0 ≤ x ∧ x ≤ 2000001 * ((n + 2 : Nat) : Int)) S _ (fun acc a ha1 hacc => ?_) hacc
      have t1 := top_bound hok.po hok.ho hok.all ha1
      have t2 := top_bound hok.po hok.ho hok.all hb1
      have t3 := hb a.row.toNat
      split
      · omega
      · exact hacc
/-- The heights of rows that are lifted. -/
def hiL (high u : List Int) : List Int := List.zipWith (· + ·) high u
theorem hiL_len {high u : List Int} (h : u.length = high.length) : (hiL high u).length = high.length := by unfold hiL; rw [List.length_zipWith]; omega
theorem hiL_at {high u : List Int} {i : Nat} {x y : Int} (hx : high[i]? = some x) (hy : u[i]? = some y) : (hiL high u)[i]? = some (x + y) := by
  unfold hiL
  rw [List.getElem?_zipWith, hx, hy]
theorem hiL_bound {high u : List Int} {A B : Int} (h1 : ∀ v ∈ high, 0 ≤ v ∧ v ≤ A) (h2 : ∀ v ∈ u, 0 ≤ v ∧ v ≤ B) : ∀ v ∈ hiL high u, 0 ≤ v ∧ v ≤ A + B := fun v hv => by
  obtain ⟨i, hi, e⟩ := List.getElem_of_mem hv
  unfold hiL at hi e
  rw [List.getElem_zipWith] at e
  rw [List.length_zipWith] at hi
  have a1 := h1 _ (List.getElem_mem (show i < high.length by omega))
  have a2 := h2 _ (List.getElem_mem (show i < u.length by omega))
  omega
theorem top_lift (hok : StandsOk P wide high S) {x : StandV} (hx : x ∈ S) : topS P (hiL high (liftL P wide high S wide.length)) x = topS P high x + (liftL P wide high S wide.length).getD x.row.toNat 0 := by
  have hr := hok.on x hx
  have hl := liftL_len (P := P) (wide := wide) (high := high) (S := S) wide.length
  have hwh := hok.wh
  have hlt : x.row.toNat < wide.length := by have := hr.1; have := hr.2.1; omega
  have e1 : high[x.row.toNat]? = some high[x.row.toNat] := List.getElem?_eq_getElem (by omega)
  have e2 : (liftL P wide high S wide.length)[x.row.toNat]? = some (liftL P wide high S wide.length)[x.row.toNat] := List.getElem?_eq_getElem (by omega)
  unfold topS
  rw [List.getD_eq_getElem?_getD, hiL_at e1 e2, List.getD_eq_getElem?_getD, e1, List.getD_eq_getElem?_getD, e2]
  simp only [Option.getD_some]
  omega
/-- When rows are lifted nobody is hidden. -/
theorem lifted_none (hok : StandsOk P wide high S) : hiddenL P wide (hiL high (liftL P wide high S wide.length)) S = [] := by
  unfold hiddenL
  rw [List.flatMap_eq_nil_iff]
  intro b hb
  rw [List.map_eq_nil_iff, List.filter_eq_nil_iff]
  intro a ha hh
  unfold hidesS at hh
  simp only [Bool.and_eq_true, decide_eq_true_eq] at hh
  obtain ⟨h1, h2⟩ := hh
  rw [top_lift hok ha, top_lift hok hb] at h2
  have := lift_seen (P := P) (high := high) (n := wide.length) ha hb (hok.on a ha).1 (hok.on b hb).2.1 h1
  omega
/-- Who is hidden stands behind the first row. -/
theorem hidden_row (hok : StandsOk P wide high S) {z : ByteArray × ByteArray} (hz : z ∈ hiddenL P wide high S) : ∃ b ∈ S, b.name = z.1 ∧ 1 ≤ b.row := by
  unfold hiddenL at hz
  obtain ⟨b, hb, h1⟩ := List.mem_flatMap.1 hz
  obtain ⟨a, ha, rfl⟩ := List.mem_map.1 h1
  obtain ⟨ha1, ha2⟩ := List.mem_filter.1 ha
  refine ⟨b, hb, rfl, ?_⟩
  unfold hidesS beforeS at ha2
  simp only [Bool.and_eq_true, decide_eq_true_eq] at ha2
  have := (hok.on a ha1).1
  omega
theorem lift_zero {n : Nat} (h : 1 ≤ n) : (liftL P wide high S n)[0]? = some 0 := by
  have h1 := liftL_at (P := P) (wide := wide) (high := high) (S := S) (n - 1) 1 0 (by omega)
  rw [show 1 + (n - 1) = n by omega] at h1
  have hl := liftL_len (P := P) (wide := wide) (high := high) (S := S) n
  have e : (liftL P wide high S n)[0]? = some (liftL P wide high S n)[0] := List.getElem?_eq_getElem (by omega)
  rw [List.getD_eq_getElem?_getD, e] at h1
  rw [e]
  simpa [liftL] using h1
theorem lift_up {n k : Nat} {x y : Int} (hx : (liftL P wide high S n)[k]? = some x) (hy : (liftL P wide high S n)[k + 1]? = some y) : x ≤ y := by
  have hl := liftL_len (P := P) (wide := wide) (high := high) (S := S) n
  have hk := (List.getElem?_eq_some_iff.1 hy).1
  have := lift_rise (P := P) (wide := wide) (high := high) (S := S) (n := n) (k := k) (by omega)
  rw [List.getD_eq_getElem?_getD, List.getD_eq_getElem?_getD, hx, hy] at this
  simpa using this
theorem standsF_lift {high2 : List Int} (h : standsF P wide high S = 0) (h2 : stageF wide high2 = 0) : standsF P wide high2 S = 0 := by
  unfold standsF at h ⊢
  by_cases h0 : ostF P wide high = 0
  · rw [if_pos h0] at h
    have hp := (ostF_ok h0).1
    have : ostF P wide high2 = 0 := by unfold ostF; rw [if_pos hp, h2]
    rw [if_pos this]
    exact h
  · rw [if_neg h0] at h
    exact absurd h h0
end

set_option maxRecDepth 100000 in
theorem lessInt_any (x y : Int) (w : World) : Calls Tryz.prog 64 #[.int .i64 x, .int .i64 y] w fun e w' => e = .returned (.bool (decide (x < y))) ∧ Ext w w' := by
  by_cases h : x < y
  all_goals
    go_enter Tryz.func64, Tryz.ntmps64
    go_wp2_with (go_at_call 87; (with_reducible refine Calls.mono (isNaNI_any _ _) ?_); rintro e w' ⟨rfl, rfl⟩)
    go_ret
    exact ⟨ret_bool (by simp [h]), Ext.refl _⟩

set_option maxRecDepth 100000 in
set_option maxHeartbeats 1600000 in
theorem isSorted_any (b c : Nat) (u : List Int) (w : World) (hb : Blk w b 3 (rowI u)) (hn : u.length ≤ 1000) (hup : ∀ k x y, u[k]? = some x → u[k + 1]? = some y → x ≤ y) :
    Calls Tryz.prog 26 #[.slice (some ⟨b, 0, none⟩) u.length c] w fun e w' => e = .returned (.bool true) ∧ Ext w w' := by
  have hbl := hb.lt
  replace hup := Lib.hid hup
  have hnw : IntKind.i64.wrap ((u.length : Int) - 1) = (u.length : Int) - 1 := IntWalk.i64_in _ (by omega)
  go_enter Tryz.func26, Tryz.ntmps26
  go_wp2
  go_loopw [3] (fun v3 wr => (v3 = .int .i64 ((u.length : Int) - 1) ∧ u.length = 0 ∨ ∃ q : Nat, v3 = .int .i64 q ∧ q < u.length) ∧ Ext w wr) (fun v3 _ => (intOf v3).toNat)
  case atStart =>
    refine ⟨?_, Ext.refl _⟩
    rcases Nat.eq_zero_or_pos u.length with h0 | h0
    · exact .inl ⟨rfl, h0⟩
    · exact .inr ⟨u.length - 1, by rw [show (((u.length - 1 : Nat)) : Int) = (u.length : Int) - 1 by omega], by omega⟩
  case round =>
    clear hnw
    obtain ⟨hv, hE⟩ := hrel
    rcases hv with ⟨rfl, h0⟩ | ⟨q, rfl, hq⟩
    · have hle : ¬ 0 < (u.length : Int) - 1 := by omega
      have hle2 : (u.length : Int) ≤ 1 := by omega
      replace h0 := Lib.hid h0
      go_wp2
      go_ret
      exact ⟨rfl, hE⟩
    · rcases Nat.eq_zero_or_pos q with h0 | h0
      · have hle : ¬ 0 < (q : Int) := by omega
        replace h0 := Lib.hid h0
        go_wp2
        go_ret
        exact ⟨rfl, hE⟩
      · obtain ⟨k, rfl⟩ : ∃ k, q = k + 1 := ⟨q - 1, by omega⟩
        obtain ⟨x, hx⟩ := getD_some (rfl : u.length = u.length) (show k + 1 < u.length from hq)
        obtain ⟨y, hy⟩ := getD_some (rfl : u.length = u.length) (show k < u.length by omega)
        have hxy := hup.out k y x hy hx
        have hpos : 0 < (k : Int) + 1 := by omega
        have c1 := rowI_cell (hb.ext hE) hx
        have c2 := rowI_cell (hb.ext hE) hy
        have hlw := Nat.lt_of_lt_of_le hbl hE.size
        have hq1 : (k : Int) + 1 < u.length := by omega
        have hq2 : (k : Int) < u.length := by omega
        have hwk : IntKind.i64.wrap (k : Int) = k := IntWalk.i64_in _ (by omega)
        have hk9' : ((k : Int) + 1).toNat = k + 1 := by omega
        have hls := fun v => lessInt_any x y v
        rw [decide_eq_false (by omega : ¬ x < y)] at hls
        replace hls := Lib.hid hls
        clear hx hy
        go_upto_region 4 with fail
        refine wp_region_facts [] [([], false, false), ([], false, false), ([0, 1], false, false), ([0, 1, 2], false, false), ([], false, false), ([], false, false), ([5], false, false), ([4, 5, 6], false, false), ([4, 5, 6, 7], false, false), ([0, 1, 2, 3, 4, 5, 6, 7, 8], false, false)] (Ext) Ext (fun _ => True) (by kernel_rfl) (by kernel_rfl) Ext.refl (fun _ _ _ => Ext.trans) (fun _ _ h => h) (fun _ _ h => h.size) (fun _ _ h _ => h) trivial ?_
        dsimp only [List.length_cons, List.length_nil, List.drop_succ_cons, List.drop_zero, List.drop_nil]
        refine fac_quiet 0 rfl rfl rfl (fun _ _ h _ => h) rfl rfl ?_
        apply Exists.intro
        refine ⟨fun sv w' hw' hfa => ?_, ?_⟩
        · refine ⟨rfl, ?_⟩
          simp only [putsL]
          change quietTo _ _ _ _ (Sem.run _ (execOp (Act.eval _) _) _)
          try simp only [Act.put, List.setIfInBounds_toArray, List.set_cons_succ, List.set_cons_zero]
          simp [go_sem, quietTo, Ext.refl]
          all_goals first
            | rfl
        refine fac_quiet 1 rfl rfl rfl (fun _ _ h _ => h) rfl rfl ?_
        apply Exists.intro
        refine ⟨fun sv w' hw' hfa => ?_, ?_⟩
        · refine ⟨rfl, ?_⟩
          simp only [putsL]
          change quietTo _ _ _ _ (Sem.run _ (execOp (Act.eval _) _) _)
          try simp only [Act.put, List.setIfInBounds_toArray, List.set_cons_succ, List.set_cons_zero]
          simp [go_sem, quietTo, Ext.refl]
          all_goals first
            | rfl
        refine fac_quiet 2 rfl rfl rfl (fun _ _ h _ => h) rfl rfl ?_
        apply Exists.intro
        refine ⟨fun sv w' hw' hfa => ?_, ?_⟩
        · obtain ⟨f0, f1, -⟩ := hfa
          replace f0 : sv 0 = _ := f0
          try dsimp only at f0
          replace f1 : sv 1 = _ := f1
          try dsimp only at f1
          obtain ⟨hc9, hff, hz9⟩ := ((Ext.refl wr).drew.trans hw').walk; have v1 := (hc9 _ _ hlw).trans c1; have v2 := (hc9 _ _ hlw).trans c2
          refine ⟨rfl, ?_⟩
          simp only [putsL]
          change quietTo _ _ _ _ (Sem.run _ (execOp (Act.eval (Act.put (Act.put _ (some 12) (sv 1)) (some 11) (sv 0))) _) _)
          try simp only [Act.put, List.setIfInBounds_toArray, List.set_cons_succ, List.set_cons_zero]
          simp [go_sem, quietTo, Ext.refl, ↓IntWalk.iteOmega, f0, f1, hq1, hk9']
          all_goals try simp (disch := omega) only [IntWalk.i64_in]
          all_goals first
            | rfl
        refine fac_quiet 3 rfl rfl rfl (fun _ _ h _ => h) rfl rfl ?_
        apply Exists.intro
        refine ⟨fun sv w' hw' hfa => ?_, ?_⟩
        · obtain ⟨_, _, f2, -⟩ := hfa
          replace f2 : sv 2 = _ := f2
          try dsimp only at f2
          obtain ⟨hc9, hff, hz9⟩ := ((Ext.refl wr).drew.trans hw').walk; have v1 := (hc9 _ _ hlw).trans c1; have v2 := (hc9 _ _ hlw).trans c2
          refine ⟨rfl, ?_⟩
          simp only [putsL]
          change quietTo _ _ _ _ (Sem.run _ (execOp (Act.eval (Act.put (Act.put (Act.put _ (some 13) (sv 2)) (some 12) (sv 1)) (some 11) (sv 0))) _) _)
          try simp only [Act.put, List.setIfInBounds_toArray, List.set_cons_succ, List.set_cons_zero]
          simp [go_sem, quietTo, Ext.refl, ↓IntWalk.iteOmega, f2, v1]
          all_goals try simp (disch := omega) only [IntWalk.i64_in]
          all_goals first
            | rfl
        refine fac_quiet 4 rfl rfl rfl (fun _ _ h _ => h) rfl rfl ?_
        apply Exists.intro
        refine ⟨fun sv w' hw' hfa => ?_, ?_⟩
        · refine ⟨rfl, ?_⟩
          simp only [putsL]
          change quietTo _ _ _ _ (Sem.run _ (execOp (Act.eval _) _) _)
          try simp only [Act.put, List.setIfInBounds_toArray, List.set_cons_succ, List.set_cons_zero]
          simp [go_sem, quietTo, Ext.refl]
          all_goals first
            | rfl
        refine fac_quiet 5 rfl rfl rfl (fun _ _ h _ => h) rfl rfl ?_
        apply Exists.intro
        refine ⟨fun sv w' hw' hfa => ?_, ?_⟩
        · refine ⟨rfl, ?_⟩
          simp only [putsL]
          change quietTo _ _ _ _ (Sem.run _ (execOp (Act.eval _) _) _)
          try simp only [Act.put, List.setIfInBounds_toArray, List.set_cons_succ, List.set_cons_zero]
          simp [go_sem, quietTo, Ext.refl]
          all_goals first
            | rfl
        refine fac_quiet 6 rfl rfl rfl (fun _ _ h _ => h) rfl rfl ?_
        apply Exists.intro
        refine ⟨fun sv w' hw' hfa => ?_, ?_⟩
        · obtain ⟨f5, -⟩ := hfa
          replace f5 : sv 5 = _ := f5
          try dsimp only at f5
          obtain ⟨hc9, hff, hz9⟩ := ((Ext.refl wr).drew.trans hw').walk; have v1 := (hc9 _ _ hlw).trans c1; have v2 := (hc9 _ _ hlw).trans c2
          refine ⟨rfl, ?_⟩
          simp only [putsL]
          change quietTo _ _ _ _ (Sem.run _ (execOp (Act.eval (Act.put _ (some 16) (sv 5))) _) _)
          try simp only [Act.put, List.setIfInBounds_toArray, List.set_cons_succ, List.set_cons_zero]
          simp [go_sem, quietTo, Ext.refl, ↓IntWalk.iteOmega, f5, hwk]
          all_goals try simp (disch := omega) only [IntWalk.i64_in]
          all_goals first
            | rfl
        refine fac_quiet 7 rfl rfl rfl (fun _ _ h _ => h) rfl rfl ?_
        apply Exists.intro
        refine ⟨fun sv w' hw' hfa => ?_, ?_⟩
        · obtain ⟨f4, _, f6, -⟩ := hfa
          replace f4 : sv 4 = _ := f4
          try dsimp only at f4
          replace f6 : sv 6 = _ := f6
          try dsimp only at f6
          obtain ⟨hc9, hff, hz9⟩ := ((Ext.refl wr).drew.trans hw').walk; have v1 := (hc9 _ _ hlw).trans c1; have v2 := (hc9 _ _ hlw).trans c2
          refine ⟨rfl, ?_⟩
          simp only [putsL]
          change quietTo _ _ _ _ (Sem.run _ (execOp (Act.eval (Act.put (Act.put (Act.put _ (some 17) (sv 6)) (some 16) (sv 5)) (some 15) (sv 4))) _) _)
          try simp only [Act.put, List.setIfInBounds_toArray, List.set_cons_succ, List.set_cons_zero]
          simp [go_sem, quietTo, Ext.refl, ↓IntWalk.iteOmega, f4, f6, hq2]
          all_goals try simp (disch := omega) only [IntWalk.i64_in]
          all_goals first
            | rfl
        refine fac_quiet 8 rfl rfl rfl (fun _ _ h _ => h) rfl rfl ?_
        apply Exists.intro
        refine ⟨fun sv w' hw' hfa => ?_, ?_⟩
        · obtain ⟨_, _, _, f7, -⟩ := hfa
          replace f7 : sv 7 = _ := f7
          try dsimp only at f7
          obtain ⟨hc9, hff, hz9⟩ := ((Ext.refl wr).drew.trans hw').walk; have v1 := (hc9 _ _ hlw).trans c1; have v2 := (hc9 _ _ hlw).trans c2
          refine ⟨rfl, ?_⟩
          simp only [putsL]
          change quietTo _ _ _ _ (Sem.run _ (execOp (Act.eval (Act.put (Act.put (Act.put (Act.put _ (some 18) (sv 7)) (some 17) (sv 6)) (some 16) (sv 5)) (some 15) (sv 4))) _) _)
          try simp only [Act.put, List.setIfInBounds_toArray, List.set_cons_succ, List.set_cons_zero]
          simp [go_sem, quietTo, Ext.refl, ↓IntWalk.iteOmega, f7, v2]
          all_goals try simp (disch := omega) only [IntWalk.i64_in]
          all_goals first
            | rfl
        refine fac_quiet 9 rfl rfl rfl (fun _ _ h _ => h) rfl rfl ?_
        apply Exists.intro
        refine ⟨fun sv w' hw' hfa => ?_, ?_⟩
        · obtain ⟨f0, f1, f2, f3, f4, f5, f6, f7, f8, -⟩ := hfa
          replace f0 : sv 0 = _ := f0
          try dsimp only at f0
          replace f1 : sv 1 = _ := f1
          try dsimp only at f1
          replace f2 : sv 2 = _ := f2
          try dsimp only at f2
          replace f3 : sv 3 = _ := f3
          try dsimp only at f3
          replace f4 : sv 4 = _ := f4
          try dsimp only at f4
          replace f5 : sv 5 = _ := f5
          try dsimp only at f5
          replace f6 : sv 6 = _ := f6
          try dsimp only at f6
          replace f7 : sv 7 = _ := f7
          try dsimp only at f7
          replace f8 : sv 8 = _ := f8
          try dsimp only at f8
          obtain ⟨hc9, hff, hz9⟩ := ((Ext.refl wr).drew.trans hw').walk; have v1 := (hc9 _ _ hlw).trans c1; have v2 := (hc9 _ _ hlw).trans c2
          refine ⟨rfl, ?_⟩
          simp only [putsL]
          change quietTo _ _ _ _ (Sem.run _ (execOp (Act.eval (Act.put (Act.put (Act.put (Act.put (Act.put (Act.put (Act.put (Act.put (Act.put _ (some 19) (sv 8)) (some 18) (sv 7)) (some 17) (sv 6)) (some 16) (sv 5)) (some 15) (sv 4)) (some 14) (sv 3)) (some 13) (sv 2)) (some 12) (sv 1)) (some 11) (sv 0))) _) _)
          try simp only [Act.put, List.setIfInBounds_toArray, List.set_cons_succ, List.set_cons_zero]
          simp [go_sem, quietTo, Ext.refl, ↓IntWalk.iteOmega, f3, f8]
          all_goals try simp (disch := omega) only [IntWalk.i64_in]
          all_goals first
            | rfl
            | (exact hls.out _)
        refine fac_nil fun xq wrq herq hfrq hcrq holdq hapq => ?_
        obtain ⟨f0, f1, f2, f3, f4, f5, f6, f7, f8, f9, -⟩ := hfrq
        replace f0 : xq 0 = _ := f0
        try dsimp only at f0
        replace f1 : xq 1 = _ := f1
        try dsimp only at f1
        replace f2 : xq 2 = _ := f2
        try dsimp only at f2
        replace f3 : xq 3 = _ := f3
        try dsimp only at f3
        replace f4 : xq 4 = _ := f4
        try dsimp only at f4
        replace f5 : xq 5 = _ := f5
        try dsimp only at f5
        replace f6 : xq 6 = _ := f6
        try dsimp only at f6
        replace f7 : xq 7 = _ := f7
        try dsimp only at f7
        replace f8 : xq 8 = _ := f8
        try dsimp only at f8
        replace f9 : xq 9 = _ := f9
        try dsimp only at f9
        change wpList _ _ _ _ (Act.put (Act.put (Act.put (Act.put (Act.put (Act.put (Act.put (Act.put (Act.put (Act.put _ (some 11) (xq 0)) (some 12) (xq 1)) (some 13) (xq 2)) (some 14) (xq 3)) (some 15) (xq 4)) (some 16) (xq 5)) (some 17) (xq 6)) (some 18) (xq 7)) (some 19) (xq 8)) (some 20) (xq 9)) _
        simp only [putsL, Nat.reduceAdd, List.drop_succ_cons, List.drop_zero, List.drop_nil, Act.put, List.setIfInBounds_toArray, List.set_cons_succ, List.set_cons_zero]
        try simp only [f0, f1, f2, f3, f4, f5, f6, f7, f8, f9]
        clear f0 f1 f2 f3 f4 f5 f6 f7 f8 f9
        clear holdq hapq
        go_wp2
        go_roundw
        case rel => exact ⟨.inr ⟨k, by go_num, by omega⟩, hE.trans ((Ext.refl _).drew.trans herq)⟩
        case measure => simp [intOf] <;> omega
end Go.Proofs.YtfmkmnnmckbljaaGreatDoor
