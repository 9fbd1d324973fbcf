/- How a melody is held, by tune's text. Conditions: steps and notes lie in memory, no more than 40 steps. -/
import Derived.Test.YtapjekpjekdlkaaGreatDoorRMeK
import Derived.Test.YtapjekpjekdlkaaGreatDoorRMeG
set_option linter.unusedSimpArgs false
set_option linter.unusedVariables false
namespace Go.Proofs.YtapjekpjekdlkaaGreatDoor
open Go Go.RowKit Go.Maps

theorem orF_all : ∀ {l : List Int}, orF l = 0 → ∀ x ∈ l, x = 0
  | [], _, x, hx => by cases hx
  | y :: l, h, x, hx => by
    unfold orF at h
    split at h
    · rcases List.mem_cons.1 hx with e | e
      · rw [e]; assumption
      · exact orF_all h x e
    · exact absurd h (by assumption)
theorem scan_all {n : Nat} {f : Nat → Int} (h : scanF n f = 0) {i : Nat} (hi : i < n) : f i = 0 := orF_all h _ (List.mem_map.2 ⟨i, List.mem_range.2 hi, rfl⟩)
/-- What right steps are. -/
theorem steps_right {X : List StepV} (h : stepsF X = 0) {x : StepV} (hx : x ∈ X) : (∀ c ∈ x.cs, rightB c = true) ∧ x.cs.length ≤ 4 ∧ 0 < x.cs.length := by
  have h25 := steps_len h
  have h2 : scanF X.length (stepF X) = 0 := by
    unfold stepsF at h
    rwa [if_neg (by omega)] at h
  obtain ⟨i, hi⟩ := List.mem_iff_getElem?.1 hx
  have h3 := scan_all h2 (List.getElem?_eq_some_iff.1 hi).1
  unfold stepF at h3
  rw [choicesAt_of hi] at h3
  have h4 : choicesF x.cs = 0 := by
    split at h3
    · cases h3
    · split at h3
      · cases h3
      · exact h3
  unfold choicesF at h4
  split at h4
  · cases h4
  · split at h4
    · cases h4
    · refine ⟨fun c hc => ?_, by omega, by omega⟩
      obtain ⟨j, hj⟩ := List.mem_iff_getElem?.1 hc
      have h5 := scan_all h4 (List.getElem?_eq_some_iff.1 hj).1
      rw [choiceF_at hj] at h5
      split at h5
      · assumption
      · cases h5
theorem melC_mem {X : List StepV} {m : List Int} {r : List I4} (h : r ∈ melC X m) : r = [] ∨ ∃ x ∈ X, r = x.cs := by
  unfold melC at h
  obtain ⟨i, -, rfl⟩ := List.mem_map.1 h
  cases hf : findX X (gapAt m i) with
  | none => exact .inl rfl
  | some x => exact .inr ⟨x, List.mem_of_find?_eq_some hf, rfl⟩
theorem melC_right {X : List StepV} {m : List Int} (h : stepsF X = 0) : RightC (melC X m) ∧ ∀ r ∈ melC X m, r.length ≤ 4 := by
  refine ⟨fun r hr c hc => ?_, fun r hr => ?_⟩
  · rcases melC_mem hr with e | ⟨x, hx, e⟩
    · rw [e] at hc; cases hc
    · rw [e] at hc; exact (steps_right h hx).1 c hc
  · rcases melC_mem hr with e | ⟨x, hx, e⟩
    · rw [e]; exact Nat.zero_le _
    · rw [e]; exact (steps_right h hx).2.1
theorem mel_steps {X : List StepV} {m : List Int} (h : melF X m = 0) : stepsF X = 0 := by
  unfold melF at h
  split at h
  · exact h
  · omega
set_option maxRecDepth 100000 in
theorem longFault_any (p : Option Addr) (n c : Nat) (w : World) (hn : n ≤ 40) :
    Calls Tryz.prog 30 #[.slice p n c] w fun e w' => e = .returned (.int .i64 0) ∧ w = w' := by
  have hnI : ¬ (40 : Int) < n := by omega
  go_enter Tryz.func30, Tryz.ntmps30
  go_wp2
  go_ret
  exact ⟨rfl, rfl⟩
theorem results_tmp4 {fn : Func} {t u v x : Tmp} (h : fn.results = #[.tmp t, .tmp u, .tmp v, .tmp x]) (tmps : Array Value) (P : Program) (w : World) :
    (results fn tmps).run P w = .ok (.tuple #[tmps.getD t undef, tmps.getD u undef, tmps.getD v undef, tmps.getD x undef]) w := by
  simp [results, h]
theorem intInf4 : (Tryz.prog.info? 3).map (fun i => (i.zero, i.size, i.bytes)) = some (some (.int .i64 0), 1, 8) := by kernel_rfl
theorem own_setI {w : World} {base k n g : Nat} {t e : TypeId} {v : Value} {xs : List Value} {cs : Array Value} (h : w.ownsRow base e k v n xs) (hB : Blk w g t cs) (ht : t ≠ e) (i : Nat) (u : Value) : (w.setCell ⟨g, i, none⟩ u).ownsRow base e k v n xs :=
  h.kept (grown_set w ⟨g, i, none⟩ u) (.inr (own_no h hB ht))
def chC (x : Nat) : List Value := [.int .i64 (x : Int)]
theorem chC_len (x : Nat) : (chC x).length = 1 := rfl
/-- Too many intervals for a note. -/
def Crowd (C : List (List I4)) : Prop := ∃ k ks, k ≤ C.length ∧ List.Nodup ks ∧ (∀ x ∈ ks, Rch C k x) ∧ 20000 < ks.length
/-- What Hold answers. -/
def HoldPost (w : World) (X : List StepV) (m : List Int) (e : I4) (ex : Ending) (w' : World) : Prop :=
  Ext w w' ∧ ((melF X m ≠ 0 ∧ ex = .returned (.tuple #[.slice none 0 0, .int .i64 0, .bool false, .int .i64 (melF X m)])) ∨
    (melF X m = 0 ∧ rightB e = false ∧ ex = .returned (.tuple #[.slice none 0 0, .int .i64 0, .bool false, .int .i64 1])) ∨
    (melF X m = 0 ∧ rightB e = true ∧ Crowd (melC X m) ∧ ex = .returned (.tuple #[.slice none 0 0, .int .i64 0, .bool false, .int .i64 12])) ∨
    (melF X m = 0 ∧ rightB e = true ∧ fewL e (melC X m) zeroI = none ∧ ex = .returned (.tuple #[.slice none 0 0, .int .i64 0, .bool false, .int .i64 0])) ∨
    (melF X m = 0 ∧ rightB e = true ∧ ∃ many v, fewL e (melC X m) zeroI = some many ∧ ex = .returned (.tuple #[v, .int .i64 (many : Int), .bool true, .int .i64 0]) ∧ w'.ownsRow w.heap.size 3 1 v (melC X m).length ((chooseL e (melC X m) zeroI many).flatMap chC)))

set_option maxRecDepth 100000 in
set_option maxHeartbeats 6400000 in
theorem hold_any {p : Option Addr} {n c : Nat} {X : List StepV} {w : World} (h : StpM w p n c X) {np : Option Addr} {nn nc : Nat} {m : List Int} (hm : Slc 1 intC w np nn nc m) (hm40 : m.length ≤ 40) (e : I4) :
    Calls Tryz.prog 13 #[.slice p n c, .slice np nn nc, .agg #[.int .i64 e.a, .int .i64 e.b, .int .i64 e.c, .int .i64 e.d]] w (HoldPost w X m e) := by
  have hE0 : Ext w (w.alloc (.cells #[.int .i64 e.a, .int .i64 e.b, .int .i64 e.c, .int .i64 e.d] 27)) := (Ext.refl _).alloc _
  have hEnd : Blk (w.alloc (.cells #[.int .i64 e.a, .int .i64 e.b, .int .i64 e.c, .int .i64 e.d] 27)) w.heap.size 27 #[.int .i64 e.a, .int .i64 e.b, .int .i64 e.c, .int .i64 e.d] := Blk.new' rfl
  have hmo := melodyOf_any (h.ext hE0) (hm.ext hE0)
  have hw0 : w.heap.size ≤ (w.alloc (.cells #[.int .i64 e.a, .int .i64 e.b, .int .i64 e.c, .int .i64 e.d] 27)).heap.size := hE0.size
  generalize hW0 : w.alloc (.cells #[.int .i64 e.a, .int .i64 e.b, .int .i64 e.c, .int .i64 e.d] 27) = W0 at *
  replace hmo := Lib.hid hmo
  go_enter Tryz.func13, Tryz.ntmps13
  go_upto_region 2 with (go_at_call 28; (with_reducible refine Calls.mono hmo.out ?_); rintro ex w1 ⟨hb1, hcs⟩; rcases hcs with ⟨hme, rfl⟩ | ⟨hme, v, rfl, hC⟩)
  · go_wp2
    (try simp only [Exit.inBlock, Exit.then]); refine bodyPost_ret (results_tmp4 rfl _ _ _) rfl ?_
    exact ⟨hE0.trans hb1, .inl ⟨hme, rfl⟩⟩
  · have hs0 := mel_steps hme
    obtain ⟨hCR, hC4⟩ := melC_right (m := m) hs0
    have hCl : (melC X m).length ≤ 40 := by rw [melC_len]; omega
    obtain ⟨cp, cc, rfl, hRows⟩ := hC.rows hb1 (by omega)
    have hEnd1 := hEnd.ext hb1
    have hE1 := hE0.trans hb1
    have hin : w.heap.size < w1.heap.size := hEnd1.lt
    obtain ⟨y1, -⟩ := hEnd1.walk
    clear hb1 hC hEnd hmo hE0 hw0
    generalize hCC : melC X m = C at *
    cases hre : rightB e
    · have hFI : faultI e = 1 := by unfold faultI; rw [hre]; rfl
      clear hW0
      go_wp2_with (go_at_call 29; (with_reducible refine Calls.mono (checkInterval_any e _) ?_); rintro ex w2 ⟨rfl, hb2⟩)
      (try simp only [Exit.inBlock, Exit.then]); refine bodyPost_ret (results_tmp4 rfl _ _ _) rfl ?_
      exact ⟨hE1.trans hb2, .inr (.inl ⟨hme, hre, rfl⟩)⟩
    · have hFI : faultI e = 0 := by unfold faultI; rw [hre]; rfl
      clear hW0
      have hways := fun u (hu : Ext w1 u) => ways_any (hRows.ext hu) (by omega) (fun r hr => Nat.le_trans (hC4 r hr) (by decide))
      replace hways := Lib.hid hways
      replace hre := Lib.hid hre
      go_upto_region 11 with (first
        | (go_at_call 29; (with_reducible refine Calls.mono (checkInterval_any e _) ?_); rintro ex w2 ⟨rfl, hb2⟩)
        | (go_at_call 30; (with_reducible refine Calls.mono (longFault_any _ _ _ _ hCl) ?_); rintro ex w3 ⟨rfl, rfl⟩)
        | (go_at_call 31; (with_reducible refine Calls.mono (hways.out _ hb2) ?_); rintro ex w4 ⟨hb4, hcw⟩; rcases hcw with ⟨vb, vc, vs, rfl, hM⟩ | ⟨rfl, hcr⟩))
      · have hE4 := (hE1.trans hb2).trans hb4
        have hEnd4 := (hEnd1.ext hb2).ext hb4
        have hR4 := hRows.ext (hb2.trans hb4)
        have hfe := fewest_any hR4 hM (by omega) hCR (fun r hr => Nat.le_trans (hC4 r hr) (by decide)) e hre.out
        replace hfe := Lib.hid hfe
        clear y1 hEnd1 hE1 hb2 hb4 hRows hways hM
        obtain ⟨y1, -⟩ := hEnd4.walk
        have y1l := hEnd4.lt
        go_upto_region 14 with (go_at_call 32; (with_reducible refine Calls.mono hfe.out ?_); rintro ex w5 ⟨hb5, g, us, rfl, hFm⟩)
        have hE5 := hE4.trans hb5
        have hR5 := hR4.ext hb5
        obtain ⟨b0, ks0, F0, hu0, hO0, hT0⟩ := hFm.at_ 0 (Nat.le_refl _) (by omega)
        have c0 := hFm.cell 0
        rw [hu0] at c0
        have hgl := hFm.blk.lt
        have hlk : (Instr.lookup 80 (.map (some b0)) (.agg #[.int .i64 0, .int .i64 0, .int .i64 0, .int .i64 0]) true).run Tryz.prog w5 = .ok (.tuple #[.int .i64 ((F0 zeroI).getD 0), .bool (F0 zeroI).isSome]) w5 := hO0.1.look_ok (okK_right right_zero)
        have hF0 : F0 zeroI = (fewL e C zeroI).map fun (q : Nat) => (q : Int) := by
          cases hf : fewL e C zeroI with
          | none =>
            cases hq : F0 zeroI with
            | none => rfl
            | some v =>
              obtain ⟨_, q, h1, _⟩ := (hT0 _ _).1 hq
              rw [List.drop_zero, hf] at h1; cases h1
          | some q => exact (hT0 _ _).2 ⟨rfl, q, by rw [List.drop_zero]; exact hf, rfl⟩
        rw [hF0] at hlk
        clear y1 hEnd4 hR4 hfe hb5 hE4 hO0 hT0
        cases hfw : fewL e C zeroI with
        | none =>
          rw [hfw] at hlk
          go_wp2_with (refine wpList_lookM rfl _ _ 80 true rfl (.map (some b0)) (.agg #[.int .i64 0, .int .i64 0, .int .i64 0, .int .i64 0]) _ rfl rfl hlk ?_)
          (try simp only [Exit.inBlock, Exit.then]); refine bodyPost_ret (results_tmp4 rfl _ _ _) rfl ?_
          exact ⟨hE5, .inr (.inr (.inr (.inl ⟨hme, hre.out, by rw [hCC]; exact hfw, rfl⟩)))⟩
        | some many =>
          rw [hfw] at hlk
          simp only [Option.map_some, Option.getD_some, Option.isSome_some] at hlk
          have hI0 : Blk (w5.alloc (.cells #[.int .i64 0, .int .i64 0, .int .i64 0, .int .i64 0] 27)) w5.heap.size 27 #[.int .i64 0, .int .i64 0, .int .i64 0, .int .i64 0] := Blk.new' rfl
          have hE60 : Ext w5 (w5.alloc (.cells #[.int .i64 0, .int .i64 0, .int .i64 0, .int .i64 0] 27)) := (Ext.refl _).alloc _
          replace hI0 := Lib.hid hI0
          replace hE60 := Lib.hid hE60
          have hmany := few_le _ _ _ _ hfw
          replace hfw := Lib.hid hfw
          go_wp2_with (refine wpList_lookM rfl _ _ 80 true rfl (.map (some b0)) (.agg #[.int .i64 0, .int .i64 0, .int .i64 0, .int .i64 0]) _ rfl rfl hlk ?_)
          go_loopw [18, 20, 72] (fun v18 v20 v72 wr => ∃ (k : Nat) (i : I4) (left : Nat) (T : List Nat), v72 = .int .i64 k ∧ v20 = .int .i64 left ∧ k ≤ C.length ∧ Rch C k i ∧ fewL e (C.drop k) i = some left ∧ Blk wr w5.heap.size 27 #[.int .i64 i.a, .int .i64 i.b, .int .i64 i.c, .int .i64 i.d] ∧
            wr.ownsRow w5.heap.size 3 1 v18 k (T.flatMap chC) ∧ T.length = k ∧ T ++ chooseL e (C.drop k) i left = chooseL e C zeroI many ∧ Ext w5 wr) (fun _ _ v72 _ => C.length - (intOf v72).toNat)
          case atStart => exact ⟨0, zeroI, many, [], rfl, rfl, Nat.zero_le _, rfl, hfw.out, hI0.out, World.ownsRow_nil _ _ _ _, rfl, rfl, hE60.out⟩
          case round =>
            clear hI0 hE60 hlk
            obtain ⟨k, i, left, T, rfl, rfl, hk, hri, hfl, hI, hown, hTl, hTc, hE⟩ := hrel
            by_cases hlt : k < C.length
            · obtain ⟨r, hr⟩ := getD_some (rfl : C.length = C.length) hlt
              have hrm := List.mem_of_getElem? hr
              have hr4 := hC4 r hrm
              have hkI : (k : Int) < C.length := by omega
              have hdr : C.drop k = r :: C.drop (k + 1) := by
                obtain ⟨hk2, e1⟩ := List.getElem?_eq_some_iff.1 hr
                rw [List.drop_eq_getElem_cons hk2, e1]
              rw [hdr] at hfl
              obtain ⟨n0, rr, hn0, -, hx0, hf0, hle, hno, hch⟩ := choose_step hfl
              obtain ⟨bb, boff, q, d, hbe, hbb, cr, hSr⟩ := (hR5.ext hE).at_ hr
              subst hbe
              have hbl := Nat.lt_of_lt_of_le hbb (Ext.refl wr).size
              obtain ⟨-, ⟨_, e9⟩ | ⟨qb, qoff, rfl, hqb, hEl⟩⟩ := slcC hSr
              · rw [e9] at hn0; simp at hn0
              have hiB := rch_right hri
              obtain ⟨b1, ks1, F1, hu1, hO1, hT1⟩ := (hFm.ext hE).at_ (k + 1) (Nat.zero_le _) (by omega)
              have cu1 := (hFm.ext hE).cell (k + 1)
              rw [hu1] at cu1
              have hgB := (hFm.ext hE).blk.lt
              have hgne : w5.heap.size ≤ w5.heap.size := Nat.le_refl _
              obtain ⟨wo, rfl⟩ : ∃ wo, wo = wr := ⟨wr, rfl⟩
              replace hfl := Lib.hid hfl
              replace hf0 := Lib.hid hf0
              replace hTc := Lib.hid hTc
              replace hle := Lib.hid hle
              go_wp2
              go_loopw [18, 20, 79] (fun v18 v20 v79 wr' => ∃ j : Nat, v18 = u18 ∧ v20 = .int .i64 left ∧ v79 = .int .i64 j ∧ j ≤ n0 ∧ Ext wo wr') (fun _ _ v79 _ => r.length - (intOf v79).toNat)
              case atStart => exact ⟨0, rfl, rfl, rfl, Nat.zero_le _, Ext.refl _⟩
              case round =>
                obtain ⟨j, rfl, rfl, rfl, hj, hEj⟩ := hrel
                have hjr : j < r.length := by omega
                have hjI : (j : Int) < r.length := by omega
                obtain ⟨cc, hcc⟩ := getD_some (rfl : r.length = r.length) hjr
                obtain ⟨c1, c2, c3, c4⟩ := (hEl.ext hEj hqb).iv hcc
                have hqbl := Nat.lt_of_lt_of_le hqb hEj.size
                have hccB : rightB cc = true := hCR r hrm cc (List.mem_of_getElem? hcc)
                have htry := hT1.try_ hr hri hcc
                have hxk := okK_add hiB hccB
                have hlk1 : ∀ u, Ext wo u → (Instr.lookup 80 (.map (some b1)) (.agg #[.int .i64 (addI i cc).a, .int .i64 (addI i cc).b, .int .i64 (addI i cc).c, .int .i64 (addI i cc).d]) true).run Tryz.prog u = .ok (.tuple #[.int .i64 ((F1 (addI i cc)).getD 0), .bool (F1 (addI i cc)).isSome]) u := fun u hu => (hO1.ext hu).1.look_ok hxk
                have hsum := fun u => sum_any i cc u
                have hrg : r.getD j zeroI = cc := by rw [List.getD_eq_getElem?_getD, hcc]; rfl
                have hEa : Ext wr (wr.alloc (.cells #[.int .i64 cc.a, .int .i64 cc.b, .int .i64 cc.c, .int .i64 cc.d] 27)) := (Ext.refl _).alloc _
                have hY : Blk (wr.alloc (.cells #[.int .i64 cc.a, .int .i64 cc.b, .int .i64 cc.c, .int .i64 cc.d] 27)) wr.heap.size 27 #[.int .i64 cc.a, .int .i64 cc.b, .int .i64 cc.c, .int .i64 cc.d] := Blk.new' rfl
                have hEoa := hEj.trans hEa
                have hwoj := hEj.size
                replace hsum := Lib.hid hsum
                replace hlk1 := Lib.hid hlk1
                clear hcc
                go_upto_region 25 with fail
                generalize wr.alloc (.cells #[.int .i64 cc.a, .int .i64 cc.b, .int .i64 cc.c, .int .i64 cc.d] 27) = W9 at *
                generalize wr.heap.size = gC at *
                clear c1 c2 c3 c4 hEa
                refine wp_region_facts [11] [([], false, false), ([], false, false), ([1], false, false), ([0, 1, 2], false, false), ([0, 1, 2, 3], false, false), ([], false, false), ([], false, false), ([5, 6], false, false), ([0, 1, 2, 3, 4, 5, 6, 7], false, false), ([0, 1, 2, 3, 4, 5, 6, 7, 8], false, false), ([0, 1, 2, 3, 4, 5, 6, 7, 8, 9], false, false), ([0, 1, 2, 3, 4, 5, 6, 7, 8, 9], false, false)] (Ext) Ext (fun _ => True) (by kernel_rfl) (by kernel_rfl) Ext.refl (fun _ _ _ => Ext.trans) (fun _ _ h => h) (fun _ _ h => h.size) (fun _ _ h _ => h) trivial ?_
                dsimp only [List.length_cons, List.length_nil, List.drop_succ_cons, List.drop_zero, List.drop_nil]
                refine fac_quiet 0 rfl rfl rfl (fun _ _ h _ => h) rfl rfl ?_
                apply Exists.intro
                refine ⟨fun sv w' hw' hfa => ?_, ?_⟩
                · refine ⟨rfl, ?_⟩
                  simp only [putsL]
                  change quietTo _ _ _ _ (Sem.run _ (execOp (Act.eval _) _) _)
                  try simp only [Act.put, List.setIfInBounds_toArray, List.set_cons_succ, List.set_cons_zero]
                  simp [go_sem, quietTo, Ext.refl]
                  all_goals first
                    | rfl
                refine fac_quiet 1 rfl rfl rfl (fun _ _ h _ => h) rfl rfl ?_
                apply Exists.intro
                refine ⟨fun sv w' hw' hfa => ?_, ?_⟩
                · refine ⟨rfl, ?_⟩
                  simp only [putsL]
                  change quietTo _ _ _ _ (Sem.run _ (execOp (Act.eval _) _) _)
                  try simp only [Act.put, List.setIfInBounds_toArray, List.set_cons_succ, List.set_cons_zero]
                  simp [go_sem, quietTo, Ext.refl]
                  all_goals first
                    | rfl
                refine fac_quiet 2 rfl rfl rfl (fun _ _ h _ => h) rfl rfl ?_
                apply Exists.intro
                refine ⟨fun sv w' hw' hfa => ?_, ?_⟩
                · obtain ⟨f1, -⟩ := hfa
                  replace f1 : sv 1 = _ := f1
                  try dsimp only at f1
                  refine ⟨rfl, ?_⟩
                  simp only [putsL]
                  change quietTo _ _ _ _ (Sem.run _ (execOp (Act.eval (Act.put _ (some 86) (sv 1))) _) _)
                  try simp only [Act.put, List.setIfInBounds_toArray, List.set_cons_succ, List.set_cons_zero]
                  simp [go_sem, quietTo, Ext.refl, ↓IntWalk.iteOmega, f1]
                  all_goals try simp (disch := omega) only [IntWalk.i64_in]
                  all_goals first
                    | rfl
                refine fac_quiet 3 rfl rfl rfl (fun _ _ h _ => h) rfl rfl ?_
                apply Exists.intro
                refine ⟨fun sv w' hw' hfa => ?_, ?_⟩
                · obtain ⟨f0, _, f2, -⟩ := hfa
                  replace f0 : sv 0 = _ := f0
                  try dsimp only at f0
                  replace f2 : sv 2 = _ := f2
                  try dsimp only at f2
                  have hk9 := (Ext.refl W9).drew.trans hw'; have z1 := ((hEoa.trans hk9).walk.1 _ _ hgB).trans cu1; obtain ⟨z2, -⟩ := (hI.ext (hEoa.trans hk9)).walk; obtain ⟨z3, -⟩ := (hY.ext hk9).walk; have z4 := hlk1.out w' (hEoa.trans hk9)
                  refine ⟨rfl, ?_⟩
                  simp only [putsL]
                  change quietTo _ _ _ _ (Sem.run _ (execOp (Act.eval (Act.put (Act.put (Act.put _ (some 87) (sv 2)) (some 86) (sv 1)) (some 85) (sv 0))) _) _)
                  try simp only [Act.put, List.setIfInBounds_toArray, List.set_cons_succ, List.set_cons_zero]
                  simp [go_sem, quietTo, Ext.refl, ↓IntWalk.iteOmega, f0, f2, hkI]
                  all_goals try simp (disch := omega) only [IntWalk.i64_in]
                  all_goals first
                    | rfl
                refine fac_quiet 4 rfl rfl rfl (fun _ _ h _ => h) rfl rfl ?_
                apply Exists.intro
                refine ⟨fun sv w' hw' hfa => ?_, ?_⟩
                · obtain ⟨_, _, _, f3, -⟩ := hfa
                  replace f3 : sv 3 = _ := f3
                  try dsimp only at f3
                  have hk9 := (Ext.refl W9).drew.trans hw'; have z1 := ((hEoa.trans hk9).walk.1 _ _ hgB).trans cu1; obtain ⟨z2, -⟩ := (hI.ext (hEoa.trans hk9)).walk; obtain ⟨z3, -⟩ := (hY.ext hk9).walk; have z4 := hlk1.out w' (hEoa.trans hk9)
                  refine ⟨rfl, ?_⟩
                  simp only [putsL]
                  change quietTo _ _ _ _ (Sem.run _ (execOp (Act.eval (Act.put (Act.put (Act.put (Act.put _ (some 88) (sv 3)) (some 87) (sv 2)) (some 86) (sv 1)) (some 85) (sv 0))) _) _)
                  try simp only [Act.put, List.setIfInBounds_toArray, List.set_cons_succ, List.set_cons_zero]
                  simp [go_sem, quietTo, Ext.refl, ↓IntWalk.iteOmega, f3, z1]
                  all_goals try simp (disch := omega) only [IntWalk.i64_in]
                  all_goals first
                    | rfl
                refine fac_quiet 5 rfl rfl rfl (fun _ _ h _ => h) rfl rfl ?_
                apply Exists.intro
                refine ⟨fun sv w' hw' hfa => ?_, ?_⟩
                · have hk9 := (Ext.refl W9).drew.trans hw'; have z1 := ((hEoa.trans hk9).walk.1 _ _ hgB).trans cu1; obtain ⟨z2, -⟩ := (hI.ext (hEoa.trans hk9)).walk; obtain ⟨z3, -⟩ := (hY.ext hk9).walk; have z4 := hlk1.out w' (hEoa.trans hk9)
                  refine ⟨rfl, ?_⟩
                  simp only [putsL]
                  change quietTo _ _ _ _ (Sem.run _ (execOp (Act.eval _) _) _)
                  try simp only [Act.put, List.setIfInBounds_toArray, List.set_cons_succ, List.set_cons_zero]
                  simp [go_sem, quietTo, Ext.refl, ↓IntWalk.iteOmega, z2]
                  all_goals try simp (disch := omega) only [IntWalk.i64_in]
                  all_goals first
                    | rfl
                refine fac_quiet 6 rfl rfl rfl (fun _ _ h _ => h) rfl rfl ?_
                apply Exists.intro
                refine ⟨fun sv w' hw' hfa => ?_, ?_⟩
                · have hk9 := (Ext.refl W9).drew.trans hw'; have z1 := ((hEoa.trans hk9).walk.1 _ _ hgB).trans cu1; obtain ⟨z2, -⟩ := (hI.ext (hEoa.trans hk9)).walk; obtain ⟨z3, -⟩ := (hY.ext hk9).walk; have z4 := hlk1.out w' (hEoa.trans hk9)
                  refine ⟨rfl, ?_⟩
                  simp only [putsL]
                  change quietTo _ _ _ _ (Sem.run _ (execOp (Act.eval _) _) _)
                  try simp only [Act.put, List.setIfInBounds_toArray, List.set_cons_succ, List.set_cons_zero]
                  simp [go_sem, quietTo, Ext.refl, ↓IntWalk.iteOmega, z3]
                  all_goals try simp (disch := omega) only [IntWalk.i64_in]
                  all_goals first
                    | rfl
                refine fac_quiet 7 rfl rfl rfl (fun _ _ h _ => h) rfl rfl ?_
                apply Exists.intro
                refine ⟨fun sv w' hw' hfa => ?_, ?_⟩
                · obtain ⟨f5, f6, -⟩ := hfa
                  replace f5 : sv 5 = _ := f5
                  try dsimp only at f5
                  replace f6 : sv 6 = _ := f6
                  try dsimp only at f6
                  have hk9 := (Ext.refl W9).drew.trans hw'; have z1 := ((hEoa.trans hk9).walk.1 _ _ hgB).trans cu1; obtain ⟨z2, -⟩ := (hI.ext (hEoa.trans hk9)).walk; obtain ⟨z3, -⟩ := (hY.ext hk9).walk; have z4 := hlk1.out w' (hEoa.trans hk9)
                  refine ⟨rfl, ?_⟩
                  simp only [putsL]
                  change quietTo _ _ _ _ (Sem.run _ (execOp (Act.eval (Act.put (Act.put _ (some 91) (sv 6)) (some 90) (sv 5))) _) _)
                  try simp only [Act.put, List.setIfInBounds_toArray, List.set_cons_succ, List.set_cons_zero]
                  simp [go_sem, quietTo, Ext.refl, ↓IntWalk.iteOmega, f5, f6]
                  all_goals try simp (disch := omega) only [IntWalk.i64_in]
                  all_goals first
                    | rfl
                    | (exact hsum.out _)
                refine fac_quiet 8 rfl rfl rfl (fun _ _ h _ => h) rfl rfl ?_
                apply Exists.intro
                refine ⟨fun sv w' hw' hfa => ?_, ?_⟩
                · obtain ⟨_, _, _, _, f4, _, _, f7, -⟩ := hfa
                  replace f4 : sv 4 = _ := f4
                  try dsimp only at f4
                  replace f7 : sv 7 = _ := f7
                  try dsimp only at f7
                  have hk9 := (Ext.refl W9).drew.trans hw'; have z1 := ((hEoa.trans hk9).walk.1 _ _ hgB).trans cu1; obtain ⟨z2, -⟩ := (hI.ext (hEoa.trans hk9)).walk; obtain ⟨z3, -⟩ := (hY.ext hk9).walk; have z4 := hlk1.out w' (hEoa.trans hk9)
                  refine ⟨rfl, ?_⟩
                  simp only [putsL]
                  change quietTo _ _ _ _ (Sem.run _ (execOp (Act.eval (Act.put (Act.put (Act.put (Act.put (Act.put (Act.put (Act.put (Act.put _ (some 92) (sv 7)) (some 91) (sv 6)) (some 90) (sv 5)) (some 89) (sv 4)) (some 88) (sv 3)) (some 87) (sv 2)) (some 86) (sv 1)) (some 85) (sv 0))) _) _)
                  try simp only [Act.put, List.setIfInBounds_toArray, List.set_cons_succ, List.set_cons_zero]
                  simp [go_sem, quietTo, Ext.refl, ↓IntWalk.iteOmega, f4, f7, z4]
                  all_goals try simp (disch := omega) only [IntWalk.i64_in]
                  all_goals first
                    | rfl
                refine fac_quiet 9 rfl rfl rfl (fun _ _ h _ => h) rfl rfl ?_
                apply Exists.intro
                refine ⟨fun sv w' hw' hfa => ?_, ?_⟩
                · obtain ⟨_, _, _, _, _, _, _, _, f8, -⟩ := hfa
                  replace f8 : sv 8 = _ := f8
                  try dsimp only at f8
                  refine ⟨rfl, ?_⟩
                  simp only [putsL]
                  change quietTo _ _ _ _ (Sem.run _ (execOp (Act.eval (Act.put (Act.put (Act.put (Act.put (Act.put (Act.put (Act.put (Act.put (Act.put _ (some 93) (sv 8)) (some 92) (sv 7)) (some 91) (sv 6)) (some 90) (sv 5)) (some 89) (sv 4)) (some 88) (sv 3)) (some 87) (sv 2)) (some 86) (sv 1)) (some 85) (sv 0))) _) _)
                  try simp only [Act.put, List.setIfInBounds_toArray, List.set_cons_succ, List.set_cons_zero]
                  simp [go_sem, quietTo, Ext.refl, f8]
                  all_goals first
                    | rfl
                refine fac_quiet 10 rfl rfl rfl (fun _ _ h _ => h) rfl rfl ?_
                apply Exists.intro
                refine ⟨fun sv w' hw' hfa => ?_, ?_⟩
                · obtain ⟨_, _, _, _, _, _, _, _, _, f9, -⟩ := hfa
                  replace f9 : sv 9 = _ := f9
                  try dsimp only at f9
                  refine ⟨rfl, ?_⟩
                  simp only [putsL]
                  change quietTo _ _ _ _ (Sem.run _ (execOp (Act.eval (Act.put (Act.put (Act.put (Act.put (Act.put (Act.put (Act.put (Act.put (Act.put (Act.put _ (some 84) (sv 9)) (some 93) (sv 8)) (some 92) (sv 7)) (some 91) (sv 6)) (some 90) (sv 5)) (some 89) (sv 4)) (some 88) (sv 3)) (some 87) (sv 2)) (some 86) (sv 1)) (some 85) (sv 0))) _) _)
                  try simp only [Act.put, List.setIfInBounds_toArray, List.set_cons_succ, List.set_cons_zero]
                  simp [go_sem, quietTo, Ext.refl, f9]
                  all_goals first
                    | rfl
                refine fac_late 11 rfl rfl Ext.refl (fun _ _ h _ => h) rfl rfl (fun _ _ _ _ h => h) ?_
                apply Exists.intro
                refine ⟨fun sv w' hw' hfa => ?_, ?_⟩
                · obtain ⟨_, _, _, _, _, _, _, _, _, f9, -⟩ := hfa
                  replace f9 : sv 9 = _ := f9
                  try dsimp only at f9
                  refine ⟨rfl, fun w2 => ?_⟩
                  simp only [putsL]
                  change pureTo _ _ (Sem.run _ (execOp (Act.eval (Act.put (Act.put (Act.put (Act.put (Act.put (Act.put (Act.put (Act.put (Act.put (Act.put _ (some 84) (sv 9)) (some 93) (sv 8)) (some 92) (sv 7)) (some 91) (sv 6)) (some 90) (sv 5)) (some 89) (sv 4)) (some 88) (sv 3)) (some 87) (sv 2)) (some 86) (sv 1)) (some 85) (sv 0))) _) _)
                  try simp only [Act.put, List.setIfInBounds_toArray, List.set_cons_succ, List.set_cons_zero]
                  simp [go_sem, pureTo, f9]
                  all_goals try simp (disch := omega) only [IntWalk.i64_in]
                  all_goals first
                    | rfl
                refine fac_nil fun xa wra hera hfra hcra holda hapa => ?_
                obtain ⟨f0, f1, f2, f3, f4, f5, f6, f7, f8, f9, f10, f11, -⟩ := hfra
                replace f0 : xa 0 = _ := f0
                try dsimp only at f0
                replace f1 : xa 1 = _ := f1
                try dsimp only at f1
                replace f2 : xa 2 = _ := f2
                try dsimp only at f2
                replace f3 : xa 3 = _ := f3
                try dsimp only at f3
                replace f4 : xa 4 = _ := f4
                try dsimp only at f4
                replace f5 : xa 5 = _ := f5
                try dsimp only at f5
                replace f6 : xa 6 = _ := f6
                try dsimp only at f6
                replace f7 : xa 7 = _ := f7
                try dsimp only at f7
                replace f8 : xa 8 = _ := f8
                try dsimp only at f8
                replace f9 : xa 9 = _ := f9
                try dsimp only at f9
                replace f10 : xa 10 = _ := f10
                try dsimp only at f10
                replace f11 : xa 11 = _ := f11
                try dsimp only at f11
                change wpList _ _ _ _ (Act.put (Act.put (Act.put (Act.put (Act.put (Act.put (Act.put (Act.put (Act.put (Act.put (Act.put (Act.put _ (some 85) (xa 0)) (some 86) (xa 1)) (some 87) (xa 2)) (some 88) (xa 3)) (some 89) (xa 4)) (some 90) (xa 5)) (some 91) (xa 6)) (some 92) (xa 7)) (some 93) (xa 8)) (some 84) (xa 9)) (some 94) (xa 10)) (some 95) (xa 11)) _
                simp only [putsL, Nat.reduceAdd, List.drop_succ_cons, List.drop_zero, List.drop_nil, Act.put, List.setIfInBounds_toArray, List.set_cons_succ, List.set_cons_zero]
                try simp only [f0, f1, f2, f3, f4, f5, f6, f7, f8, f9, f10, f11]
                clear f0 f1 f2 f3 f4 f5 f6 f7 f8 f9 f10 f11
                clear holda hapa
                have hE9 := hEoa.trans ((Ext.refl W9).drew.trans hera)
                have hYa := hY.ext ((Ext.refl W9).drew.trans hera)
                clear hera hEoa hEj hY hlk1
                rcases htry with ⟨hFx, ht⟩ | ⟨v, hFx, hvC, ht⟩
                · rw [hFx]
                  have hjn : j ≠ n0 := fun e => by
                    subst e
                    unfold tryO at ht
                    rw [if_pos hx0, hf0.out] at ht
                    cases ht
                  go_wp2
                  go_roundw
                  case rel => exact ⟨j + 1, rfl, rfl, by go_num, by omega, hE9⟩
                  case measure => simp [intOf]; omega
                · rw [hFx]
                  have hvI : (v : Int) ≤ 40 := by omega
                  obtain ⟨μ, hμ, hμ1, hμ2⟩ : ∃ μ : Nat, (if (1 : Int) < (j : Int) then (1 : Int) else (j : Int)) = (μ : Int) ∧ μ ≤ 1 ∧ min j 1 = μ := ⟨min j 1, by split <;> omega, by omega, rfl⟩
                  have hμa : min (j : Int) 1 = (μ : Int) := by omega
                  rw [hμ2] at ht
                  by_cases hjn : j = n0
                  · subst hjn
                    have hvr : v = rr := by
                      unfold tryO at ht
                      rw [if_pos hx0, hf0.out] at ht
                      simp at ht
                      omega
                    subst hvr
                    have hlm : (v : Int) + (μ : Int) = (left : Int) := by have := hle.out; omega
                    rw [hrg] at hx0 hf0 hch
                    have hown9 := own_ext hE9 hown
                    have hI9 := hI.ext hE9
                    have hEb : Ext wra (wra.alloc (.cells #[.int .i64 j] 3)) := (Ext.refl _).alloc _
                    have ho6 := own_ext hEb hown9
                    have hI6 := hI9.ext hEb
                    have hY6 := hYa.ext hEb
                    have hEw6 := (hE.trans hE9).trans hEb
                    have hbz : w5.heap.size ≤ (wra.alloc (.cells #[.int .i64 j] 3)).heap.size := hEw6.size
                    clear hno hμ2
                    go_upto_region 28 with (at_builtin; go_loud (refine wp_app1 _ (.tmp 105) (.tmp 107) 22 3 1 8 (.int .i64 0) rfl rfl Tryz.underlying22 intInf4 rfl (by decide) (by decide) w5.heap.size _ k _ rfl ho6 wra.heap.size (chC j) rfl rfl (Blk.new' rfl) (by simp [chC, Value.oneCell']) (by omega) hbz ?_; intro v8 w8 hown8 hgrow8 _))
                    have hI8 : Blk w8 w5.heap.size 27 #[.int .i64 i.a, .int .i64 i.b, .int .i64 i.c, .int .i64 i.d] := (hgrow8.block _ hI6.lt fun e => own_no ho6 hI6 (by decide) e.symm).trans hI6
                    have hY8 : Blk w8 gC 27 #[.int .i64 cc.a, .int .i64 cc.b, .int .i64 cc.c, .int .i64 cc.d] := (hgrow8.block _ hY6.lt fun e => own_no ho6 hY6 (by decide) e.symm).trans hY6
                    have hE8 : Ext w5 w8 := hEw6.grown hgrow8 fun j e => (ho6.lt j e).1
                    obtain ⟨y3, y3f⟩ := hI8.walk
                    have y3l := hI8.lt
                    obtain ⟨y4, -⟩ := hY8.walk
                    have y4l := hY8.lt
                    have hsn : (T ++ [j]).flatMap chC = T.flatMap chC ++ chC j := by rw [List.flatMap_append]; rfl
                    have hTn : T ++ [j] ++ chooseL e (C.drop (k + 1)) (addI i cc) v = chooseL e C zeroI many := by
                      rw [List.append_assoc, ← hTc.out, hdr, hch]; rfl
                    have hrn : Rch C (k + 1) (addI i cc) := ⟨hx0, i, cc, hri, by
                      rw [List.getD_eq_getElem?_getD, hr]
                      exact (by rw [← hrg, List.getD_eq_getElem?_getD, List.getElem?_eq_getElem hn0]; exact List.getElem_mem _), rfl⟩
                    rw [← hsn] at hown8
                    have hTl2 : (T ++ [j]).length = k + 1 := by rw [List.length_append, hTl]; rfl
                    generalize addI i cc = x at *
                    have hset : ∀ u, Ext w8 u → Blk u w5.heap.size 27 #[.int .i64 i.a, .int .i64 i.b, .int .i64 i.c, .int .i64 i.d] := fun u hu => hI8.ext hu
                    replace hown8 := Lib.hid hown8
                    replace hTn := Lib.hid hTn
                    replace hrn := Lib.hid hrn
                    clear hch hTc hsn
                    go_wp2_with (go_at_call 33; (with_reducible refine Calls.mono (hsum.out _) ?_); rintro e w10 ⟨rfl, hb10⟩; obtain ⟨y5, y5f⟩ := (hset _ hb10).walk; have y5l := (hset _ hb10).lt)
                    have hB0 := hset _ hb10
                    have hB1 := hB0.set_ 0 (.int .i64 x.a)
                    have hB2 := hB1.set_ 1 (.int .i64 x.b)
                    have hB3 := hB2.set_ 2 (.int .i64 x.c)
                    have hB4 := hB3.set_ 3 (.int .i64 x.d)
                    have ho0 := own_ext hb10 hown8.out
                    have ho1 := own_setI ho0 hB0 (by decide) 0 (.int .i64 x.a)
                    have ho2 := own_setI ho1 hB1 (by decide) 1 (.int .i64 x.b)
                    have ho3 := own_setI ho2 hB2 (by decide) 2 (.int .i64 x.c)
                    have ho4 := own_setI ho3 hB3 (by decide) 3 (.int .i64 x.d)
                    have hz4 := ((((hE8.trans hb10).setCell (p := ⟨w5.heap.size, 0, none⟩) hgne (.int .i64 x.a)).setCell (p := ⟨w5.heap.size, 1, none⟩) hgne (.int .i64 x.b)).setCell (p := ⟨w5.heap.size, 2, none⟩) hgne (.int .i64 x.c)).setCell (p := ⟨w5.heap.size, 3, none⟩) hgne (.int .i64 x.d)
                    go_roundw
                    case rel => exact ⟨k + 1, x, v, T ++ [j], by go_num, rfl, by omega, hrn.out, hf0.out, hB4.cast (by simp), ho4, hTl2, hTn.out, hz4⟩
                    case measure => simp [intOf]; omega
                  · have hne := hno j (by omega)
                    rw [ht] at hne
                    have hne2 : ((v : Int) + (μ : Int) == (left : Int)) = false := by
                      rw [beq_eq_false_iff_ne]
                      intro e9
                      exact hne (congrArg some (by omega))
                    clear hne hμ2 hno
                    go_wp2
                    go_roundw
                    case rel => exact ⟨j + 1, rfl, rfl, by go_num, by omega, hE9⟩
                    case measure => simp [intOf]; omega
            · obtain rfl : k = C.length := by omega
              go_wp2
              (try simp only [Exit.inBlock, Exit.then]); refine bodyPost_ret (results_tmp4 rfl _ _ _) rfl ?_
              rw [List.drop_length] at hTc
              have hTc2 : T = chooseL e C zeroI many := by rw [← hTc]; exact (List.append_nil T).symm
              refine ⟨hE5.trans hE, .inr (.inr (.inr (.inr ⟨hme, hre.out, many, _, by rw [hCC]; exact hfw.out, rfl, ?_⟩)))⟩
              rw [hCC, ← hTc2]
              exact own_low hown hE5.size
      · go_wp2
        (try simp only [Exit.inBlock, Exit.then]); refine bodyPost_ret (results_tmp4 rfl _ _ _) rfl ?_
        exact ⟨(hE1.trans hb2).trans hb4, .inr (.inr (.inl ⟨hme, hre.out, by rw [hCC]; exact hcr, rfl⟩))⟩
end Go.Proofs.YtapjekpjekdlkaaGreatDoor
