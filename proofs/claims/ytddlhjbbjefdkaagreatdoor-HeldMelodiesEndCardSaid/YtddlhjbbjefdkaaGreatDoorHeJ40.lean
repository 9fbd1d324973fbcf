/- All intervals that the last note can have, by tune's text. Conditions: steps and notes lie in memory, no more than 40 steps. Held melodies: what a stream makes is never too many; what can be reached is held. Plain mathematics. Conditions: as each theorem says. -/
import Derived.Test.YtddlhjbbjefdkaaGreatDoorHeMeL
import Derived.Test.YtddlhjbbjefdkaaGreatDoorHeJ39
import Derived.Test.YtddlhjbbjefdkaaGreatDoorHeMeO
set_option linter.unusedSimpArgs false
set_option linter.unusedVariables false
namespace Go.Proofs.YtddlhjbbjefdkaaGreatDoor
open Go Go.RowKit Go.Maps

theorem ivInfo : (Tryz.prog.info? 36).map (fun i => (i.zero, i.size, i.bytes)) = some (some (.agg #[.int .i64 0, .int .i64 0, .int .i64 0, .int .i64 0]), 4, 32) := by kernel_rfl
/-- What Ends answers. -/
def EndsPost (w : World) (X : List StepV) (m : List Int) (ex : Ending) (w' : World) : Prop :=
  Ext w w' ∧ ((melF X m ≠ 0 ∧ ex = .returned (.tuple #[.slice none 0 0, .int .i64 (melF X m)])) ∨ (melF X m = 0 ∧ Crowd (melC X m) ∧ ex = .returned (.tuple #[.slice none 0 0, .int .i64 12])) ∨
    (melF X m = 0 ∧ ∃ (v : Value) (L : List I4), ex = .returned (.tuple #[v, .int .i64 0]) ∧ w'.ownsRow w.heap.size 36 4 v L.length (L.flatMap i4C) ∧ RiseI L ∧ (∀ x, x ∈ L ↔ Rch (melC X m) (melC X m).length x) ∧ L.length ≤ 20000))
set_option maxRecDepth 100000 in
set_option maxHeartbeats 6400000 in
theorem ends_any {p : Option Addr} {n c : Nat} {X : List StepV} {w : World} (h : StpM w p n c X) {np : Option Addr} {nn nc : Nat} {m : List Int} (hm : Slc 1 intC w np nn nc m) (hm40 : m.length ≤ 40) :
    Calls Tryz.prog 10 #[.slice p n c, .slice np nn nc] w (EndsPost w X m) := by
  have hmo := melodyOf_any h hm
  replace hmo := Lib.hid hmo
  go_enter Tryz.func10, Tryz.ntmps10
  go_upto_region 2 with (go_at_call 41; (with_reducible refine Calls.mono hmo.out ?_); rintro ex w1 ⟨hb1, hcs⟩; rcases hcs with ⟨hme, rfl⟩ | ⟨hme, v, rfl, hC⟩)
  · go_wp2
    go_ret2
    exact ⟨hb1, .inl ⟨hme, rfl⟩⟩
  · have hs0 := mel_steps hme
    obtain ⟨hCR, hC4⟩ := melC_right (m := m) hs0
    have hCl : (melC X m).length ≤ 40 := by rw [melC_len]; omega
    obtain ⟨cp, cc, rfl, hRows⟩ := hC.rows hb1 (by omega)
    clear hC hmo
    generalize hCC : melC X m = C at *
    have hways := ways_any hRows (by omega) (fun r hr => Nat.le_trans (hC4 r hr) (by decide))
    replace hways := Lib.hid hways
    go_upto_region 8 with (first
      | (go_at_call 42; (with_reducible refine Calls.mono (longFault_any _ _ _ _ hCl) ?_); rintro ex w3 ⟨rfl, rfl⟩)
      | (go_at_call 43; (with_reducible refine Calls.mono hways.out ?_); rintro ex w4 ⟨hb4, hcw⟩; rcases hcw with ⟨vb, vc, vs, rfl, hM⟩ | ⟨rfl, hcr⟩))
    · have hE4 := hb1.trans hb4
      obtain ⟨b, ks, f, hvs, hO, hT, hn⟩ := hM.at_ C.length (Nat.lt_succ_self _)
      have cm := hM.cell (Nat.lt_succ_self C.length)
      rw [hvs] at cm
      have hvb := hM.lt
      have hCI : (C.length : Int) < C.length + 1 := by omega
      clear hways hRows hb4
      go_wp2_with (at_range; go_loud (refine wpList_range_X (M := ivB) _ rfl _ rfl b ks.length f rfl hO.1 ?_; intro w6 hr6 hg6 hs6))
      go_frame
      have hE6 : Ext w4 w6 := (Ext.refl w4).grown hg6 fun k e => by cases e
      replace hr6 := Lib.hid hr6
      replace hE6 := Lib.hid hE6
      clear hg6 hs6
      go_loopw [10] (fun v10 wr => ∃ (seen : List I4) (cnt : Nat), RngX ivB wr b w4.heap.size ks.length f seen cnt ∧ wr.ownsRow (w4.heap.size + 1) 36 4 v10 seen.length (seen.flatMap i4C) ∧ seen.Nodup ∧ Ext w4 wr) (fun _ wr => wr.rangeLeft b w4.heap.size)
      case atStart => exact ⟨[], ks.length, hr6.out, World.ownsRow_nil _ _ _ _, List.nodup_nil, hE6.out⟩
      case round =>
        clear hr6 hE6
        obtain ⟨seen, cnt, hR, hown, hnd, hE⟩ := hrel
        obtain ⟨hoks, hcn⟩ := hR.oks
        have hRl0 := hR.left_eq
        have hbw := hO.lt
        go_wp2_with (at_next; go_loud (refine wpList_next_X (M := ivB) _ rfl _ rfl boolRd_shape datB_inj b w4.heap.size ks.length f seen cnt rfl hR ?_ ?_))
        · intro hc0 hall
          have hsome : ∀ i, (f i).isSome = true ↔ Rch C C.length i := fun i => by
            rw [← (hT i).1]
            rcases (hT i).2 with h | h <;> simp [h]
          have hs : ∀ x, x ∈ seen ↔ Rch C C.length x := fun x => ⟨fun hx => (hsome x).1 ((hall x (hoks x hx)).1 hx), fun hx => (hall x (okK_right (rch_right hx))).2 ((hsome x).2 hx)⟩
          have hrt : ∀ x ∈ seen, rightB x = true := fun x hx => rch_right ((hs x).1 hx)
          have hE9 := hE4.trans hE
          by_cases h0 : seen.length = 0
          · obtain rfl : seen = [] := List.eq_nil_of_length_eq_zero h0
            have hv : u10 = .slice none 0 0 ∨ ∃ g cap, u10 = .slice (some ⟨g, 0, none⟩) 0 cap := by
              rcases hown.2 with ⟨hv, _⟩ | ⟨g, cap, cur, hv, _⟩
              · exact .inl hv
              · exact .inr ⟨g, cap, hv⟩
            have hfin := own_low hown (Nat.le_succ_of_le hE4.size)
            have hso : ∀ u fv, Calls Tryz.prog 44 #[u10, fv] u fun e w' => e = .returned (.tuple #[]) ∧ u = w' := fun u fv => by
              rcases hv with rfl | ⟨g, cap, rfl⟩
              · exact sortNone_any _ _ _ _
              · exact sortNone_any _ _ _ _
            replace hso := Lib.hid hso
            go_wp2_with (go_at_call 44; (with_reducible refine Calls.mono (hso.out _ _) ?_); rintro ex w9 ⟨rfl, rfl⟩)
            go_ret2
            exact ⟨hE9, .inr (.inr ⟨hme, _, [], rfl, hfin, List.Pairwise.nil, by rw [hCC]; exact hs, by simp⟩)⟩
          · obtain ⟨g, cap, rfl, hgb, -⟩ := hown.form (by omega)
            have hso := sortI_any hown rfl (by omega) hrt hnd
            replace hso := Lib.hid hso
            go_wp2_with (go_at_call 44; (with_reducible refine Calls.mono hso.out ?_); rintro ex w9 ⟨rfl, M, hp, hri, ho9, hx9⟩)
            go_ret2
            have hMl : M.length = seen.length := hp.length_eq
            exact ⟨hx9 w hE9 (Nat.le_trans hE4.size (by omega)), .inr (.inr ⟨hme, _, M, rfl, own_low (by rw [hMl]; exact ho9) (Nat.le_succ_of_le hE4.size), hri, fun x => by rw [hCC, hp.mem_iff]; exact hs x, by omega⟩)⟩
        · intro i u w7 cnt2 hio his hin hrg2 hlt2 hg2 hs2 hen
          rw [show ivB.kv i = Value.agg #[.int .i64 i.a, .int .i64 i.b, .int .i64 i.c, .int .i64 i.d] from rfl] at hen ⊢
          have hgr : u10.ownBlock ≠ some w4.heap.size := fun e => by have := (hown.lt _ e).1; omega
          have hrl := hrg2.lt.1
          have hown7 := hown.kept hg2 (.inr hgr)
          have hE7 : Ext w4 w7 := hE.grown hg2 fun k e => by cases e; exact Nat.le_refl _
          have hEa : Ext w7 ((w7.alloc (.cells #[.int .i64 i.a, .int .i64 i.b, .int .i64 i.c, .int .i64 i.d] 36)).alloc (.cells #[.int .i64 i.a, .int .i64 i.b, .int .i64 i.c, .int .i64 i.d] 36)) := ((Ext.refl _).alloc _).alloc _
          have ho8 := own_ext hEa hown7
          have hR8 := hrg2.ext hEa
          have hE8 := hE7.trans hEa
          have hz8 := hR8.lt.1
          have hsl := hrg2.oks.2
          rw [List.length_append, List.length_singleton] at hsl
          clear hR hown hE hg2 hs2 hown7 hE7 hrg2 hEa
          go_wp2_with (at_builtin; go_loud (refine wp_app1 _ (.tmp 44) (.tmp 46) 32 36 4 32 _ rfl rfl Tryz.underlying32 ivInfo rfl (by decide) (by decide) (w4.heap.size + 1) _ seen.length _ rfl ho8 (w7.heap.size + 1) (i4C i) rfl rfl (Blk.new' (by simp)) (i4C_one i) (by omega) hz8 ?_; intro v9 w9 hown9 hgrow9 _))
          have hsn : (seen ++ [i]).flatMap i4C = seen.flatMap i4C ++ i4C i := by rw [List.flatMap_append]; rfl
          have hnd2 : (seen ++ [i]).Nodup := List.nodup_append.2 ⟨hnd, by simp, fun a ha b hb e => by rw [List.mem_singleton] at hb; subst hb; subst e; exact hin ha⟩
          have hgr9 : ∀ row, row = (u10).ownBlock → row ≠ some b ∧ row ≠ some w4.heap.size := fun row e => by
            subst e
            refine ⟨own_mapX_ne hR8.owns ho8, fun e => ?_⟩
            have := (ho8.lt _ e).1
            omega
          have hR9 := hR8.kept hgrow9 (fun e => (hgr9 _ rfl).1 e.symm) (fun e => (hgr9 _ rfl).2 e.symm)
          have hRl9 := hR9.left_eq
          have hE9 := hE8.grown hgrow9 fun j e => by have := (ho8.lt j e).1; omega
          go_roundw
          case rel => exact ⟨seen ++ [i], cnt2, hR9, by rw [hsn, List.length_append, List.length_singleton]; exact hown9, hnd2, hE9⟩
          case measure => omega
    · go_wp2
      go_ret2
      exact ⟨hb1.trans hb4, .inr (.inl ⟨hme, by rw [hCC]; exact hcr, rfl⟩)⟩
end Go.Proofs.YtddlhjbbjefdkaaGreatDoor

namespace Go.Proofs.YtddlhjbbjefdkaaGreatDoor
open Go Go.RowKit

theorem base_at : ∀ m : Nat, ((stX0.map (·.cs)).getD m []).length = base9.getD m 0
  | 0 => rfl
  | 1 => rfl
  | 2 => rfl
  | 3 => rfl
  | 4 => rfl
  | 5 => rfl
  | 6 => rfl
  | 7 => rfl
  | 8 => rfl
  | _ + 9 => rfl
theorem stOne_cs (L : Src) (a : Nat) (x : StepV) : (stOne L a x).1.cs.length ≤ x.cs.length + 2 := by
  unfold stOne
  split
  · exact Nat.zero_le _
  · simp only [List.length_append, List.length_cons, List.length_nil]; omega
theorem getD_set_self {α : Type} {l : List α} {k : Nat} (h : k < l.length) (x d : α) : (l.set k x).getD k d = x := by
  rw [List.getD_eq_getElem?_getD, List.getElem?_set_self h]; rfl
theorem getD_set_ne {α : Type} {l : List α} {k m : Nat} (h : k ≠ m) (x d : α) : (l.set k x).getD m d = l.getD m d := by
  rw [List.getD_eq_getElem?_getD, List.getElem?_set_ne h, List.getD_eq_getElem?_getD]
theorem stF_base (L : Src) (a : Nat) : ∃ i, i < 9 ∧ ∀ m, (((stF L a).1.map (·.cs)).getD m []).length ≤ (base9.set i (base9.getD i 0 + 2)).getD m 0 := by
  have hb : base9.length = 9 := rfl
  unfold stF
  split
  · obtain ⟨k, hk⟩ : ∃ k, nxF L (a + 1) 9 = k := ⟨_, rfl⟩
    have hk9 : k < 9 := by rw [← hk]; exact nxF_lt L (a + 1) 9 (by decide)
    rw [hk]
    refine ⟨k, hk9, fun m => ?_⟩
    simp only
    rw [List.map_set]
    by_cases h : k = m
    · subst h
      rw [getD_set_self (by rw [List.length_map]; exact hk9), getD_set_self (by omega)]
      refine Nat.le_trans (stOne_cs _ _ _) ?_
      have h1 : (stX0.getD k ⟨0, []⟩).cs = (stX0.map (·.cs)).getD k [] := by
        rw [List.getD_eq_getElem?_getD, List.getD_eq_getElem?_getD, List.getElem?_map]
        cases stX0[k]? <;> rfl
      rw [h1, base_at]
      exact Nat.le_refl _
    · rw [getD_set_ne h, getD_set_ne h, base_at]
      exact Nat.le_refl _
  · refine ⟨0, by decide, fun m => ?_⟩
    simp only
    rw [base_at]
    by_cases h : 0 = m
    · subst h; rw [getD_set_self (by decide)]; omega
    · rw [getD_set_ne h]; exact Nat.le_refl _
theorem stF_nine (L : Src) (a : Nat) : (stF L a).1.length = 9 := by
  unfold stF
  split
  · rw [List.length_set]; rfl
  · rfl
theorem mel_rest {X : List StepV} {m : List Int} (h : melF X m = 0) : 0 < m.length ∧ m.length ≤ 400 ∧ (∀ x ∈ m, 0 ≤ x ∧ x ≤ 127) ∧ ∀ i, i < m.length - 1 → ∃ x, findX X (gapAt m i) = some x ∧ x ∈ X := by
  have hs := mel_steps h
  have hF : melF X m = if stepsF X ≠ 0 then stepsF X else if m.length = 0 then 8 else if 400 < m.length then 2 else if (∃ n ∈ m, outB n 0 127 = true) then 1 else scanF (m.length - 1) (kindF X m) := rfl
  rw [h, if_neg (by simp [hs])] at hF
  split at hF
  · cases hF
  · split at hF
    · cases hF
    · split at hF
      · cases hF
      · rename_i h1 h2 h3
        refine ⟨by omega, by omega, fun x hx => ?_, fun i hi => ?_⟩
        · have h4 : ¬ outB x 0 127 = true := fun h => h3 ⟨x, hx, h⟩
          unfold outB at h4
          simp at h4
          omega
        · have h5 := scan_all hF.symm hi
          unfold kindF at h5
          cases hf : findX X (gapAt m i) with
          | none => rw [hf] at h5; cases h5
          | some x => exact ⟨x, rfl, List.mem_of_find?_eq_some hf⟩
/-- The steps and notes of a stream have never too many ends. -/
theorem not_crowd (L : Src) (a : Nat) {m : List Int} (hm : m.length ≤ 10) (h : melF (stF L a).1 m = 0) : ¬ Crowd (melC (stF L a).1 m) := by
  rintro ⟨k, ks, hk, hn, hr, hc⟩
  have hX9 := stF_nine L a
  obtain ⟨i, hi, hv⟩ := stF_base L a
  generalize (stF L a).1 = X at *
  have hs := mel_steps h
  obtain ⟨-, -, -, hfd⟩ := mel_rest h
  have hCl := melC_len X m
  have hex : ∀ j, j < (melC X m).length → ∃ q, q < 9 ∧ (melC X m).getD j [] = (X.map (·.cs)).getD q [] := fun j hj => by
    obtain ⟨x, hf, hx⟩ := hfd j (by omega)
    obtain ⟨q, hq⟩ := List.mem_iff_getElem?.1 hx
    have hql := (List.getElem?_eq_some_iff.1 hq).1
    refine ⟨q, by omega, ?_⟩
    rw [List.getD_eq_getElem?_getD, melC_at (by omega) hf, List.getD_eq_getElem?_getD, List.getElem?_map, hq]
    rfl
  have hJ : ∃ J : List Nat, J.length = (melC X m).length ∧ (∀ j, j < (melC X m).length → (melC X m).getD j [] = (X.map (·.cs)).getD (J.getD j 0) []) ∧ ∀ j ∈ J, j < 9 := by
    have key : ∀ n, n ≤ (melC X m).length → ∃ J : List Nat, J.length = n ∧ (∀ j, j < n → (melC X m).getD j [] = (X.map (·.cs)).getD (J.getD j 0) []) ∧ ∀ j ∈ J, j < 9 := by
      intro n
      induction n with
      | zero => exact fun _ => ⟨[], rfl, fun j hj => by omega, fun j hj => by cases hj⟩
      | succ n ih =>
        intro hn
        obtain ⟨J, j1, j2, j3⟩ := ih (by omega)
        obtain ⟨q, q1, q2⟩ := hex n (by omega)
        refine ⟨J ++ [q], by rw [List.length_append, j1]; rfl, fun j hj => ?_, fun j hj => ?_⟩
        · rcases Nat.lt_or_ge j n with h1 | h1
          · rw [j2 j h1, List.getD_eq_getElem?_getD (l := J), List.getD_eq_getElem?_getD (l := J ++ [q]), List.getElem?_append_left (by omega)]
          · obtain rfl : j = n := by omega
            rw [q2, List.getD_eq_getElem?_getD (l := J ++ [q]), List.getElem?_append_right (by omega), j1, Nat.sub_self]
            rfl
        · rcases List.mem_append.1 hj with h1 | h1
          · exact j3 j h1
          · rw [List.mem_singleton.1 h1]; exact q1
    exact key _ (Nat.le_refl _)
  obtain ⟨J, j1, j2, j3⟩ := hJ
  have := rch_few (melC_right hs).1 j1 j2 j3 (by omega) hi hv hk hn hr
  omega
/-- What can be reached is held. -/
theorem few_of_rch {C : List (List I4)} {e : I4} : ∀ {k : Nat} {i : I4}, k ≤ C.length → Rch C k i → fewL e (C.drop k) i ≠ none → fewL e C zeroI ≠ none
  | 0, i, _, h, hf => by
    rw [show i = zeroI from h, List.drop_zero] at hf
    exact hf
  | k + 1, i, hk, ⟨h1, i', c, h2, h3, h4⟩, hf => by
    refine few_of_rch (k := k) (i := i') (by omega) h2 ?_
    rw [List.drop_eq_getElem_cons (by omega : k < C.length)]
    intro hn
    rw [List.getD_eq_getElem?_getD, List.getElem?_eq_getElem (by omega)] at h3
    obtain ⟨j, hj⟩ := List.mem_iff_getElem?.1 h3
    have hjl := (List.getElem?_eq_some_iff.1 hj).1
    have hb := bestO_none (g := tryO (fewL e (C.drop (k + 1))) C[k] i') hn j hjl
    unfold tryO at hb
    have hjd : C[k].getD j zeroI = c := by rw [List.getD_eq_getElem?_getD]; simp only [Option.getD_some] at hj; rw [hj]; rfl
    rw [hjd, ← h4, if_pos h1] at hb
    cases hq : fewL e (C.drop (k + 1)) i with
    | none => exact hf hq
    | some r => rw [hq] at hb; cases hb
theorem few_end {C : List (List I4)} {e : I4} (h : Rch C C.length e) : ∃ many, fewL e C zeroI = some many := by
  have := few_of_rch (e := e) (Nat.le_refl C.length) h (by rw [List.drop_length]; unfold fewL; rw [if_pos rfl]; exact fun h => by cases h)
  cases hf : fewL e C zeroI with
  | none => exact absurd hf this
  | some r => exact ⟨r, rfl⟩
/-- Where one is while choices are followed. -/
structure Foll (e : I4) (C : List (List I4)) (H : List Nat) (many k : Nat) (at_ : I4) (few r : Nat) : Prop where
  hk : k ≤ C.length
  hr : rightB at_ = true
  hf : fewL e (C.drop k) at_ = some r
  hs : few + r = many
  hh : H.drop k = chooseL e (C.drop k) at_ r
theorem Foll.start {e : I4} {C : List (List I4)} {many : Nat} (h : fewL e C zeroI = some many) : Foll e C (chooseL e C zeroI many) many 0 zeroI 0 many :=
  ⟨Nat.zero_le _, right_zero, by rw [List.drop_zero]; exact h, by omega, by rw [List.drop_zero, List.drop_zero]⟩
theorem Foll.step {e : I4} {C : List (List I4)} {H : List Nat} {many k few r : Nat} {at_ : I4} (h : Foll e C H many k at_ few r) {cs : List I4} (hc : C[k]? = some cs) :
    ∃ n c r', H[k]? = some n ∧ cs[n]? = some c ∧ n < cs.length ∧ rightB (addI at_ c) = true ∧ few + min n 1 ≤ many ∧ Foll e C H many (k + 1) (addI at_ c) (few + min n 1) r' := by
  obtain ⟨hkl, hke⟩ := List.getElem?_eq_some_iff.1 hc
  have hd : C.drop k = cs :: C.drop (k + 1) := by rw [List.drop_eq_getElem_cons hkl, hke]
  have hf := h.hf
  have hh := h.hh
  rw [hd] at hf hh
  obtain ⟨n, r', h1, -, h2, h3, h4, -, h5⟩ := choose_step hf
  rw [h5] at hh
  obtain ⟨c, hcn⟩ : ∃ c, cs[n]? = some c := ⟨_, List.getElem?_eq_getElem h1⟩
  have hcd : cs.getD n zeroI = c := by rw [List.getD_eq_getElem?_getD, hcn]; rfl
  rw [hcd] at h2 h3 hh
  have hhk : H[k]? = some n := by
    have := congrArg (fun l => l[0]?) hh
    simp only [List.getElem?_drop, Nat.add_zero, List.getElem?_cons_zero] at this
    exact this
  have hs := h.hs
  refine ⟨n, c, r', hhk, hcn, h1, h2, by omega, by omega, h2, h3, by omega, ?_⟩
  have := congrArg List.tail hh
  rw [List.tail_drop] at this
  exact this
theorem Foll.done {e : I4} {C : List (List I4)} {H : List Nat} {many few r : Nat} {at_ : I4} (h : Foll e C H many C.length at_ few r) : at_ = e ∧ few = many := by
  have hf := h.hf
  have hs := h.hs
  rw [List.drop_length] at hf
  unfold fewL at hf
  split at hf
  · rename_i h1
    cases hf
    exact ⟨h1, by omega⟩
  · cases hf
end Go.Proofs.YtddlhjbbjefdkaaGreatDoor
