/- Hold and Ends are as specified for all steps, melodies and ends. Conditions: the list lies in memory, the table is there. -/
import Derived.Test.YtapjekpjekdlkaaDoorQMfA
import Derived.Test.YtapjekpjekdlkaaDoorQMeY
import Derived.Test.YtapjekpjekdlkaaDoorQMeM
import Derived.Test.YtapjekpjekdlkaaDoorQMeN
import Derived.Test.YtapjekpjekdlkaaDoorQMeO
import Derived.Test.YtapjekpjekdlkaaDoorQMeQ
import Derived.Test.YtapjekpjekdlkaaDoorQMeU
import Derived.Test.YtapjekpjekdlkaaDoorQEqI
import Derived.Test.YtapjekpjekdlkaaDoorQJ20
set_option linter.unusedSimpArgs false
set_option linter.unusedVariables false
namespace Go.Proofs.YtapjekpjekdlkaaDoor
open Go Go.RowKit

theorem slc_ch {w : World} {p : Option Addr} {n c : Nat} {H : List Nat} (h : Slc 1 chC w p n c H) : Slc 1 intC w p n c (H.map fun (k : Nat) => (k : Int)) := by
  obtain ⟨⟨h1, h2, h3⟩, h4⟩ := h
  refine ⟨⟨by rw [List.length_map]; exact h1, h2, fun hn => ?_⟩, h4⟩
  obtain ⟨b, off, e, hb, hE⟩ := h3 hn
  refine ⟨b, off, e, hb, fun i x hx j v hv => ?_⟩
  rw [List.getElem?_map] at hx
  obtain ⟨k, hk, rfl⟩ := Option.map_eq_some_iff.1 hx
  exact hE i k hk j v hv
theorem held_said {X : List StepV} {m : List Int} {x : I4} (h0 : melF X m = 0) (hm : m.length ≤ 10) (hc : ¬ Crowd (melC X m)) :
    ∃ (H : List Nat) (many : Int) (is : Bool), H.length ≤ 1000 ∧ (rightB x = false → H = [] ∧ many = 0 ∧ is = false) ∧ (∀ w w' e, HoldPost w X m x e w' → ∃ (q : Option Addr) (c : Nat), e = .returned (.tuple #[.slice q H.length c, .int .i64 many, .bool is, .int .i64 (faultI x)]) ∧ Slc 1 chC w' q H.length c H ∧ Ext w w') ∧
      (rightB x = true → ∀ w w' e, HeldP w X m x e w' → ∃ (q : Option Addr) (c : Nat), e = .returned (.tuple #[.slice q H.length c, .int .i64 many, .bool is]) ∧ Slc 1 chC w' q H.length c H ∧ Ext w w') := by
  have hl := melC_len X m
  by_cases hr : rightB x = true
  · have hf : faultI x = 0 := by unfold faultI; rw [hr]; rfl
    rw [hf]
    cases hfew : fewL x (melC X m) zeroI with
    | none =>
      refine ⟨[], 0, false, by decide, fun _ => ⟨rfl, rfl, rfl⟩, fun w w' e h => ?_, fun _ w w' e h => ?_⟩
      · obtain ⟨hE, ⟨hd, -⟩ | ⟨-, hd, -⟩ | ⟨-, -, hd, -⟩ | ⟨-, -, hd, rfl⟩ | ⟨-, -, mm, v, hf, rfl, ho⟩⟩ := h
        · exact absurd h0 hd
        · rw [hr] at hd; cases hd
        · exact absurd hd hc
        · exact ⟨none, 0, rfl, Slc.nil _ _ _, hE⟩
        · rw [hfew] at hf; cases hf
      · obtain ⟨hE, ⟨-, q, d, rfl, hS⟩ | ⟨q, d, mm, hf, -⟩⟩ := h
        · exact ⟨q, d, rfl, hS, hE⟩
        · rw [hfew] at hf; cases hf
    | some many =>
      have hch : (chooseL x (melC X m) zeroI many).length = (melC X m).length := choose_len x _ _ _
      refine ⟨chooseL x (melC X m) zeroI many, (many : Int), true, by omega, (fun h => by rw [hr] at h; cases h), fun w w' e h => ?_, fun _ w w' e h => ?_⟩
      · obtain ⟨hE, ⟨hd, -⟩ | ⟨-, hd, -⟩ | ⟨-, -, hd, -⟩ | ⟨-, -, hd, -⟩ | ⟨-, -, mm, v, hf, rfl, ho⟩⟩ := h
        · exact absurd h0 hd
        · rw [hr] at hd; cases hd
        · exact absurd hd hc
        · rw [hfew] at hd; cases hd
        · rw [hfew] at hf
          cases hf
          obtain ⟨q, c, rfl, hS⟩ := slc_of_own chC_len ho (by decide) (by omega)
          rw [hch]
          exact ⟨q, c, rfl, hS, hE⟩
      · obtain ⟨hE, ⟨hf, -⟩ | ⟨q, d, mm, hf, rfl, hS⟩⟩ := h
        · rw [hfew] at hf; cases hf
        · rw [hfew] at hf
          cases hf
          rw [hch]
          exact ⟨q, d, rfl, hS, hE⟩
  · have hrf : rightB x = false := by simpa using hr
    have hf : faultI x = 1 := by unfold faultI; rw [hrf]; rfl
    rw [hf]
    refine ⟨[], 0, false, by decide, fun _ => ⟨rfl, rfl, rfl⟩, fun w w' e h => ?_, fun h => absurd h hr⟩
    obtain ⟨hE, ⟨hd, -⟩ | ⟨-, -, rfl⟩ | ⟨-, hd, -⟩ | ⟨-, hd, -⟩ | ⟨-, hd, -⟩⟩ := h
    · exact absurd h0 hd
    · exact ⟨none, 0, rfl, Slc.nil _ _ _, hE⟩
    · exact absurd hd hr
    · exact absurd hd hr
    · exact absurd hd hr
theorem ends_good2 {w w' : World} {X : List StepV} {m : List Int} {e : Ending} (h : EndsPost w X m e w') (h0 : melF X m = 0) (hc : ¬ Crowd (melC X m)) :
    ∃ (q : Option Addr) (c : Nat) (T : List I4), e = .returned (.tuple #[.slice q T.length c, .int .i64 0]) ∧ Slc 4 i4C w' q T.length c T ∧ RiseI T ∧ (∀ x, x ∈ T ↔ Rch (melC X m) (melC X m).length x) ∧ T.length ≤ 20000 ∧ Ext w w' := by
  obtain ⟨hE, ⟨hd, -⟩ | ⟨-, hd, -⟩ | ⟨-, v, D, rfl, ho, h1, h2, hl⟩⟩ := h
  · exact absurd h0 hd
  · exact absurd hd hc
  · obtain ⟨q, c, rfl, hS⟩ := slc_of_own i4C_len ho (by decide) (by omega)
    exact ⟨q, c, D, rfl, hS, h1, h2, hl, hE⟩
theorem or_two (a b : Int) : orF [a, b] = if a = 0 then b else a := by
  show (if a = 0 then (if b = 0 then 0 else b) else a) = _
  by_cases h : b = 0 <;> simp [h]

set_option maxRecDepth 100000 in
set_option maxHeartbeats 25600000 in
theorem lawMH_any (w : World) (p : Option Addr) (n c : Nat) (h : Lst w w.heap.size p n) :
    Calls Tryd.prog 3 #[.slice p n c] w fun e w' => e = .returned (.bool true) ∧ Ext w w' := by
  obtain ⟨xs, rfl, hL⟩ := lst_list h
  obtain ⟨L, hLd⟩ : ∃ L : Src, L = ⟨xs, w.heap.size⟩ := ⟨_, rfl⟩
  have hlow : L.low = w.heap.size := by rw [hLd]
  have hE0 : Ext w (w.alloc (.cells #[.slice p xs.length c, .int .i64 0] 25)) := (Ext.refl w).alloc _
  have hSa : StrL (w.alloc (.cells #[.slice p xs.length c, .int .i64 0] 25)) w.heap.size L 0 := by
    subst hLd
    exact ⟨Nat.le_refl _, p, c, Blk.new' rfl, hL.low fun j hj => hE0.block j hj⟩
  have hz0 : w.heap.size + 1 ≤ (w.alloc (.cells #[.slice p xs.length c, .int .i64 0] 25)).heap.size := by simp
  have hva := stepList_det w.heap.size 0 L _ (by omega) hSa
  have hsl := stF_le L 0
  have hnc0 := fun m hm h => not_crowd L 0 (m := m) hm h
  obtain ⟨q1, hq1⟩ : ∃ q : List StepV × Nat, stF L 0 = q := ⟨_, rfl⟩
  obtain ⟨X, a1⟩ := q1
  rw [hq1] at hva hsl hnc0
  simp only at hva hsl hnc0
  have hmb := mdF_le L a1
  obtain ⟨q2, hq2⟩ : ∃ q : List Int × Nat, mdF L a1 = q := ⟨_, rfl⟩
  obtain ⟨m, a2⟩ := q2
  rw [hq2] at hmb
  simp only at hmb
  have hib := ivF_le L a2
  obtain ⟨q3, hq3⟩ : ∃ q : I4 × Nat, ivF L a2 = q := ⟨_, rfl⟩
  obtain ⟨iv, a3⟩ := q3
  rw [hq3] at hib
  simp only at hib
  have hml9 : m.length ≤ 1000000000 := by omega
  have hvb : Calls Tryd.prog 4 #[.pointer (some ⟨w.heap.size, 0, none⟩)] (w.alloc (.cells #[.slice p xs.length c, .int .i64 0] 25)) fun e w' => ∃ N g : Nat, N ≤ 1000 ∧ e = .returned (.slice (some ⟨g, 0, none⟩) N N) ∧ StpF (w.alloc (.cells #[.slice p xs.length c, .int .i64 0] 25)).heap.size w' (some ⟨g, 0, none⟩) N N X ∧ StrL w' w.heap.size L a1 ∧ ExtS w.heap.size (w.alloc (.cells #[.slice p xs.length c, .int .i64 0] 25)) w' :=
    hva.mono fun e w' ⟨g, h1, h2, h3, h4⟩ => ⟨9, g, by decide, h1, h2, h3, h4⟩
  clear hva
  have hva := Lib.hid hvb
  clear hvb
  replace hnc0 := Lib.hid (hnc0 m hmb.2)
  replace hq2 := Lib.hid hq2
  replace hq3 := Lib.hid hq3
  clear h hL hLd hSa hq1
  go_enter Tryd.func3, Tryd.ntmps3
  go_upto_region 3 with (first
    | (go_at_call 4; go_loud ((with_reducible refine Calls.mono hva.out ?_); rintro e w1 ⟨N, g1, hN9, rfl, hX1, hSa1, hE1⟩; have hXX1 := ExtS.back hE0 (Nat.le_refl _) hE1; have hz1 := Nat.le_trans hz0 hE1.2.2.2.1; have hma := Lib.hid (melody_det w.heap.size a1 L _ (by omega) hSa1)))
    | (go_at_call 5; go_loud ((with_reducible refine Calls.mono hma.out ?_); rw [hq2.out]; rintro e w2 ⟨v2, rfl, ho2, hSa2, hE2⟩; obtain ⟨p3, c3, rfl, hm2⟩ : ∃ p c, v2 = .slice p m.length c ∧ Slc 1 intC w2 p m.length c m := slc_of_own intC_len ho2 (by decide) hml9; have hia := Lib.hid (interval_det w.heap.size a2 L _ (by omega) hSa2)))
    | (go_at_call 6; go_loud ((with_reducible refine Calls.mono hia.out ?_); rw [hq3.out]; rintro e w3 ⟨rfl, hSa3, hE3⟩)))
  have hXX2 := ExtS.back hXX1 (Nat.le_refl _) hE2
  have hXX3 := ExtS.back hXX2 (Nat.le_refl _) hE3
  have hX3 := (hX1.extS (show w.heap.size < _ by omega) hE2).extS (show w.heap.size < _ by omega) hE3
  have ho3 := own_extS hE3 (show w.heap.size < w1.heap.size by omega) ho2
  have hB3 : w.heap.size < (w.alloc (.cells #[.slice p xs.length c, .int .i64 0] 25)).heap.size := by omega
  have hb13 : w.heap.size < w1.heap.size := by omega
  have hs3 : w.heap.size < w3.heap.size := hSa3.lt
  have hEa : Ext w3 (w3.alloc (.cells #[.int .i64 iv.a, .int .i64 iv.b, .int .i64 iv.c, .int .i64 iv.d] 30)) := (Ext.refl _).alloc _
  have hI : Blk (w3.alloc (.cells #[.int .i64 iv.a, .int .i64 iv.b, .int .i64 iv.c, .int .i64 iv.d] 30)) w3.heap.size 30 #[.int .i64 iv.a, .int .i64 iv.b, .int .i64 iv.c, .int .i64 iv.d] := Blk.new' rfl
  have hS4 := hSa3.ext hEa
  have hfac : ∀ u, ExtS w.heap.size w3 u → StpM u (some ⟨g1, 0, none⟩) N N X ∧ Slc 1 intC u p3 m.length c3 m ∧ Ext w u := fun u hu => by
    refine ⟨(hX3.extS hB3 hu).m, ?_, ExtS.back hXX3 (Nat.le_refl _) hu⟩
    obtain ⟨q, d, e9, hS⟩ := slc_of_own intC_len (own_extS hu hb13 ho3) (by decide) hml9
    cases e9
    exact hS
  have hEw3 : ExtS w.heap.size w3 (w3.alloc (.cells #[.int .i64 iv.a, .int .i64 iv.b, .int .i64 iv.c, .int .i64 iv.d] 30)) := hEa.extS
  clear hva hma hia hE1 hE2 hE3 hX1 hSa1 hXX1 hXX2 hXX3 hX3 hm2 ho2 ho3 hSa2 hSa3 hz0 hz1 hE0 hEa
  generalize w3.alloc (.cells #[.int .i64 iv.a, .int .i64 iv.b, .int .i64 iv.c, .int .i64 iv.d] 30) = W at *
  generalize hg6d : w3.heap.size = g6 at *
  have hg6z : w3.heap.size ≤ g6 := Nat.le_of_eq hg6d
  replace hg6d := Lib.hid hg6d
  have hmm : m.length ≤ 10 := hmb.2
  have htun := fun u => tuned_any u
  replace htun := Lib.hid htun
  by_cases h0 : ¬ melF X m = 0
  · have h0b : (melF X m == 0) = false := beq_false_of_ne h0
    obtain ⟨hXW, hmW, hEW⟩ := hfac W hEw3
    have hmf : Calls Tryd.prog 7 #[.slice (some ⟨g1, 0, none⟩) N N, .slice p3 m.length c3] W fun e w' => e = .returned (.int .i64 (melF X m)) ∧ Ext W w' := melodyFault_any hXW hmW
    have hho : ∀ u, Ext W u → Calls Tryd.prog 11 #[.slice (some ⟨g1, 0, none⟩) N N, .slice p3 m.length c3, .agg #[.int .i64 iv.a, .int .i64 iv.b, .int .i64 iv.c, .int .i64 iv.d]] u fun e w' => e = .returned (.tuple #[.slice none 0 0, .int .i64 0, .bool false, .int .i64 (melF X m)]) ∧ Ext u w' := fun u hu => (hold_any (hXW.ext hu) (hmW.ext hu) (by omega) iv).mono fun e w' hp => by
      obtain ⟨hE, ⟨-, he⟩ | ⟨hd, -⟩ | ⟨hd, -⟩ | ⟨hd, -⟩ | ⟨hd, -⟩⟩ := hp
      · exact ⟨he, hE⟩
      all_goals exact absurd hd h0
    have hen : ∀ u, Ext W u → Calls Tryd.prog 12 #[.slice (some ⟨g1, 0, none⟩) N N, .slice p3 m.length c3] u fun e w' => e = .returned (.tuple #[.slice none 0 0, .int .i64 (melF X m)]) ∧ Ext u w' := fun u hu => (ends_any (hXW.ext hu) (hmW.ext hu) (by omega)).mono fun e w' hp => by
      obtain ⟨hE, ⟨-, he⟩ | ⟨hd, -⟩ | ⟨hd, -⟩⟩ := hp
      · exact ⟨he, hE⟩
      all_goals exact absurd hd h0
    have hor : orF [melF X m, faultI iv] = melF X m := by rw [or_two, if_neg h0]
    have hif := fun u => intervalFault_any iv u
    have heq : ∀ u, Calls Tryd.prog 16 #[.slice none 0 0, .slice none 0 0] u fun e w' => e = .returned (.bool true) ∧ Ext u w' := fun u => eqInt4_any none none 0 0 0 [] u (Slc.nil _ _ _) (Slc.nil _ _ _) (by decide)
    have hI' : ∀ u, Ext W u → Blk u g6 30 #[.int .i64 iv.a, .int .i64 iv.b, .int .i64 iv.c, .int .i64 iv.d] := fun u hu => hI.ext hu
    replace hmf := Lib.hid hmf
    replace hho := Lib.hid hho
    replace hen := Lib.hid hen
    replace hor := Lib.hid hor
    replace hif := Lib.hid hif
    replace heq := Lib.hid heq
    replace hfac := Lib.hid hfac
    replace h0 := Lib.hid h0
    obtain ⟨y1, -⟩ := hI.walk
    have y2 := hI.lt
    generalize melF X m = F at *
    generalize faultI iv = fi at *
    go_wp2_with (first
        | (go_at_call 7; go_loud ((with_reducible refine Calls.mono hmf.out ?_); rintro e w4 ⟨rfl, hb4⟩; obtain ⟨y3, -⟩ := (hI' _ hb4).walk; have y4 := (hI' _ hb4).lt))
        | (go_at_call 11; go_loud ((with_reducible refine Calls.mono (hho.out _ hb4) ?_); rintro e w5 ⟨rfl, hb5⟩; have hE5 := hb4.trans hb5))
        | (go_at_call 12; go_loud ((with_reducible refine Calls.mono (hen.out _ hE5) ?_); rintro e w6 ⟨rfl, hb6⟩; have hE6 := hE5.trans hb6; obtain ⟨y5, -⟩ := (hI' _ hE6).walk; have y6 := (hI' _ hE6).lt))
        | (go_at_call 14; go_loud ((with_reducible refine Calls.mono (hif.out _) ?_); rintro e w7 ⟨rfl, hb7⟩; have hE7 := hE6.trans hb7))
        | (go_at_call 13; refine (orErr_blk _ _ _ [F, fi] _ (by simp) (by exact Blk.new' rfl)).mono ?_; rintro e w8 ⟨rfl, rfl⟩; rw [hor.out]; have hE8 := hE7.alloc (.cells #[.int .i64 F, .int .i64 fi] 32))
        | (go_at_call 16; go_loud ((with_reducible refine Calls.mono (heq.out _) ?_); rintro e w9 ⟨rfl, hb9⟩; have hE9 := hE8.trans hb9))
        | (go_at_call 17; (with_reducible refine Calls.mono (htun.out _) ?_); rintro e u9 ⟨rfl, hu9⟩))
    go_ret
    exact ⟨rfl, hEW.trans (hE9.trans hu9)⟩
  replace h0 : melF X m = 0 := Decidable.not_not.1 h0
  have hnc := hnc0.out h0
  obtain ⟨hXW, hmW, hEW⟩ := hfac W hEw3
  have hmf : Calls Tryd.prog 7 #[.slice (some ⟨g1, 0, none⟩) N N, .slice p3 m.length c3] W fun e w' => e = .returned (.int .i64 0) ∧ Ext W w' := by
    have h9 := melodyFault_any hXW hmW
    rw [h0] at h9
    exact h9
  have heo : ∀ u, ExtS w.heap.size w3 u → Calls Tryd.prog 9 #[.slice (some ⟨g1, 0, none⟩) N N, .slice p3 m.length c3] u fun e w' => ∃ (q : Option Addr) (c : Nat) (T : List I4), e = .returned (.slice q T.length c) ∧ w'.ownsRow u.heap.size 30 4 (.slice q T.length c) T.length (T.flatMap i4C) ∧ RiseI T ∧ (∀ x, x ∈ T ↔ Rch (melC X m) (melC X m).length x) ∧ T.length ≤ 20000 ∧ Ext u w' := fun u hu => by
    obtain ⟨b1, b2, b3⟩ := hfac u hu
    refine (endsOf_any b1 b2 h0 hmm hnc).mono fun e w' hp => ?_
    obtain ⟨hE, v, T, rfl, ho, h1, h2, hl⟩ := hp
    obtain ⟨q, c, rfl, hS⟩ := slc_of_own i4C_len ho (by decide) (by omega)
    exact ⟨q, c, T, rfl, ho, h1, h2, hl, hE⟩
  replace hmf := Lib.hid hmf
  replace heo := Lib.hid heo
  replace hfac := Lib.hid hfac
  replace hnc := Lib.hid hnc
  replace h0 := Lib.hid h0
  obtain ⟨fl, hfl⟩ : ∃ b, flF L a3 4 = b := ⟨_, rfl⟩
  replace hfl := Lib.hid hfl
  go_upto_if 37 with (first
    | (go_at_call 7; go_loud ((with_reducible refine Calls.mono hmf.out ?_); rintro e w4 ⟨rfl, hb4⟩; have hfd := Lib.hid (flip_det w.heap.size a3 4 L w4 (by omega) (by decide) (by decide) (hS4.ext hb4))))
    | (go_at_call 8; go_loud ((with_reducible refine Calls.mono hfd.out ?_); rw [hfl.out]; rintro e w5 ⟨rfl, hS5, hE5⟩)))
  have hI5 := (hI.ext hb4).extS (show g6 ≠ w.heap.size by omega) hE5
  have hEw5 : ExtS w.heap.size w3 w5 := (hEw3.trans hb4.extS).trans hE5
  clear hfd hmf hE5 hb4 hI hS4 hEw3 hXW hmW hEW
  generalize w5 = W5 at *
  go_cut [] (fun wc => ∃ x : I4, Blk wc g6 30 #[.int .i64 x.a, .int .i64 x.b, .int .i64 x.c, .int .i64 x.d] ∧ ExtS w.heap.size w3 wc)
  case first =>
    cases fl
    · go_upto_if 43 with (go_at_call 9; go_loud ((with_reducible refine Calls.mono (heo.out _ hEw5) ?_); rintro e w6 ⟨q, d, T, rfl, ho6, -, -, hTl, hb6⟩))
      have hI6 := hI5.ext hb6
      have hEw6 := hEw5.trans hb6.extS
      have hS6 := hS5.ext hb6
      have hs5 : w.heap.size < W5.heap.size := hS5.lt
      clear hI5 hEw5 hS5 hb6
      by_cases hT0 : T.length = 0
      · have hT0b : ¬ (0 : Int) < T.length := by omega
        go_wp2
        go_meet
        exact ⟨iv, hI6, hEw6⟩
      · have hT0I : (0 : Int) < T.length := by omega
        have hnd := next_det w.heap.size (a3 + 1) T.length L w6 (by omega) (by omega) (by omega) hS6
        have hkl := nxF_lt L (a3 + 1) T.length (by omega)
        generalize nxF L (a3 + 1) T.length = k at *
        obtain ⟨x, hx⟩ := getD_some (rfl : T.length = T.length) hkl
        have hkI : (k : Int) < T.length := by omega
        obtain ⟨tb, cap, e9, htb, -⟩ := ho6.form (by omega)
        cases e9
        replace hx := Lib.hid hx
        replace hnd := Lib.hid hnd
        go_upto_region 7 with fail
        go_wp2_with (go_at_call 10; go_loud ((with_reducible refine Calls.mono hnd.out ?_); rintro e w7 ⟨rfl, -, hE7⟩; have hI7 := hI6.extS (show g6 ≠ w.heap.size by omega) hE7; have ho7 := own_extS hE7 hs5 ho6; have c1 : w7.cell? ⟨tb, k * 4, none⟩ = some (.int .i64 x.a) := own_cell i4C_len ho7 hx.out 0 rfl hkl; have c2 : w7.cell? ⟨tb, k * 4 + 1, none⟩ = some (.int .i64 x.b) := own_cell i4C_len ho7 hx.out 1 rfl hkl; have c4 : w7.cell? ⟨tb, k * 4 + 2, none⟩ = some (.int .i64 x.c) := own_cell i4C_len ho7 hx.out 2 rfl hkl; have c5 : w7.cell? ⟨tb, k * 4 + 3, none⟩ = some (.int .i64 x.d) := own_cell i4C_len ho7 hx.out 3 rfl hkl; have ltb := (ho7.lt tb rfl).2; obtain ⟨y1, y3⟩ := hI7.walk; have y2 := hI7.lt; clear ho7))
        go_meet
        exact ⟨x, ((((hI7.set_ 0 (.int .i64 x.a)).set_ 1 (.int .i64 x.b)).set_ 2 (.int .i64 x.c)).set_ 3 (.int .i64 x.d)).cast (by simp), ((((hEw6.trans hE7).setCell (p := ⟨g6, 0, none⟩) (.inr hg6z) _).setCell (p := ⟨g6, 1, none⟩) (.inr hg6z) _).setCell (p := ⟨g6, 2, none⟩) (.inr hg6z) _).setCell (p := ⟨g6, 3, none⟩) (.inr hg6z) _⟩
    · go_wp2
      go_meet
      exact ⟨iv, hI5, hEw5⟩
  case rest =>
    obtain ⟨x, hI, hEw⟩ := hcut
    clear hI5 hEw5 hS5
    obtain ⟨hXW, hmW, hEW⟩ := hfac.out _ hEw
    obtain ⟨H, many, is, hHl, hnr, hsa, hsb⟩ := held_said (x := x) h0.out hmm hnc.out
    have hho : ∀ u, Ext wc u → Calls Tryd.prog 11 #[.slice (some ⟨g1, 0, none⟩) N N, .slice p3 m.length c3, .agg #[.int .i64 x.a, .int .i64 x.b, .int .i64 x.c, .int .i64 x.d]] u fun e w' => ∃ (q : Option Addr) (c : Nat), e = .returned (.tuple #[.slice q H.length c, .int .i64 many, .bool is, .int .i64 (faultI x)]) ∧ Slc 1 chC w' q H.length c H ∧ Ext u w' := fun u hu => (hold_any (hXW.ext hu) (hmW.ext hu) (by omega) x).mono fun e w' hp => hsa _ _ _ hp
    have hhe : rightB x = true → ∀ u, Ext wc u → Calls Tryd.prog 15 #[.slice (some ⟨g1, 0, none⟩) N N, .slice p3 m.length c3, .agg #[.int .i64 x.a, .int .i64 x.b, .int .i64 x.c, .int .i64 x.d]] u fun e w' => ∃ (q : Option Addr) (c : Nat), e = .returned (.tuple #[.slice q H.length c, .int .i64 many, .bool is]) ∧ Slc 1 chC w' q H.length c H ∧ Ext u w' := fun hr u hu => (heldOf_any (hXW.ext hu) (hmW.ext hu) h0.out hmm x).mono fun e w' hp => hsb hr _ _ _ hp
    have hen : ∀ u, Ext wc u → Calls Tryd.prog 12 #[.slice (some ⟨g1, 0, none⟩) N N, .slice p3 m.length c3] u fun e w' => ∃ (q : Option Addr) (c : Nat) (T : List I4), e = .returned (.tuple #[.slice q T.length c, .int .i64 0]) ∧ Slc 4 i4C w' q T.length c T ∧ RiseI T ∧ (∀ x, x ∈ T ↔ Rch (melC X m) (melC X m).length x) ∧ T.length ≤ 20000 ∧ Ext u w' := fun u hu => (ends_any (hXW.ext hu) (hmW.ext hu) (by omega)).mono fun e w' hp => ends_good2 hp h0.out hnc.out
    have hif := fun u => intervalFault_any x u
    have heq : ∀ u (q r : Option Addr) (c d : Nat), Slc 1 chC u q H.length c H → Slc 1 chC u r H.length d H → Calls Tryd.prog 16 #[.slice q H.length c, .slice r H.length d] u fun e w' => e = .returned (.bool true) ∧ Ext u w' := fun u q r c d h1 h2 => eqInt4_any q r H.length c d _ u (slc_ch h1) (slc_ch h2) (by omega)
    have hI' : ∀ u, Ext wc u → Blk u g6 30 #[.int .i64 x.a, .int .i64 x.b, .int .i64 x.c, .int .i64 x.d] := fun u hu => hI.ext hu
    obtain ⟨y1, -⟩ := hI.walk
    have y2 := hI.lt
    replace hho := Lib.hid hho
    replace hen := Lib.hid hen
    replace heq := Lib.hid heq
    clear hsa hsb hXW hmW
    by_cases hr : rightB x = true
    · have hf : faultI x = 0 := by unfold faultI; rw [hr]; rfl
      have hhe2 := hhe hr
      simp only [hf] at hif hho
      have hor : orF [0, 0] = 0 := by rw [or_two, if_pos rfl]
      replace hhe2 := Lib.hid hhe2
      replace hif := Lib.hid hif
      replace hor := Lib.hid hor
      clear hhe
      go_wp2_with (first
        | (go_at_call 11; go_loud ((with_reducible refine Calls.mono (hho.out _ (by exact Ext.refl _)) ?_); rintro e w5 ⟨q5, c5, rfl, hH5, hb5⟩))
        | (go_at_call 12; go_loud ((with_reducible refine Calls.mono (hen.out _ hb5) ?_); rintro e w6 ⟨q6, c6, T, rfl, hT6, hri6, hme6, hTl6, hb6⟩; have hE6 := hb5.trans hb6; obtain ⟨y3, -⟩ := (hI' _ hE6).walk; have y4 := (hI' _ hE6).lt))
        | (go_at_call 14; go_loud ((with_reducible refine Calls.mono (hif.out _) ?_); rintro e w7 ⟨rfl, hb7⟩; have hE7 := hE6.trans hb7))
        | (go_at_call 13; refine (orErr_blk _ _ _ [0, 0] _ (by simp) (by exact Blk.new' rfl)).mono ?_; rintro e w8 ⟨rfl, rfl⟩; rw [hor.out]; have hE78 := (Ext.refl w7).alloc (.cells #[.int .i64 0, .int .i64 0] 32); have hE8 := hE7.trans hE78; obtain ⟨y5, -⟩ := (hI' _ hE8).walk; have y6 := (hI' _ hE8).lt)
        | (go_at_call 15; go_loud ((with_reducible refine Calls.mono (hhe2.out _ hE8) ?_); rintro e w9 ⟨q9, c9, rfl, hH9, hb9⟩; have hE9 := hE8.trans hb9; have hH59 := hH5.ext ((hb6.trans hb7).trans (hE78.trans hb9))))
        | (go_at_call 16; go_loud ((with_reducible refine Calls.mono (heq.out _ _ _ _ _ hH59 hH9) ?_); rintro e wa ⟨rfl, hba⟩; have hEa := hE9.trans hba))
        | (go_at_call 9; go_loud ((with_reducible refine Calls.mono (heo.out _ (hEw.trans hEa.extS)) ?_); rintro e wb ⟨qb, cb, T2, rfl, hob, hrib, hmeb, hTlb, hbb⟩; have hEb := hEa.trans hbb; obtain rfl := riseI_uniq hri6 hrib (fun x => (hme6 x).trans (hmeb x).symm); obtain ⟨qe, de, e9, hTb⟩ := slc_of_own i4C_len hob (by decide) (by omega); cases e9; have hTa := hT6.ext (((hb7.trans hE78).trans (hb9.trans hba)).trans hbb); have hqv := Lib.hid (eqIv_any _ _ _ _ _ _ _ hTa hTb (by omega))))
        | (go_at_call 18; go_loud ((with_reducible refine Calls.mono hqv.out ?_); rintro e wd ⟨rfl, hbd⟩; have hEd := hEb.trans hbd))
        | (go_at_call 17; (with_reducible refine Calls.mono (htun.out _) ?_); rintro e u9 ⟨rfl, hu9⟩))
      go_ret
      exact ⟨rfl, hEW.trans (hEd.trans hu9)⟩
    · have hrf : rightB x = false := by simpa using hr
      have hf : faultI x = 1 := by unfold faultI; rw [hrf]; rfl
      simp only [hf] at hif hho
      have hor : orF [0, 1] = 1 := by rw [or_two, if_pos rfl]
      replace hif := Lib.hid hif
      replace hor := Lib.hid hor
      clear hhe
      obtain ⟨rfl, rfl, rfl⟩ := hnr hrf
      go_wp2_with (first
        | (go_at_call 11; go_loud ((with_reducible refine Calls.mono (hho.out _ (by exact Ext.refl _)) ?_); rintro e w5 ⟨q5, c5, rfl, hH5, hb5⟩))
        | (go_at_call 12; go_loud ((with_reducible refine Calls.mono (hen.out _ hb5) ?_); rintro e w6 ⟨q6, c6, T, rfl, hT6, hri6, hme6, hTl6, hb6⟩; have hE6 := hb5.trans hb6; obtain ⟨y3, -⟩ := (hI' _ hE6).walk; have y4 := (hI' _ hE6).lt))
        | (go_at_call 14; go_loud ((with_reducible refine Calls.mono (hif.out _) ?_); rintro e w7 ⟨rfl, hb7⟩; have hE7 := hE6.trans hb7))
        | (go_at_call 13; refine (orErr_blk _ _ _ [0, 1] _ (by simp) (by exact Blk.new' rfl)).mono ?_; rintro e w8 ⟨rfl, rfl⟩; rw [hor.out]; have hE78 := (Ext.refl w7).alloc (.cells #[.int .i64 0, .int .i64 1] 32); have hE8 := hE7.trans hE78; have hH8 := hH5.ext ((hb6.trans hb7).trans hE78))
        | (go_at_call 16; go_loud ((with_reducible refine Calls.mono (heq.out _ _ none _ 0 hH8 (Slc.nil _ _ _)) ?_); rintro e wa ⟨rfl, hba⟩; have hEa := hE8.trans hba))
        | (go_at_call 9; go_loud ((with_reducible refine Calls.mono (heo.out _ (hEw.trans hEa.extS)) ?_); rintro e wb ⟨qb, cb, T2, rfl, hob, hrib, hmeb, hTlb, hbb⟩; have hEb := hEa.trans hbb; obtain rfl := riseI_uniq hri6 hrib (fun x => (hme6 x).trans (hmeb x).symm); obtain ⟨qe, de, e9, hTb⟩ := slc_of_own i4C_len hob (by decide) (by omega); cases e9; have hTa := hT6.ext (((hb7.trans hE78).trans hba).trans hbb); have hqv := Lib.hid (eqIv_any _ _ _ _ _ _ _ hTa hTb (by omega))))
        | (go_at_call 18; go_loud ((with_reducible refine Calls.mono hqv.out ?_); rintro e wd ⟨rfl, hbd⟩; have hEd := hEb.trans hbd))
        | (go_at_call 17; (with_reducible refine Calls.mono (htun.out _) ?_); rintro e u9 ⟨rfl, hu9⟩))
      go_ret
      exact ⟨rfl, hEW.trans (hEd.trans hu9)⟩
end Go.Proofs.YtapjekpjekdlkaaDoor
