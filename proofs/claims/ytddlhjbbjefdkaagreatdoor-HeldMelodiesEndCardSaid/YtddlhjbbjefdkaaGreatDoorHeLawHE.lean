/- A melody that is held ends where it should, with the choices that are told, and so do all ends. Conditions: the list lies in memory, the table is there. -/
import Derived.Test.YtddlhjbbjefdkaaGreatDoorHeMeW
import Derived.Test.YtddlhjbbjefdkaaGreatDoorHeMeU
import Derived.Test.YtddlhjbbjefdkaaGreatDoorHeMeQ
import Derived.Test.YtddlhjbbjefdkaaGreatDoorHeMeT
import Derived.Test.YtddlhjbbjefdkaaGreatDoorHeTuneI
import Derived.Test.YtddlhjbbjefdkaaGreatDoorHeJ47
set_option linter.unusedSimpArgs false
set_option linter.unusedVariables false
namespace Go.Proofs.YtddlhjbbjefdkaaGreatDoor
open Go Go.RowKit

theorem ends_good {w w' : World} {X : List StepV} {m : List Int} {e : Ending} (h : EndsPost w X m e w') (h0 : melF X m = 0) (hc : ¬ Crowd (melC X m)) :
    ∃ (q : Option Addr) (c : Nat) (T : List I4), e = .returned (.tuple #[.slice q T.length c, .int .i64 0]) ∧ Slc 4 i4C w' q T.length c T ∧ RiseI T ∧ (∀ x, x ∈ T ↔ Rch (melC X m) (melC X m).length x) ∧ T.length ≤ 20000 ∧ Ext w w' := by
  obtain ⟨hE, ⟨hd, -⟩ | ⟨-, hd, -⟩ | ⟨-, v, D, rfl, ho, h1, h2, hl⟩⟩ := h
  · exact absurd h0 hd
  · exact absurd hd hc
  · obtain ⟨q, c, rfl, hS⟩ := slc_of_own i4C_len ho (by decide) (by omega)
    exact ⟨q, c, D, rfl, hS, h1, h2, hl, hE⟩
theorem hold_good {w w' : World} {X : List StepV} {m : List Int} {x : I4} {e : Ending} (h : HoldPost w X m x e w') (h0 : melF X m = 0) (hm : m.length ≤ 10) (hc : ¬ Crowd (melC X m)) (hx : Rch (melC X m) (melC X m).length x) :
    ∃ (q : Option Addr) (c many : Nat), fewL x (melC X m) zeroI = some many ∧ e = .returned (.tuple #[.slice q (melC X m).length c, .int .i64 (many : Int), .bool true, .int .i64 0]) ∧ Slc 1 chC w' q (melC X m).length c (chooseL x (melC X m) zeroI many) ∧ Ext w w' := by
  obtain ⟨many, hfew⟩ := few_end hx
  have hxr := rch_right hx
  obtain ⟨hE, ⟨hd, -⟩ | ⟨-, hd, -⟩ | ⟨-, -, hd, -⟩ | ⟨-, -, hd, -⟩ | ⟨-, -, mm, v, hf, rfl, ho⟩⟩ := h
  · exact absurd h0 hd
  · rw [hxr] at hd; cases hd
  · exact absurd hd hc
  · rw [hfew] at hd; cases hd
  · rw [hfew] at hf
    cases hf
    have hl := melC_len X m
    obtain ⟨q, c, rfl, hS⟩ := slc_of_own chC_len ho (by decide) (by omega)
    exact ⟨q, c, many, hfew, rfl, hS, hE⟩
theorem drift_good {w w' : World} {X : List StepV} {m : List Int} {e : Ending} (h : DriftPost w X m e w') (hm : m.length ≤ 10) (h0 : 0 < m.length) :
    Ext w w' ∧ ((∃ d : Int, (d == 0) = false ∧ e = .returned (.tuple #[.slice none 0 0, .int .i64 d])) ∨
      ∃ (q : Option Addr) (c : Nat) (D : List I4) (x : I4), e = .returned (.tuple #[.slice q m.length c, .int .i64 0]) ∧ Slc 4 i4C w' q m.length c D ∧ D[m.length - 1]? = some x ∧ Rch (melC X m) (melC X m).length x) := by
  obtain ⟨hE, ⟨d, hd, rfl⟩ | ⟨-, v, D, rfl, ho, hl, hr⟩⟩ := h
  · exact ⟨hE, .inl ⟨d, beq_false_of_ne hd, rfl⟩⟩
  · have hcl := melC_len X m
    have hDl : D.length = m.length := by omega
    rw [hDl] at ho
    obtain ⟨q, c, rfl, hS⟩ := slc_of_own i4C_len ho (by decide) (by omega)
    obtain ⟨x, hx⟩ := getD_some hDl (show m.length - 1 < m.length by omega)
    exact ⟨hE, .inr ⟨q, c, D, x, rfl, hS, hx, by rw [hcl]; exact hr _ _ hx⟩⟩
theorem rise_step {T : List I4} (h : RiseI T) {i : Nat} {x y : I4} (hx : T[i]? = some x) (hy : T[i + 1]? = some y) : cmpI x y < 0 := by
  unfold RiseI at h
  obtain ⟨h1, e1⟩ := List.getElem?_eq_some_iff.1 hx
  obtain ⟨h2, e2⟩ := List.getElem?_eq_some_iff.1 hy
  have := List.pairwise_iff_getElem.1 h i (i + 1) h1 h2 (by omega)
  rw [e1, e2] at this
  exact this
theorem okI_is {x : I4} (h : rightB x = true) : okI x = x := by unfold okI; rw [h]; rfl
theorem both_is {x y : I4} (hx : rightB x = true) (hy : rightB y = true) : bothB x y = true := by unfold bothB; rw [hx, hy]; rfl

set_option maxRecDepth 100000 in
set_option maxHeartbeats 25600000 in
theorem lawHE_any (B : Nat) (w : World) (p : Option Addr) (n c : Nat) (h : Lst w w.heap.size p n) (ht : Tab B w) :
    Calls Tryz.prog 3 #[.slice p n c] w fun e w' => e = .returned (.bool true) ∧ Ext w w' := by
  obtain ⟨xs, rfl, hL⟩ := lst_list h
  obtain ⟨L, hLd⟩ : ∃ L : Src, L = ⟨xs, w.heap.size⟩ := ⟨_, rfl⟩
  have hlow : L.low = w.heap.size := by rw [hLd]
  have hE0 : Ext w (w.alloc (.cells #[.slice p xs.length c, .int .i64 0] 25)) := (Ext.refl w).alloc _
  have hSa : StrL (w.alloc (.cells #[.slice p xs.length c, .int .i64 0] 25)) w.heap.size L 0 := by
    subst hLd
    exact ⟨Nat.le_refl _, p, c, Blk.new' rfl, hL.low fun j hj => hE0.block j hj⟩
  have hz0 : w.heap.size + 1 ≤ (w.alloc (.cells #[.slice p xs.length c, .int .i64 0] 25)).heap.size := by simp
  have hva := stepList_det w.heap.size 0 L _ (by omega) hSa
  have hsl := stF_le L 0
  have hnc0 := fun m hm h => not_crowd L 0 (m := m) hm h
  obtain ⟨q1, hq1⟩ : ∃ q : List StepV × Nat, stF L 0 = q := ⟨_, rfl⟩
  obtain ⟨X, a1⟩ := q1
  rw [hq1] at hva hsl hnc0
  simp only at hva hsl hnc0
  have hmb := mdF_le L a1
  obtain ⟨q2, hq2⟩ : ∃ q : List Int × Nat, mdF L a1 = q := ⟨_, rfl⟩
  obtain ⟨m, a2⟩ := q2
  rw [hq2] at hmb
  simp only at hmb
  have hml9 : m.length ≤ 1000000000 := by omega
  have hvb : Calls Tryz.prog 6 #[.pointer (some ⟨w.heap.size, 0, none⟩)] (w.alloc (.cells #[.slice p xs.length c, .int .i64 0] 25)) fun e w' => ∃ N g : Nat, N ≤ 1000 ∧ e = .returned (.slice (some ⟨g, 0, none⟩) N N) ∧ StpF (w.alloc (.cells #[.slice p xs.length c, .int .i64 0] 25)).heap.size w' (some ⟨g, 0, none⟩) N N X ∧ StrL w' w.heap.size L a1 ∧ ExtS w.heap.size (w.alloc (.cells #[.slice p xs.length c, .int .i64 0] 25)) w' :=
    hva.mono fun e w' ⟨g, h1, h2, h3, h4⟩ => ⟨9, g, by decide, h1, h2, h3, h4⟩
  clear hva
  have hva := Lib.hid hvb
  clear hvb
  replace hnc0 := Lib.hid (hnc0 m hmb.2)
  replace hq2 := Lib.hid hq2
  clear h hL hLd hSa hq1
  go_enter Tryz.func3, Tryz.ntmps3
  go_upto_region 3 with (first
    | (go_at_call 6; go_loud ((with_reducible refine Calls.mono hva.out ?_); rintro e w1 ⟨N, g1, hN9, rfl, hX1, hSa1, hE1⟩; have hXX1 := ExtS.back hE0 (Nat.le_refl _) hE1; have hz1 := Nat.le_trans hz0 hE1.2.2.2.1; have hma := Lib.hid (melody_det w.heap.size a1 L _ (by omega) hSa1)))
    | (go_at_call 7; go_loud ((with_reducible refine Calls.mono hma.out ?_); rw [hq2.out]; rintro e w2 ⟨v2, rfl, ho2, hSa2, hE2⟩; obtain ⟨p3, c3, rfl, hm2⟩ : ∃ p c, v2 = .slice p m.length c ∧ Slc 1 intC w2 p m.length c m := slc_of_own intC_len ho2 (by decide) hml9))) 
  have hXX2 := ExtS.back hXX1 (Nat.le_refl _) hE2
  have hX2 := (hX1.extS (show w.heap.size < _ by omega) hE2).m
  have hEa : Ext w2 (w2.alloc (.cells #[.slice p3 m.length c3] 22)) := (Ext.refl _).alloc _
  have hN : Blk (w2.alloc (.cells #[.slice p3 m.length c3] 22)) w2.heap.size 22 #[.slice p3 m.length c3] := Blk.new' rfl
  have hX3 := hX2.ext hEa
  have hm3 := hm2.ext hEa
  have hE3 := hXX2.trans hEa
  clear hva hma hE1 hE2 hX1 hSa1 hXX1 hXX2 hX2 hm2 ho2 hSa2 hz0 hz1 hE0 hEa
  generalize w2.alloc (.cells #[.slice p3 m.length c3] 22) = W at *
  generalize w2.heap.size = g5 at *
  have htw : ∀ u, Ext W u → Tab B u := fun u hu => ht.ext (hE3.trans hu)
  have hmf := fun u (hu : Ext W u) => melodyFault_any (hX3.ext hu) (hm3.ext hu)
  have hmm : m.length ≤ 10 := hmb.2
  replace htw := Lib.hid htw
  replace hX3 := Lib.hid hX3
  replace hm3 := Lib.hid hm3
  obtain ⟨y1, -⟩ := hN.walk
  have y2 := hN.lt
  by_cases h0 : ¬ melF X m = 0
  · have h0b : (melF X m == 0) = false := beq_false_of_ne h0
    replace hmf := Lib.hid hmf
    generalize melF X m = F at *
    go_wp2_with (first
      | (go_at_call 8; go_loud ((with_reducible refine Calls.mono (hmf.out _ (by exact Ext.refl _)) ?_); rintro e w4 ⟨rfl, hb4⟩))
      | (go_at_call 9; (with_reducible refine Calls.mono (ready_any B _ (htw.out _ hb4)) ?_); rintro e u9 ⟨rfl, hu9⟩))
    go_ret
    exact ⟨rfl, hE3.trans (hb4.trans hu9)⟩
  replace h0 : melF X m = 0 := Decidable.not_not.1 h0
  simp only [h0] at hmf
  have hnc := hnc0.out h0
  obtain ⟨hm0, -, hmr, hfd⟩ := mel_rest h0
  have hs0 := mel_steps h0
  have hX25 := steps_len hs0
  have hCR := (melC_right (m := m) hs0).1
  obtain ⟨K, hK⟩ : ∃ K, m.length = K + 1 := ⟨m.length - 1, by omega⟩
  have hCl : (melC X m).length = K := by rw [melC_len]; omega
  have hK1 : (m.length : Int) - 1 = (K : Int) := by omega
  have hKm : K < m.length := by omega
  have hKI : (K : Int) < m.length := by omega
  obtain ⟨-, ⟨-, e9⟩ | ⟨nb, noff, rfl, hnb, hEl⟩⟩ := slcC hm3.out
  · rw [e9] at hm0; simp at hm0
  have hen : ∀ u, Ext W u → Calls Tryz.prog 10 #[.slice (some ⟨g1, 0, none⟩) N N, .slice (some ⟨nb, noff, none⟩) m.length c3] u fun e w' => ∃ (q : Option Addr) (c : Nat) (T : List I4), e = .returned (.tuple #[.slice q T.length c, .int .i64 0]) ∧ Slc 4 i4C w' q T.length c T ∧ RiseI T ∧ (∀ x, x ∈ T ↔ Rch (melC X m) (melC X m).length x) ∧ T.length ≤ 20000 ∧ Ext u w' :=
    fun u hu => (ends_any (hX3.out.ext hu) (hm3.out.ext hu) (by omega)).mono fun e w' hp => ends_good hp h0 hnc
  have hho : ∀ u x, Ext W u → Rch (melC X m) (melC X m).length x → Calls Tryz.prog 11 #[.slice (some ⟨g1, 0, none⟩) N N, .slice (some ⟨nb, noff, none⟩) m.length c3, .agg #[.int .i64 x.a, .int .i64 x.b, .int .i64 x.c, .int .i64 x.d]] u fun e w' => ∃ (q : Option Addr) (c many : Nat), fewL x (melC X m) zeroI = some many ∧ e = .returned (.tuple #[.slice q (melC X m).length c, .int .i64 (many : Int), .bool true, .int .i64 0]) ∧ Slc 1 chC w' q (melC X m).length c (chooseL x (melC X m) zeroI many) ∧ Ext u w' :=
    fun u x hu hx => (hold_any (hX3.out.ext hu) (hm3.out.ext hu) (by omega) x).mono fun e w' hp => hold_good hp h0 hmm hnc hx
  have hdr : ∀ u, Ext W u → Calls Tryz.prog 16 #[.slice (some ⟨g1, 0, none⟩) N N, .slice (some ⟨nb, noff, none⟩) m.length c3] u fun e w' => Ext u w' ∧ ((∃ d : Int, (d == 0) = false ∧ e = .returned (.tuple #[.slice none 0 0, .int .i64 d])) ∨
      ∃ (q : Option Addr) (c : Nat) (D : List I4) (x : I4), e = .returned (.tuple #[.slice q m.length c, .int .i64 0]) ∧ Slc 4 i4C w' q m.length c D ∧ D[m.length - 1]? = some x ∧ Rch (melC X m) (melC X m).length x) :=
    fun u hu => (drift_any (hX3.out.ext hu) (hm3.out.ext hu) (by omega)).mono fun e w' hp => drift_good hp hmm hm0
  have hCk : ∀ k, k < K → ∃ y, findX X (gapAt m k) = some y ∧ (melC X m)[k]? = some y.cs ∧ ∃ j : Nat, X[j]? = some y := fun k hk => by
    obtain ⟨y, hy1, hy2⟩ := hfd k (by omega)
    exact ⟨y, hy1, melC_at (by omega) hy1, List.mem_iff_getElem?.1 hy2⟩
  rw [hCl] at hen hho hdr
  obtain ⟨C, hC⟩ : ∃ C, melC X m = C := ⟨_, rfl⟩
  rw [hC] at hen hho hdr hCk hCl hCR
  replace hmf := Lib.hid hmf
  replace hen := Lib.hid hen
  replace hho := Lib.hid hho
  replace hdr := Lib.hid hdr
  replace hCk := Lib.hid hCk
  replace hCl := Lib.hid hCl
  replace hCR := Lib.hid hCR
  replace hK := Lib.hid hK
  replace hmr := Lib.hid hmr
  clear h0 hnc hnc0 hfd hs0 hC
  go_upto_if 32 with (go_at_call 8; go_loud ((with_reducible refine Calls.mono (hmf.out _ (by exact Ext.refl _)) ?_); rintro e w4 ⟨rfl, hb4⟩))
  obtain ⟨y3, -⟩ := (hN.ext hb4).walk
  have y4 := (hN.ext hb4).lt
  go_upto_if 41 with (go_at_call 10; go_loud ((with_reducible refine Calls.mono (hen.out _ hb4) ?_); rintro e w5 ⟨p6, c6, T, rfl, hT, hri, hmem, hTl, hb5⟩))
  have hE5 := hb4.trans hb5
  have hN5 := hN.ext hE5
  have hTr : ∀ x ∈ T, Rch C K x := fun x hx => (hmem x).1 hx
  replace hT := Lib.hid hT
  replace hri := Lib.hid hri
  replace hmem := Lib.hid hmem
  replace hTr := Lib.hid hTr
  clear hmf hen y1 y2 y3 y4 hb4 hb5 hN
  generalize w5 = W5 at *
  go_wp2
  go_loopw [44] (fun v44 wr => ∃ i : Nat, v44 = .int .i64 i ∧ i ≤ T.length ∧ Ext W5 wr) (fun v44 _ => T.length - (intOf v44).toNat)
  case atStart => exact ⟨0, rfl, Nat.zero_le _, Ext.refl _⟩
  case round =>
    obtain ⟨i, rfl, hi, hE⟩ := hrel
    by_cases hlt : i < T.length
    · obtain ⟨x, hx⟩ := getD_some (rfl : T.length = T.length) hlt
      have hxR := hTr.out x (List.mem_of_getElem? hx)
      have hxr := rch_right hxR
      obtain ⟨-, ⟨-, e9⟩ | ⟨tb, toff, rfl, htb, hTe⟩⟩ := slcC hT.out
      · rw [e9] at hx; cases hx
      obtain ⟨c1, c2, c3', c4⟩ := (hTe.ext hE htb).iv hx
      have ltb := Nat.lt_of_lt_of_le htb hE.size
      have hiI : (i : Int) < T.length := by omega
      have hXx : Blk (wr.alloc (.cells #[.int .i64 x.a, .int .i64 x.b, .int .i64 x.c, .int .i64 x.d] 36)) wr.heap.size 36 #[.int .i64 x.a, .int .i64 x.b, .int .i64 x.c, .int .i64 x.d] := Blk.new' rfl
      have hEx : Ext wr (wr.alloc (.cells #[.int .i64 x.a, .int .i64 x.b, .int .i64 x.c, .int .i64 x.d] 36)) := (Ext.refl _).alloc _
      have hNx := (hN5.ext hE).ext hEx
      obtain ⟨y1, -⟩ := hNx.walk
      have y2 := hNx.lt
      replace hx := Lib.hid hx
      go_upto_region 12 with (go_at_call 11; go_loud ((with_reducible refine Calls.mono (hho.out _ x (hE5.trans (hE.trans hEx)) hxR) ?_); rintro e w6 ⟨p7, c7, many, hfw, rfl, hH, hb6⟩))
      have hE6 := hE.trans (hEx.trans hb6)
      have hX6 := hXx.ext hb6
      have hN6 := hNx.ext hb6
      have hF0 := Foll.start hfw
      generalize chooseL x C zeroI many = H at *
      clear hE hEx hXx hNx hb6 y1 y2 c1 c2 c3' c4 ltb hfw
      generalize wr.heap.size = gX at *
      generalize w6 = W6 at *
      obtain ⟨y1, -⟩ := hN6.walk
      have y2 := hN6.lt
      have hA0 : Blk (W6.alloc (.cells #[.int .i64 0, .int .i64 0, .int .i64 0, .int .i64 0] 36)) W6.heap.size 36 #[.int .i64 zeroI.a, .int .i64 zeroI.b, .int .i64 zeroI.c, .int .i64 zeroI.d] := Blk.new' rfl
      have hEA : Ext W6 (W6.alloc (.cells #[.int .i64 0, .int .i64 0, .int .i64 0, .int .i64 0] 36)) := (Ext.refl _).alloc _
      replace hF0 := Lib.hid hF0
      replace hA0 := Lib.hid hA0
      go_upto_region 15 with fail
      generalize W6.alloc (.cells #[.int .i64 0, .int .i64 0, .int .i64 0, .int .i64 0] 36) = W7 at *
      generalize hge : W6.heap.size = g14 at *
      have hg14 : W6.heap.size ≤ g14 := Nat.le_of_eq hge
      replace hge := Lib.hid hge
      go_wp2
      go_loopw [15, 75] (fun v15 v75 wr => ∃ (k few r : Nat) (at_ : I4), v75 = .int .i64 k ∧ v15 = .int .i64 few ∧ few ≤ k ∧ Foll x C H many k at_ few r ∧ Blk wr g14 36 #[.int .i64 at_.a, .int .i64 at_.b, .int .i64 at_.c, .int .i64 at_.d] ∧ Ext W6 wr) (fun _ v75 _ => K - (intOf v75).toNat)
      case atStart => exact ⟨0, 0, many, zeroI, rfl, rfl, Nat.le_refl _, hF0.out, hA0.out, hEA⟩
      case round =>
        clear hF0 hA0 hEA y1 y2
        obtain ⟨k, few, r, at_, rfl, rfl, hfk, hF, hA, hEk⟩ := hrel
        by_cases hlk : k < K
        · obtain ⟨y, hfx, hck, j0, hj0⟩ := hCk.out k hlk
          obtain ⟨nn, cc, r', hHk, hcn, hnl, hright, hfe, hF'⟩ := hF.step hck
          have hatr := hF.hr
          have hccr := hCR.out _ (List.mem_of_getElem? hck) cc (List.mem_of_getElem? hcn)
          obtain ⟨-, ⟨-, e9⟩ | ⟨hb, hoff, rfl, hhb, hHe⟩⟩ := slcC hH
          · rw [e9] at hHk; simp at hHk
          have e1 := (hHe.ext hEk hhb) k nn hHk 0 _ rfl
          simp only [Nat.mul_one, Nat.add_zero] at e1
          have lhb := Nat.lt_of_lt_of_le hhb hEk.size
          have hkI : (k : Int) < K := by omega
          have hEi : Ext wr (wr.alloc (.cells #[.int .i64 (k : Int)] 3)) := (Ext.refl _).alloc _
          have hI : Blk (wr.alloc (.cells #[.int .i64 (k : Int)] 3)) wr.heap.size 3 #[.int .i64 (k : Int)] := Blk.new' rfl
          have hEw7 : Ext W (wr.alloc (.cells #[.int .i64 (k : Int)] 3)) := hE5.trans (hE6.trans (hEk.trans hEi))
          have hN7 := hN6.ext (hEk.trans hEi)
          have hA7 := hA.ext hEi
          have hX7 := hX6.ext (hEk.trans hEi)
          have hq : StpQ2 (wr.alloc (.cells #[.int .i64 (k : Int)] 3)) g5 wr.heap.size nb noff c3 m k := ⟨hN7, hI, Nat.lt_of_lt_of_le hnb hEw7.size, hEl.ext hEw7 hnb, by omega, hmr.out⟩
          have hfi := stepIdx_any (hX3.out.ext hEw7) (by omega) (gapAt m k) (stepPred2 hq (by have := hK.out; omega)) (enters_of Tryz.func13 (by kernel_rfl) rfl)
          have hfi2 : Calls Tryz.prog 12 #[.slice (some ⟨g1, 0, none⟩) N N, .func (.func 13) #[] #[.pointer (some ⟨g5, 0, none⟩), .pointer (some ⟨wr.heap.size, 0, none⟩)]] (wr.alloc (.cells #[.int .i64 (k : Int)] 3)) fun e w' => (∃ j : Nat, X[j]? = some y ∧ e = .returned (.int .i64 (j : Int))) ∧ Ext (wr.alloc (.cells #[.int .i64 (k : Int)] 3)) w' := hfi.mono fun e w' ⟨h9, h8⟩ => ⟨by
            rcases h8 with ⟨h8, -⟩ | ⟨j, y', hj, -, h8, he⟩
            · rw [hfx] at h8; cases h8
            · rw [hfx] at h8; cases h8; exact ⟨j, hj, he⟩, h9⟩
          replace hfi2 := Lib.hid hfi2
          replace hF' := Lib.hid hF'
          replace hck := Lib.hid hck
          clear hfi hq hI hF hA hHk hfx hj0
          go_upto_region 19 with (go_at_call 12; go_loud ((with_reducible refine Calls.mono hfi2.out ?_); rintro e w8 ⟨⟨j, hj, rfl⟩, hb8⟩))
          obtain ⟨xb, xoff, xp, xd, hxe, hxb, -, d2, hS⟩ := hX3.out.at_ hj
          cases hxe
          simp only [Nat.zero_add] at d2
          have hEw8 := hEw7.trans hb8
          have z5 := (hEw8.walk.1 _ _ hxb).trans d2
          have lx := Nat.lt_of_lt_of_le hxb hEw8.size
          have hX9 : X.length = N := hX3.out.len
          have hj9 : j < N := by rw [← hX9]; exact (List.getElem?_eq_some_iff.1 hj).1
          have hjI : (j : Int) < N := by omega
          have hnI : (nn : Int) < y.cs.length := by omega
          obtain ⟨-, ⟨-, e9⟩ | ⟨qb, qoff, rfl, hqb, hQe⟩⟩ := slcC hS
          · rw [e9] at hcn; simp at hcn
          obtain ⟨v1, v2, v3, v4⟩ := (hQe.ext hEw8 hqb).iv hcn
          have lq := Nat.lt_of_lt_of_le hqb hEw8.size
          have hA8 := hA7.ext hb8
          have hE68 : Ext W6 w8 := hEk.trans (hEi.trans hb8)
          have hsum : ∀ u, Calls Tryz.prog 14 #[.agg #[.int .i64 at_.a, .int .i64 at_.b, .int .i64 at_.c, .int .i64 at_.d], .agg #[.int .i64 cc.a, .int .i64 cc.b, .int .i64 cc.c, .int .i64 cc.d]] u fun e w' => e = .returned (.tuple #[.agg #[.int .i64 (addI at_ cc).a, .int .i64 (addI at_ cc).b, .int .i64 (addI at_ cc).c, .int .i64 (addI at_ cc).d], .int .i64 0]) ∧ Ext u w' := fun u => by
            have h9 := sum1_any at_ cc u (both_is hatr hccr)
            rw [okI_is hright, show faultI (addI at_ cc) = 0 by unfold faultI; rw [hright]; rfl] at h9
            exact h9
          replace hsum := Lib.hid hsum
          replace hS := Lib.hid hS
          replace hX9 := Lib.hid hX9
          clear hEi hEw7 hN7 hA7 hX7 hfi2 hb8 hj d2 hcn e1
          generalize addI at_ cc = nx at *
          go_upto_region 21 with fail
          refine wp_region_facts [12] [([], false, false), ([], false, false), ([], false, false), ([1, 2], false, false), ([1, 2, 3], false, false), ([1, 2, 3, 4], false, false), ([], false, false), ([1, 2, 3, 4, 5, 6], false, false), ([1, 2, 3, 4, 5, 6, 7], false, false), ([0, 1, 2, 3, 4, 5, 6, 7, 8], false, false), ([0, 1, 2, 3, 4, 5, 6, 7, 8, 9], false, false), ([0, 1, 2, 3, 4, 5, 6, 7, 8, 9, 10], false, false), ([0, 1, 2, 3, 4, 5, 6, 7, 8, 9, 10], false, false)] (Ext) Ext (fun _ => True) (by kernel_rfl) (by kernel_rfl) Ext.refl (fun _ _ _ => Ext.trans) (fun _ _ h => h) (fun _ _ h => h.size) (fun _ _ h _ => h) trivial ?_
          dsimp only [List.length_cons, List.length_nil, List.drop_succ_cons, List.drop_zero, List.drop_nil]
          refine fac_quiet 0 rfl rfl rfl (fun _ _ h _ => h) rfl rfl ?_
          apply Exists.intro
          refine ⟨fun sv w' hw' hfa => ?_, ?_⟩
          · have hk9 := (Ext.refl w8).drew.trans hw'; obtain ⟨y1, -⟩ := (hA8.ext hk9).walk; have z6 := (hk9.walk.1 _ _ lx).trans z5; have z1 := (hk9.walk.1 _ _ lq).trans v1; have z2 := (hk9.walk.1 _ _ lq).trans v2; have z3 := (hk9.walk.1 _ _ lq).trans v3; have z4 := (hk9.walk.1 _ _ lq).trans v4
            refine ⟨rfl, ?_⟩
            simp only [putsL]
            change quietTo _ _ _ _ (Sem.run _ (execOp (Act.eval _) _) _)
            try simp only [Act.put, List.setIfInBounds_toArray, List.set_cons_succ, List.set_cons_zero]
            simp [go_sem, quietTo, Ext.refl, ↓IntWalk.iteOmega, y1]
            all_goals try simp (disch := omega) only [IntWalk.i64_in]
            all_goals first
              | rfl
          refine fac_quiet 1 rfl rfl rfl (fun _ _ h _ => h) rfl rfl ?_
          apply Exists.intro
          refine ⟨fun sv w' hw' hfa => ?_, ?_⟩
          · refine ⟨rfl, ?_⟩
            simp only [putsL]
            change quietTo _ _ _ _ (Sem.run _ (execOp (Act.eval _) _) _)
            try simp only [Act.put, List.setIfInBounds_toArray, List.set_cons_succ, List.set_cons_zero]
            simp [go_sem, quietTo, Ext.refl]
            all_goals first
              | rfl
          refine fac_quiet 2 rfl rfl rfl (fun _ _ h _ => h) rfl rfl ?_
          apply Exists.intro
          refine ⟨fun sv w' hw' hfa => ?_, ?_⟩
          · refine ⟨rfl, ?_⟩
            simp only [putsL]
            change quietTo _ _ _ _ (Sem.run _ (execOp (Act.eval _) _) _)
            try simp only [Act.put, List.setIfInBounds_toArray, List.set_cons_succ, List.set_cons_zero]
            simp [go_sem, quietTo, Ext.refl]
            all_goals first
              | rfl
          refine fac_quiet 3 rfl rfl rfl (fun _ _ h _ => h) rfl rfl ?_
          apply Exists.intro
          refine ⟨fun sv w' hw' hfa => ?_, ?_⟩
          · obtain ⟨f1, f2, -⟩ := hfa
            replace f1 : sv 1 = _ := f1
            try dsimp only at f1
            replace f2 : sv 2 = _ := f2
            try dsimp only at f2
            have hk9 := (Ext.refl w8).drew.trans hw'; obtain ⟨y1, -⟩ := (hA8.ext hk9).walk; have z6 := (hk9.walk.1 _ _ lx).trans z5; have z1 := (hk9.walk.1 _ _ lq).trans v1; have z2 := (hk9.walk.1 _ _ lq).trans v2; have z3 := (hk9.walk.1 _ _ lq).trans v3; have z4 := (hk9.walk.1 _ _ lq).trans v4
            refine ⟨rfl, ?_⟩
            simp only [putsL]
            change quietTo _ _ _ _ (Sem.run _ (execOp (Act.eval (Act.put (Act.put _ (some 102) (sv 2)) (some 101) (sv 1))) _) _)
            try simp only [Act.put, List.setIfInBounds_toArray, List.set_cons_succ, List.set_cons_zero]
            simp [go_sem, quietTo, Ext.refl, ↓IntWalk.iteOmega, f1, f2, hjI]
            all_goals try simp (disch := omega) only [IntWalk.i64_in]
            all_goals first
              | rfl
          refine fac_quiet 4 rfl rfl rfl (fun _ _ h _ => h) rfl rfl ?_
          apply Exists.intro
          refine ⟨fun sv w' hw' hfa => ?_, ?_⟩
          · obtain ⟨_, _, f3, -⟩ := hfa
            replace f3 : sv 3 = _ := f3
            try dsimp only at f3
            refine ⟨rfl, ?_⟩
            simp only [putsL]
            change quietTo _ _ _ _ (Sem.run _ (execOp (Act.eval (Act.put (Act.put (Act.put _ (some 103) (sv 3)) (some 102) (sv 2)) (some 101) (sv 1))) _) _)
            try simp only [Act.put, List.setIfInBounds_toArray, List.set_cons_succ, List.set_cons_zero]
            simp [go_sem, quietTo, Ext.refl, f3]
            all_goals first
              | rfl
          refine fac_quiet 5 rfl rfl rfl (fun _ _ h _ => h) rfl rfl ?_
          apply Exists.intro
          refine ⟨fun sv w' hw' hfa => ?_, ?_⟩
          · obtain ⟨_, _, _, f4, -⟩ := hfa
            replace f4 : sv 4 = _ := f4
            try dsimp only at f4
            have hk9 := (Ext.refl w8).drew.trans hw'; obtain ⟨y1, -⟩ := (hA8.ext hk9).walk; have z6 := (hk9.walk.1 _ _ lx).trans z5; have z1 := (hk9.walk.1 _ _ lq).trans v1; have z2 := (hk9.walk.1 _ _ lq).trans v2; have z3 := (hk9.walk.1 _ _ lq).trans v3; have z4 := (hk9.walk.1 _ _ lq).trans v4
            refine ⟨rfl, ?_⟩
            simp only [putsL]
            change quietTo _ _ _ _ (Sem.run _ (execOp (Act.eval (Act.put (Act.put (Act.put (Act.put _ (some 104) (sv 4)) (some 103) (sv 3)) (some 102) (sv 2)) (some 101) (sv 1))) _) _)
            try simp only [Act.put, List.setIfInBounds_toArray, List.set_cons_succ, List.set_cons_zero]
            simp [go_sem, quietTo, Ext.refl, ↓IntWalk.iteOmega, f4, z6]
            all_goals try simp (disch := omega) only [IntWalk.i64_in]
            all_goals first
              | rfl
          refine fac_quiet 6 rfl rfl rfl (fun _ _ h _ => h) rfl rfl ?_
          apply Exists.intro
          refine ⟨fun sv w' hw' hfa => ?_, ?_⟩
          · refine ⟨rfl, ?_⟩
            simp only [putsL]
            change quietTo _ _ _ _ (Sem.run _ (execOp (Act.eval _) _) _)
            try simp only [Act.put, List.setIfInBounds_toArray, List.set_cons_succ, List.set_cons_zero]
            simp [go_sem, quietTo, Ext.refl]
            all_goals first
              | rfl
          refine fac_quiet 7 rfl rfl rfl (fun _ _ h _ => h) rfl rfl ?_
          apply Exists.intro
          refine ⟨fun sv w' hw' hfa => ?_, ?_⟩
          · obtain ⟨_, _, _, _, f5, f6, -⟩ := hfa
            replace f5 : sv 5 = _ := f5
            try dsimp only at f5
            replace f6 : sv 6 = _ := f6
            try dsimp only at f6
            have hk9 := (Ext.refl w8).drew.trans hw'; obtain ⟨y1, -⟩ := (hA8.ext hk9).walk; have z6 := (hk9.walk.1 _ _ lx).trans z5; have z1 := (hk9.walk.1 _ _ lq).trans v1; have z2 := (hk9.walk.1 _ _ lq).trans v2; have z3 := (hk9.walk.1 _ _ lq).trans v3; have z4 := (hk9.walk.1 _ _ lq).trans v4
            refine ⟨rfl, ?_⟩
            simp only [putsL]
            change quietTo _ _ _ _ (Sem.run _ (execOp (Act.eval (Act.put (Act.put (Act.put (Act.put (Act.put (Act.put _ (some 106) (sv 6)) (some 105) (sv 5)) (some 104) (sv 4)) (some 103) (sv 3)) (some 102) (sv 2)) (some 101) (sv 1))) _) _)
            try simp only [Act.put, List.setIfInBounds_toArray, List.set_cons_succ, List.set_cons_zero]
            simp [go_sem, quietTo, Ext.refl, ↓IntWalk.iteOmega, f5, f6, hnI]
            all_goals try simp (disch := omega) only [IntWalk.i64_in]
            all_goals first
              | rfl
          refine fac_quiet 8 rfl rfl rfl (fun _ _ h _ => h) rfl rfl ?_
          apply Exists.intro
          refine ⟨fun sv w' hw' hfa => ?_, ?_⟩
          · obtain ⟨_, _, _, _, _, _, f7, -⟩ := hfa
            replace f7 : sv 7 = _ := f7
            try dsimp only at f7
            have hk9 := (Ext.refl w8).drew.trans hw'; obtain ⟨y1, -⟩ := (hA8.ext hk9).walk; have z6 := (hk9.walk.1 _ _ lx).trans z5; have z1 := (hk9.walk.1 _ _ lq).trans v1; have z2 := (hk9.walk.1 _ _ lq).trans v2; have z3 := (hk9.walk.1 _ _ lq).trans v3; have z4 := (hk9.walk.1 _ _ lq).trans v4
            refine ⟨rfl, ?_⟩
            simp only [putsL]
            change quietTo _ _ _ _ (Sem.run _ (execOp (Act.eval (Act.put (Act.put (Act.put (Act.put (Act.put (Act.put (Act.put _ (some 107) (sv 7)) (some 106) (sv 6)) (some 105) (sv 5)) (some 104) (sv 4)) (some 103) (sv 3)) (some 102) (sv 2)) (some 101) (sv 1))) _) _)
            try simp only [Act.put, List.setIfInBounds_toArray, List.set_cons_succ, List.set_cons_zero]
            simp [go_sem, quietTo, Ext.refl, ↓IntWalk.iteOmega, f7, z1, z2, z3, z4]
            all_goals try simp (disch := omega) only [IntWalk.i64_in]
            all_goals first
              | rfl
          refine fac_quiet 9 rfl rfl rfl (fun _ _ h _ => h) rfl rfl ?_
          apply Exists.intro
          refine ⟨fun sv w' hw' hfa => ?_, ?_⟩
          · obtain ⟨f0, f1, f2, f3, f4, f5, f6, f7, f8, -⟩ := hfa
            replace f0 : sv 0 = _ := f0
            try dsimp only at f0
            replace f1 : sv 1 = _ := f1
            try dsimp only at f1
            replace f2 : sv 2 = _ := f2
            try dsimp only at f2
            replace f3 : sv 3 = _ := f3
            try dsimp only at f3
            replace f4 : sv 4 = _ := f4
            try dsimp only at f4
            replace f5 : sv 5 = _ := f5
            try dsimp only at f5
            replace f6 : sv 6 = _ := f6
            try dsimp only at f6
            replace f7 : sv 7 = _ := f7
            try dsimp only at f7
            replace f8 : sv 8 = _ := f8
            try dsimp only at f8
            have hk9 := (Ext.refl w8).drew.trans hw'; obtain ⟨y1, -⟩ := (hA8.ext hk9).walk; have z6 := (hk9.walk.1 _ _ lx).trans z5; have z1 := (hk9.walk.1 _ _ lq).trans v1; have z2 := (hk9.walk.1 _ _ lq).trans v2; have z3 := (hk9.walk.1 _ _ lq).trans v3; have z4 := (hk9.walk.1 _ _ lq).trans v4
            refine ⟨rfl, ?_⟩
            simp only [putsL]
            change quietTo _ _ _ _ (Sem.run _ (execOp (Act.eval (Act.put (Act.put (Act.put (Act.put (Act.put (Act.put (Act.put (Act.put (Act.put _ (some 108) (sv 8)) (some 107) (sv 7)) (some 106) (sv 6)) (some 105) (sv 5)) (some 104) (sv 4)) (some 103) (sv 3)) (some 102) (sv 2)) (some 101) (sv 1)) (some 100) (sv 0))) _) _)
            try simp only [Act.put, List.setIfInBounds_toArray, List.set_cons_succ, List.set_cons_zero]
            simp [go_sem, quietTo, Ext.refl, ↓IntWalk.iteOmega, f0, f8]
            all_goals try simp (disch := omega) only [IntWalk.i64_in]
            all_goals first
              | rfl
              | (exact hsum.out _)
          refine fac_quiet 10 rfl rfl rfl (fun _ _ h _ => h) rfl rfl ?_
          apply Exists.intro
          refine ⟨fun sv w' hw' hfa => ?_, ?_⟩
          · obtain ⟨_, _, _, _, _, _, _, _, _, f9, -⟩ := hfa
            replace f9 : sv 9 = _ := f9
            try dsimp only at f9
            refine ⟨rfl, ?_⟩
            simp only [putsL]
            change quietTo _ _ _ _ (Sem.run _ (execOp (Act.eval (Act.put (Act.put (Act.put (Act.put (Act.put (Act.put (Act.put (Act.put (Act.put (Act.put _ (some 109) (sv 9)) (some 108) (sv 8)) (some 107) (sv 7)) (some 106) (sv 6)) (some 105) (sv 5)) (some 104) (sv 4)) (some 103) (sv 3)) (some 102) (sv 2)) (some 101) (sv 1)) (some 100) (sv 0))) _) _)
            try simp only [Act.put, List.setIfInBounds_toArray, List.set_cons_succ, List.set_cons_zero]
            simp [go_sem, quietTo, Ext.refl, f9]
            all_goals first
              | rfl
          refine fac_quiet 11 rfl rfl rfl (fun _ _ h _ => h) rfl rfl ?_
          apply Exists.intro
          refine ⟨fun sv w' hw' hfa => ?_, ?_⟩
          · obtain ⟨_, _, _, _, _, _, _, _, _, _, f10, -⟩ := hfa
            replace f10 : sv 10 = _ := f10
            try dsimp only at f10
            refine ⟨rfl, ?_⟩
            simp only [putsL]
            change quietTo _ _ _ _ (Sem.run _ (execOp (Act.eval (Act.put (Act.put (Act.put (Act.put (Act.put (Act.put (Act.put (Act.put (Act.put (Act.put (Act.put _ (some 99) (sv 10)) (some 109) (sv 9)) (some 108) (sv 8)) (some 107) (sv 7)) (some 106) (sv 6)) (some 105) (sv 5)) (some 104) (sv 4)) (some 103) (sv 3)) (some 102) (sv 2)) (some 101) (sv 1)) (some 100) (sv 0))) _) _)
            try simp only [Act.put, List.setIfInBounds_toArray, List.set_cons_succ, List.set_cons_zero]
            simp [go_sem, quietTo, Ext.refl, f10]
            all_goals first
              | rfl
          refine fac_late 12 rfl rfl Ext.refl (fun _ _ h _ => h) rfl rfl (fun _ _ _ _ h => h) ?_
          apply Exists.intro
          refine ⟨fun sv w' hw' hfa => ?_, ?_⟩
          · obtain ⟨_, _, _, _, _, _, _, _, _, _, f10, -⟩ := hfa
            replace f10 : sv 10 = _ := f10
            try dsimp only at f10
            refine ⟨rfl, fun w2 => ?_⟩
            simp only [putsL]
            change pureTo _ _ (Sem.run _ (execOp (Act.eval (Act.put (Act.put (Act.put (Act.put (Act.put (Act.put (Act.put (Act.put (Act.put (Act.put (Act.put _ (some 99) (sv 10)) (some 109) (sv 9)) (some 108) (sv 8)) (some 107) (sv 7)) (some 106) (sv 6)) (some 105) (sv 5)) (some 104) (sv 4)) (some 103) (sv 3)) (some 102) (sv 2)) (some 101) (sv 1)) (some 100) (sv 0))) _) _)
            try simp only [Act.put, List.setIfInBounds_toArray, List.set_cons_succ, List.set_cons_zero]
            simp [go_sem, pureTo, f10]
            all_goals try simp (disch := omega) only [IntWalk.i64_in]
            all_goals first
              | rfl
          refine fac_nil fun xq wrq herq hfrq hcrq holdq hapq => ?_
          obtain ⟨f0, f1, f2, f3, f4, f5, f6, f7, f8, f9, f10, f11, f12, -⟩ := hfrq
          replace f0 : xq 0 = _ := f0
          try dsimp only at f0
          replace f1 : xq 1 = _ := f1
          try dsimp only at f1
          replace f2 : xq 2 = _ := f2
          try dsimp only at f2
          replace f3 : xq 3 = _ := f3
          try dsimp only at f3
          replace f4 : xq 4 = _ := f4
          try dsimp only at f4
          replace f5 : xq 5 = _ := f5
          try dsimp only at f5
          replace f6 : xq 6 = _ := f6
          try dsimp only at f6
          replace f7 : xq 7 = _ := f7
          try dsimp only at f7
          replace f8 : xq 8 = _ := f8
          try dsimp only at f8
          replace f9 : xq 9 = _ := f9
          try dsimp only at f9
          replace f10 : xq 10 = _ := f10
          try dsimp only at f10
          replace f11 : xq 11 = _ := f11
          try dsimp only at f11
          replace f12 : xq 12 = _ := f12
          try dsimp only at f12
          change wpList _ _ _ _ (Act.put (Act.put (Act.put (Act.put (Act.put (Act.put (Act.put (Act.put (Act.put (Act.put (Act.put (Act.put (Act.put _ (some 100) (xq 0)) (some 101) (xq 1)) (some 102) (xq 2)) (some 103) (xq 3)) (some 104) (xq 4)) (some 105) (xq 5)) (some 106) (xq 6)) (some 107) (xq 7)) (some 108) (xq 8)) (some 109) (xq 9)) (some 99) (xq 10)) (some 110) (xq 11)) (some 111) (xq 12)) _
          simp only [putsL, Nat.reduceAdd, List.drop_succ_cons, List.drop_zero, List.drop_nil, Act.put, List.setIfInBounds_toArray, List.set_cons_succ, List.set_cons_zero]
          try simp only [f0, f1, f2, f3, f4, f5, f6, f7, f8, f9, f10, f11, f12]
          clear f0 f1 f2 f3 f4 f5 f6 f7 f8 f9 f10 f11 f12
          clear holdq hapq
          have hkq := (Ext.refl w8).drew.trans herq
          have hAq := hA8.ext hkq
          have hEq := hE68.trans hkq
          obtain ⟨u1, u2⟩ := hAq.walk
          have u3 := hAq.lt
          have hA4 := ((((hAq.set_ 0 (.int .i64 nx.a)).set_ 1 (.int .i64 nx.b)).set_ 2 (.int .i64 nx.c)).set_ 3 (.int .i64 nx.d)).cast (cs' := #[.int .i64 nx.a, .int .i64 nx.b, .int .i64 nx.c, .int .i64 nx.d]) (by simp)
          have hE4 := (((hEq.setCell (p := ⟨g14, 0, none⟩) hg14 (.int .i64 nx.a)).setCell (p := ⟨g14, 1, none⟩) hg14 (.int .i64 nx.b)).setCell (p := ⟨g14, 2, none⟩) hg14 (.int .i64 nx.c)).setCell (p := ⟨g14, 3, none⟩) hg14 (.int .i64 nx.d)
          clear herq hkq hAq hEq hA8 z5 v1 v2 v3 v4 hE68
          replace hA4 := Lib.hid hA4
          by_cases hn0 : nn = 0
          · subst hn0
            go_wp2
            go_roundw
            case rel => exact ⟨k + 1, few, r', nx, by go_num, rfl, by omega, hF'.out, hA4.out, hE4⟩
            case measure => simp [intOf]; omega
          · have hn0I : (0 : Int) < nn := by omega
            have hmin : min nn 1 = 1 := by omega
            have hF2 := hF'.out
            rw [hmin] at hF2
            replace hF2 := Lib.hid hF2
            clear hF' hmin hfe
            go_wp2
            go_roundw
            case rel => exact ⟨k + 1, few + 1, r', nx, by go_num, by go_num, by omega, hF2.out, hA4.out, hE4⟩
            case measure => simp [intOf]; omega
        · obtain rfl : K = k := by have := hF.hk; have := hCl.out; omega
          have hF9 := hF
          rw [show K = C.length from hCl.out.symm] at hF9
          obtain ⟨ea, eb⟩ := hF9.done
          subst ea
          subst eb
          obtain ⟨u1, -⟩ := hA.walk
          have u2 := hA.lt
          obtain ⟨u3, -⟩ := (hX6.ext hEk).walk
          have u4 := (hX6.ext hEk).lt
          have hEall := hE6.trans hEk
          obtain ⟨c1, c2, c3', c4⟩ : wr.heap.size = wr.heap.size ∧ True ∧ True ∧ True := ⟨rfl, trivial, trivial, trivial⟩
          clear hF9 c1 c2 c3' c4
          cases i with
          | zero =>
            go_wp2
            go_roundw
            case rel => exact ⟨0 + 1, by go_num, by omega, hEall⟩
            case measure => simp [intOf]; omega
          | succ i =>
            obtain ⟨xv, hxv⟩ := getD_some (rfl : T.length = T.length) (show i < T.length by omega)
            have hneg := rise_step hri.out hxv hx.out
            have hxvr := rch_right (hTr.out xv (List.mem_of_getElem? hxv))
            have hcmp := fun u => com1_any xv at_ u (both_is hxvr hxr) hxvr hxr
            obtain ⟨d1, d2, d3, d4⟩ := (hTe.ext hEall htb).iv hxv
            have ltb := Nat.lt_of_lt_of_le htb hEall.size
            have hiI2 : (i : Int) < T.length := by omega
            have hXk := hX6.ext hEk
            generalize cmpI xv at_ = cv at *
            replace hcmp := Lib.hid hcmp
            go_upto_region 30 with fail
            refine wp_region_facts [9] [([], false, false), ([], false, false), ([1], false, false), ([0, 1, 2], false, false), ([0, 1, 2, 3], false, false), ([], false, false), ([0, 1, 2, 3, 4, 5], false, false), ([0, 1, 2, 3, 4, 5, 6], false, false), ([0, 1, 2, 3, 4, 5, 6, 7], false, false), ([0, 1, 2, 3, 4, 5, 6, 7], false, false)] (Ext) Ext (fun _ => True) (by kernel_rfl) (by kernel_rfl) Ext.refl (fun _ _ _ => Ext.trans) (fun _ _ h => h) (fun _ _ h => h.size) (fun _ _ h _ => h) trivial ?_
            dsimp only [List.length_cons, List.length_nil, List.drop_succ_cons, List.drop_zero, List.drop_nil]
            refine fac_quiet 0 rfl rfl rfl (fun _ _ h _ => h) rfl rfl ?_
            apply Exists.intro
            refine ⟨fun sv w' hw' hfa => ?_, ?_⟩
            · refine ⟨rfl, ?_⟩
              simp only [putsL]
              change quietTo _ _ _ _ (Sem.run _ (execOp (Act.eval _) _) _)
              try simp only [Act.put, List.setIfInBounds_toArray, List.set_cons_succ, List.set_cons_zero]
              simp [go_sem, quietTo, Ext.refl]
              all_goals first
                | rfl
            refine fac_quiet 1 rfl rfl rfl (fun _ _ h _ => h) rfl rfl ?_
            apply Exists.intro
            refine ⟨fun sv w' hw' hfa => ?_, ?_⟩
            · refine ⟨rfl, ?_⟩
              simp only [putsL]
              change quietTo _ _ _ _ (Sem.run _ (execOp (Act.eval _) _) _)
              try simp only [Act.put, List.setIfInBounds_toArray, List.set_cons_succ, List.set_cons_zero]
              simp [go_sem, quietTo, Ext.refl]
              all_goals first
                | rfl
            refine fac_quiet 2 rfl rfl rfl (fun _ _ h _ => h) rfl rfl ?_
            apply Exists.intro
            refine ⟨fun sv w' hw' hfa => ?_, ?_⟩
            · obtain ⟨f1, -⟩ := hfa
              replace f1 : sv 1 = _ := f1
              try dsimp only at f1
              refine ⟨rfl, ?_⟩
              simp only [putsL]
              change quietTo _ _ _ _ (Sem.run _ (execOp (Act.eval (Act.put _ (some 131) (sv 1))) _) _)
              try simp only [Act.put, List.setIfInBounds_toArray, List.set_cons_succ, List.set_cons_zero]
              simp [go_sem, quietTo, Ext.refl, ↓IntWalk.iteOmega, f1]
              all_goals try simp (disch := omega) only [IntWalk.i64_in]
              all_goals first
                | rfl
            refine fac_quiet 3 rfl rfl rfl (fun _ _ h _ => h) rfl rfl ?_
            apply Exists.intro
            refine ⟨fun sv w' hw' hfa => ?_, ?_⟩
            · obtain ⟨f0, _, f2, -⟩ := hfa
              replace f0 : sv 0 = _ := f0
              try dsimp only at f0
              replace f2 : sv 2 = _ := f2
              try dsimp only at f2
              have hk9 := (Ext.refl wr).drew.trans hw'; obtain ⟨y1, -⟩ := (hXk.ext hk9).walk; have z1 := (hk9.walk.1 _ _ ltb).trans d1; have z2 := (hk9.walk.1 _ _ ltb).trans d2; have z3 := (hk9.walk.1 _ _ ltb).trans d3; have z4 := (hk9.walk.1 _ _ ltb).trans d4
              refine ⟨rfl, ?_⟩
              simp only [putsL]
              change quietTo _ _ _ _ (Sem.run _ (execOp (Act.eval (Act.put (Act.put (Act.put _ (some 132) (sv 2)) (some 131) (sv 1)) (some 130) (sv 0))) _) _)
              try simp only [Act.put, List.setIfInBounds_toArray, List.set_cons_succ, List.set_cons_zero]
              simp [go_sem, quietTo, Ext.refl, ↓IntWalk.iteOmega, f0, f2, hiI2]
              all_goals try simp (disch := omega) only [IntWalk.i64_in]
              all_goals first
                | rfl
            refine fac_quiet 4 rfl rfl rfl (fun _ _ h _ => h) rfl rfl ?_
            apply Exists.intro
            refine ⟨fun sv w' hw' hfa => ?_, ?_⟩
            · obtain ⟨_, _, _, f3, -⟩ := hfa
              replace f3 : sv 3 = _ := f3
              try dsimp only at f3
              have hk9 := (Ext.refl wr).drew.trans hw'; obtain ⟨y1, -⟩ := (hXk.ext hk9).walk; have z1 := (hk9.walk.1 _ _ ltb).trans d1; have z2 := (hk9.walk.1 _ _ ltb).trans d2; have z3 := (hk9.walk.1 _ _ ltb).trans d3; have z4 := (hk9.walk.1 _ _ ltb).trans d4
              refine ⟨rfl, ?_⟩
              simp only [putsL]
              change quietTo _ _ _ _ (Sem.run _ (execOp (Act.eval (Act.put (Act.put (Act.put (Act.put _ (some 133) (sv 3)) (some 132) (sv 2)) (some 131) (sv 1)) (some 130) (sv 0))) _) _)
              try simp only [Act.put, List.setIfInBounds_toArray, List.set_cons_succ, List.set_cons_zero]
              simp [go_sem, quietTo, Ext.refl, ↓IntWalk.iteOmega, f3, z1, z2, z3, z4]
              all_goals try simp (disch := omega) only [IntWalk.i64_in]
              all_goals first
                | rfl
            refine fac_quiet 5 rfl rfl rfl (fun _ _ h _ => h) rfl rfl ?_
            apply Exists.intro
            refine ⟨fun sv w' hw' hfa => ?_, ?_⟩
            · have hk9 := (Ext.refl wr).drew.trans hw'; obtain ⟨y1, -⟩ := (hXk.ext hk9).walk; have z1 := (hk9.walk.1 _ _ ltb).trans d1; have z2 := (hk9.walk.1 _ _ ltb).trans d2; have z3 := (hk9.walk.1 _ _ ltb).trans d3; have z4 := (hk9.walk.1 _ _ ltb).trans d4
              refine ⟨rfl, ?_⟩
              simp only [putsL]
              change quietTo _ _ _ _ (Sem.run _ (execOp (Act.eval _) _) _)
              try simp only [Act.put, List.setIfInBounds_toArray, List.set_cons_succ, List.set_cons_zero]
              simp [go_sem, quietTo, Ext.refl, ↓IntWalk.iteOmega, y1]
              all_goals try simp (disch := omega) only [IntWalk.i64_in]
              all_goals first
                | rfl
            refine fac_quiet 6 rfl rfl rfl (fun _ _ h _ => h) rfl rfl ?_
            apply Exists.intro
            refine ⟨fun sv w' hw' hfa => ?_, ?_⟩
            · obtain ⟨f0, f1, f2, f3, f4, f5, -⟩ := hfa
              replace f0 : sv 0 = _ := f0
              try dsimp only at f0
              replace f1 : sv 1 = _ := f1
              try dsimp only at f1
              replace f2 : sv 2 = _ := f2
              try dsimp only at f2
              replace f3 : sv 3 = _ := f3
              try dsimp only at f3
              replace f4 : sv 4 = _ := f4
              try dsimp only at f4
              replace f5 : sv 5 = _ := f5
              try dsimp only at f5
              have hk9 := (Ext.refl wr).drew.trans hw'; obtain ⟨y1, -⟩ := (hXk.ext hk9).walk; have z1 := (hk9.walk.1 _ _ ltb).trans d1; have z2 := (hk9.walk.1 _ _ ltb).trans d2; have z3 := (hk9.walk.1 _ _ ltb).trans d3; have z4 := (hk9.walk.1 _ _ ltb).trans d4
              refine ⟨rfl, ?_⟩
              simp only [putsL]
              change quietTo _ _ _ _ (Sem.run _ (execOp (Act.eval (Act.put (Act.put (Act.put (Act.put (Act.put (Act.put _ (some 135) (sv 5)) (some 134) (sv 4)) (some 133) (sv 3)) (some 132) (sv 2)) (some 131) (sv 1)) (some 130) (sv 0))) _) _)
              try simp only [Act.put, List.setIfInBounds_toArray, List.set_cons_succ, List.set_cons_zero]
              simp [go_sem, quietTo, Ext.refl, ↓IntWalk.iteOmega, f4, f5]
              all_goals try simp (disch := omega) only [IntWalk.i64_in]
              all_goals first
                | rfl
                | (exact hcmp.out _)
            refine fac_quiet 7 rfl rfl rfl (fun _ _ h _ => h) rfl rfl ?_
            apply Exists.intro
            refine ⟨fun sv w' hw' hfa => ?_, ?_⟩
            · obtain ⟨_, _, _, _, _, _, f6, -⟩ := hfa
              replace f6 : sv 6 = _ := f6
              try dsimp only at f6
              refine ⟨rfl, ?_⟩
              simp only [putsL]
              change quietTo _ _ _ _ (Sem.run _ (execOp (Act.eval (Act.put (Act.put (Act.put (Act.put (Act.put (Act.put (Act.put _ (some 136) (sv 6)) (some 135) (sv 5)) (some 134) (sv 4)) (some 133) (sv 3)) (some 132) (sv 2)) (some 131) (sv 1)) (some 130) (sv 0))) _) _)
              try simp only [Act.put, List.setIfInBounds_toArray, List.set_cons_succ, List.set_cons_zero]
              simp [go_sem, quietTo, Ext.refl, f6]
              all_goals first
                | rfl
            refine fac_quiet 8 rfl rfl rfl (fun _ _ h _ => h) rfl rfl ?_
            apply Exists.intro
            refine ⟨fun sv w' hw' hfa => ?_, ?_⟩
            · obtain ⟨_, _, _, _, _, _, _, f7, -⟩ := hfa
              replace f7 : sv 7 = _ := f7
              try dsimp only at f7
              refine ⟨rfl, ?_⟩
              simp only [putsL]
              change quietTo _ _ _ _ (Sem.run _ (execOp (Act.eval (Act.put (Act.put (Act.put (Act.put (Act.put (Act.put (Act.put (Act.put _ (some 129) (sv 7)) (some 136) (sv 6)) (some 135) (sv 5)) (some 134) (sv 4)) (some 133) (sv 3)) (some 132) (sv 2)) (some 131) (sv 1)) (some 130) (sv 0))) _) _)
              try simp only [Act.put, List.setIfInBounds_toArray, List.set_cons_succ, List.set_cons_zero]
              simp [go_sem, quietTo, Ext.refl, f7]
              all_goals first
                | rfl
            refine fac_late 9 rfl rfl Ext.refl (fun _ _ h _ => h) rfl rfl (fun _ _ _ _ h => h) ?_
            apply Exists.intro
            refine ⟨fun sv w' hw' hfa => ?_, ?_⟩
            · obtain ⟨_, _, _, _, _, _, _, f7, -⟩ := hfa
              replace f7 : sv 7 = _ := f7
              try dsimp only at f7
              refine ⟨rfl, fun w2 => ?_⟩
              simp only [putsL]
              change pureTo _ _ (Sem.run _ (execOp (Act.eval (Act.put (Act.put (Act.put (Act.put (Act.put (Act.put (Act.put (Act.put _ (some 129) (sv 7)) (some 136) (sv 6)) (some 135) (sv 5)) (some 134) (sv 4)) (some 133) (sv 3)) (some 132) (sv 2)) (some 131) (sv 1)) (some 130) (sv 0))) _) _)
              try simp only [Act.put, List.setIfInBounds_toArray, List.set_cons_succ, List.set_cons_zero]
              simp [go_sem, pureTo, f7]
              all_goals try simp (disch := omega) only [IntWalk.i64_in]
              all_goals first
                | rfl
            refine fac_nil fun xq wrq herq hfrq hcrq holdq hapq => ?_
            obtain ⟨f0, f1, f2, f3, f4, f5, f6, f7, f8, f9, -⟩ := hfrq
            replace f0 : xq 0 = _ := f0
            try dsimp only at f0
            replace f1 : xq 1 = _ := f1
            try dsimp only at f1
            replace f2 : xq 2 = _ := f2
            try dsimp only at f2
            replace f3 : xq 3 = _ := f3
            try dsimp only at f3
            replace f4 : xq 4 = _ := f4
            try dsimp only at f4
            replace f5 : xq 5 = _ := f5
            try dsimp only at f5
            replace f6 : xq 6 = _ := f6
            try dsimp only at f6
            replace f7 : xq 7 = _ := f7
            try dsimp only at f7
            replace f8 : xq 8 = _ := f8
            try dsimp only at f8
            replace f9 : xq 9 = _ := f9
            try dsimp only at f9
            change wpList _ _ _ _ (Act.put (Act.put (Act.put (Act.put (Act.put (Act.put (Act.put (Act.put (Act.put (Act.put _ (some 130) (xq 0)) (some 131) (xq 1)) (some 132) (xq 2)) (some 133) (xq 3)) (some 134) (xq 4)) (some 135) (xq 5)) (some 136) (xq 6)) (some 129) (xq 7)) (some 137) (xq 8)) (some 138) (xq 9)) _
            simp only [putsL, Nat.reduceAdd, List.drop_succ_cons, List.drop_zero, List.drop_nil, Act.put, List.setIfInBounds_toArray, List.set_cons_succ, List.set_cons_zero]
            try simp only [f0, f1, f2, f3, f4, f5, f6, f7, f8, f9]
            clear f0 f1 f2 f3 f4 f5 f6 f7 f8 f9
            clear holdq hapq
            have hEz := hEall.trans ((Ext.refl wr).drew.trans herq)
            go_wp2
            go_roundw
            case rel => exact ⟨i + 1 + 1, by go_num, by omega, hEz⟩
            case measure => simp [intOf]; omega
    · obtain rfl : i = T.length := by omega
      have hEW := hE5.trans hE
      obtain ⟨y1, -⟩ := (hN5.ext hE).walk
      have y2 := (hN5.ext hE).lt
      go_upto_region 35 with (go_at_call 16; go_loud ((with_reducible refine Calls.mono (hdr.out _ hEW) ?_); rintro e w6 ⟨hb6, hcs⟩; rcases hcs with ⟨d, hd, rfl⟩ | ⟨p7, c7, D, x, rfl, hD, hDx, hxR⟩))
      · have hE6 := hEW.trans hb6
        have hd2 : ¬ d = 0 := by simpa using hd
        have hd3 : (d != 0) = true := by simpa using hd2
        go_wp2_with (go_at_call 9; (with_reducible refine Calls.mono (ready_any B _ (htw.out _ hE6)) ?_); rintro e u9 ⟨rfl, hu9⟩)
        go_ret
        exact ⟨rfl, hE3.trans (hE6.trans hu9)⟩
      · have hE6 := hEW.trans hb6
        have hxT := (hmem.out x).2 hxR
        have hDK : D[K]? = some x := by rw [← hDx, show m.length - 1 = K by have := hK.out; omega]
        obtain ⟨-, ⟨-, e9⟩ | ⟨db, doff, rfl, hdb, hDe⟩⟩ := slcC hD
        · rw [e9] at hDx; simp at hDx
        obtain ⟨c1, c2, c3', c4⟩ := hDe.iv hDK
        have hcon : ∀ u, Ext w6 u → Calls Tryz.prog 17 #[.slice p6 T.length c6, .agg #[.int .i64 x.a, .int .i64 x.b, .int .i64 x.c, .int .i64 x.d]] u fun e w' => e = .returned (.bool true) ∧ Ext u w' := fun u hu => (contains4_any _ _ _ T x u (hT.out.ext (hE.trans (hb6.trans hu))) (by omega)).mono fun e w' ⟨he, h9⟩ => ⟨by rw [he, decide_eq_true hxT], h9⟩
        obtain ⟨y3, -⟩ := (hN5.ext (hE.trans hb6)).walk
        have y4 := (hN5.ext (hE.trans hb6)).lt
        replace hcon := Lib.hid hcon
        clear hD hDx hDe hDK y1 y2
        go_wp2_with (first
          | (go_at_call 17; (with_reducible refine Calls.mono (hcon.out _ (by exact Ext.refl _)) ?_); rintro e u7 ⟨rfl, hu7⟩; have hE7 := hE6.trans hu7)
          | (go_at_call 9; (with_reducible refine Calls.mono (ready_any B _ (htw.out _ hE7)) ?_); rintro e u9 ⟨rfl, hu9⟩))
        go_ret
        exact ⟨rfl, hE3.trans (hE7.trans hu9)⟩
end Go.Proofs.YtddlhjbbjefdkaaGreatDoor
