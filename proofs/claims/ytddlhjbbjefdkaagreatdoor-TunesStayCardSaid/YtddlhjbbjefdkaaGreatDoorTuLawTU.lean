/- Steps and melodies that are handed in stay; what is made of them is new memory. Conditions: the list lies in memory, the table is there. -/
import Derived.Test.YtddlhjbbjefdkaaGreatDoorTuMeM
import Derived.Test.YtddlhjbbjefdkaaGreatDoorTuMeO
import Derived.Test.YtddlhjbbjefdkaaGreatDoorTuMeQ
import Derived.Test.YtddlhjbbjefdkaaGreatDoorTuMeT
import Derived.Test.YtddlhjbbjefdkaaGreatDoorTuEqI
import Derived.Test.YtddlhjbbjefdkaaGreatDoorTuJ47
set_option linter.unusedSimpArgs false
set_option linter.unusedVariables false
namespace Go.Proofs.YtddlhjbbjefdkaaGreatDoor
open Go Go.RowKit

theorem stF_small (L : Src) (a : Nat) : (stF L a).1.length = 9 ∧ ∀ x ∈ (stF L a).1, x.cs.length ≤ 1000 := by
  have h0 : ∀ x ∈ stX0, x.cs.length ≤ 2 := fun x hx => by
    obtain ⟨i, hi⟩ := List.mem_iff_getElem?.1 hx
    exact (stX0_at hi).2.2
  unfold stF
  split
  · refine ⟨by rw [List.length_set]; rfl, fun x hx => ?_⟩
    rcases List.mem_or_eq_of_mem_set hx with h | h
    · exact Nat.le_trans (h0 x h) (by decide)
    · have hd : (stX0.getD (nxF L (a + 1) 9) ⟨0, []⟩).cs.length ≤ 2 := by
        rw [List.getD_eq_getElem?_getD]
        cases e : stX0[nxF L (a + 1) 9]? with
        | none => exact Nat.zero_le _
        | some y => exact (stX0_at e).2.2
      rw [h]
      unfold stOne
      split
      · exact Nat.zero_le _
      · simp only [List.length_append, List.length_cons, List.length_nil]; omega
  · exact ⟨rfl, fun x hx => Nat.le_trans (h0 x hx) (by decide)⟩

theorem own_lenV {α : Type} {k : Nat} {enc : α → List Value} (hk : ∀ x, (enc x).length = k) (h0 : 0 < k) {w : World} {base n : Nat} {e : TypeId} {v : Value} {T : List α} (h : w.ownsRow base e k v n (T.flatMap enc)) : T.length = n := by
  have h1 := h.1
  have h2 : ∀ l : List α, (l.flatMap enc).length = l.length * k := fun l => by
    induction l with
    | nil => simp
    | cons a l ih => rw [List.flatMap_cons, List.length_append, ih, hk, List.length_cons, Nat.add_mul]; omega
  rw [h2] at h1
  exact Nat.eq_of_mul_eq_mul_right h0 h1
theorem drift_u {w w' : World} {X : List StepV} {m : List Int} {e : Ending} (h : DriftPost w X m e w') (hm : m.length ≤ 40) : ∃ (q : Option Addr) (n c : Nat) (d : Int), e = .returned (.tuple #[.slice q n c, .int .i64 d]) ∧ Ext w w' ∧ ((d == 0) = false ∨ (d = 0 ∧ n ≤ 20000 ∧ ∃ T : List I4, w'.ownsRow w.heap.size 36 4 (.slice q n c) n (T.flatMap i4C))) := by
  obtain ⟨hE, ⟨d, hd, rfl⟩ | ⟨-, v, D, rfl, ho, hl, -⟩⟩ := h
  · exact ⟨none, 0, 0, d, rfl, hE, .inl (beq_false_of_ne hd)⟩
  · rw [melC_len] at hl
    obtain ⟨q, c, rfl, -⟩ := slc_of_own i4C_len ho (by decide) (by omega)
    exact ⟨q, _, c, 0, rfl, hE, .inr ⟨rfl, by omega, D, ho⟩⟩
theorem ends_u {w w' : World} {X : List StepV} {m : List Int} {e : Ending} (h : EndsPost w X m e w') : ∃ (q : Option Addr) (n c : Nat) (d : Int), e = .returned (.tuple #[.slice q n c, .int .i64 d]) ∧ Ext w w' ∧ ((d == 0) = false ∨ (d = 0 ∧ n ≤ 20000 ∧ ∃ T : List I4, w'.ownsRow w.heap.size 36 4 (.slice q n c) n (T.flatMap i4C))) := by
  obtain ⟨hE, ⟨hd, rfl⟩ | ⟨-, -, rfl⟩ | ⟨-, v, D, rfl, ho, -, -, hl⟩⟩ := h
  · exact ⟨none, 0, 0, _, rfl, hE, .inl (beq_false_of_ne hd)⟩
  · exact ⟨none, 0, 0, _, rfl, hE, .inl rfl⟩
  · obtain ⟨q, c, rfl, -⟩ := slc_of_own i4C_len ho (by decide) (by omega)
    exact ⟨q, _, c, 0, rfl, hE, .inr ⟨rfl, hl, D, ho⟩⟩
theorem hold_u {w w' : World} {X : List StepV} {m : List Int} {x : I4} {e : Ending} (h : HoldPost w X m x e w') (hm : m.length ≤ 40) : ∃ (q : Option Addr) (n c : Nat) (a : Int) (b : Bool) (d : Int), e = .returned (.tuple #[.slice q n c, .int .i64 a, .bool b, .int .i64 d]) ∧ Ext w w' ∧ ((d == 0) = false ∨ (d = 0 ∧ n ≤ 20000 ∧ ∃ T : List Nat, w'.ownsRow w.heap.size 3 1 (.slice q n c) n (T.flatMap chC))) := by
  obtain ⟨hE, ⟨hd, rfl⟩ | ⟨-, -, rfl⟩ | ⟨-, -, -, rfl⟩ | ⟨-, -, -, rfl⟩ | ⟨-, -, many, v, hf, rfl, ho⟩⟩ := h
  · exact ⟨none, 0, 0, _, _, _, rfl, hE, .inl (beq_false_of_ne hd)⟩
  · exact ⟨none, 0, 0, _, _, _, rfl, hE, .inl rfl⟩
  · exact ⟨none, 0, 0, _, _, _, rfl, hE, .inl rfl⟩
  · exact ⟨none, 0, 0, _, _, _, rfl, hE, .inr ⟨rfl, by omega, [], World.ownsRow_nil _ _ _ _⟩⟩
  · have hl := melC_len X m
    obtain ⟨q, c, rfl, -⟩ := slc_of_own chC_len ho (by decide) (by omega)
    exact ⟨q, _, c, _, _, _, rfl, hE, .inr ⟨rfl, by omega, _, ho⟩⟩

set_option maxRecDepth 100000 in
set_option maxHeartbeats 12800000 in
theorem lawTU_any (B : Nat) (w : World) (p : Option Addr) (n c : Nat) (h : Lst w w.heap.size p n) (ht : Tab B w) :
    Calls Tryz.prog 4 #[.slice p n c] w fun e w' => e = .returned (.bool true) ∧ Ext w w' := by
  obtain ⟨xs, rfl, hL⟩ := lst_list h
  obtain ⟨L, hLd⟩ : ∃ L : Src, L = ⟨xs, w.heap.size⟩ := ⟨_, rfl⟩
  have hlow : L.low = w.heap.size := by rw [hLd]
  have hE0 : Ext w ((w.alloc (.cells #[.slice p xs.length c, .int .i64 0] 25)).alloc (.cells #[.slice p xs.length c, .int .i64 0] 25)) := ((Ext.refl w).alloc _).alloc _
  have hSa : StrL ((w.alloc (.cells #[.slice p xs.length c, .int .i64 0] 25)).alloc (.cells #[.slice p xs.length c, .int .i64 0] 25)) w.heap.size L 0 := by
    subst hLd
    exact ⟨Nat.le_refl _, p, c, (Blk.new' rfl).alloc _, hL.low fun j hj => hE0.block j hj⟩
  have hSb : StrL ((w.alloc (.cells #[.slice p xs.length c, .int .i64 0] 25)).alloc (.cells #[.slice p xs.length c, .int .i64 0] 25)) (w.heap.size + 1) L 0 := by
    subst hLd
    exact ⟨Nat.le_succ _, p, c, Blk.new' (by simp), hL.low fun j hj => hE0.block j hj⟩
  have hz0 : w.heap.size + 2 ≤ ((w.alloc (.cells #[.slice p xs.length c, .int .i64 0] 25)).alloc (.cells #[.slice p xs.length c, .int .i64 0] 25)).heap.size := by simp
  have hva := stepList_det w.heap.size 0 L _ (by omega) hSa
  have hxl := stF_small L 0
  have hsl := stF_le L 0
  obtain ⟨q1, hq1⟩ : ∃ q : List StepV × Nat, stF L 0 = q := ⟨_, rfl⟩
  obtain ⟨X, a1⟩ := q1
  rw [hq1] at hva hxl hsl
  simp only at hva hxl hsl
  obtain ⟨hX9, hXs⟩ := hxl
  replace hva := Lib.hid hva
  replace hSb := Lib.hid hSb
  replace hz0 := Lib.hid hz0
  replace hq1 := Lib.hid hq1
  clear h hL hLd hSa
  go_enter Tryz.func4, Tryz.ntmps4
  go_upto_region 3 with (first
    | (go_at_call 6; go_loud ((with_reducible refine Calls.mono hva.out ?_); rintro e w1 ⟨g1, rfl, hX1, hSa1, hE1⟩; have hSb1 := Lib.hid (hSb.out.other hE1 (by omega) (by omega)); have hXX1 := ExtS.back hE0 (Nat.le_refl _) hE1; have hz1 := Nat.le_trans hz0.out hE1.2.2.2.1))
    | (go_at_call 6; (with_reducible refine Calls.mono (stepList_det (w.heap.size + 1) 0 L _ (by omega) (by exact hSb1.out)) ?_); rw [hq1.out]; rintro e w2 ⟨g2, rfl, hY2, hSb2, hE2⟩))
  have hz0 := hz0.out
  have hX2 := hX1.extS (show w.heap.size + 1 < _ by omega) hE2
  have hXX2 := ExtS.back hXX1 (Nat.le_succ _) hE2
  have hSa2 := hSa1.other hE2 (by omega) (by omega)
  have hz2 := Nat.le_trans hz1 hE2.2.2.2.1
  clear hva hSb hSb1 hE1 hE2 hX1 hSa1 hXX1 hE0
  have hma := melody_det w.heap.size a1 L _ (by omega) hSa2
  have hmb := mdF_le L a1
  obtain ⟨q2, hq2⟩ : ∃ q : List Int × Nat, mdF L a1 = q := ⟨_, rfl⟩
  obtain ⟨m, a2⟩ := q2
  rw [hq2] at hma hmb
  simp only at hma hmb
  replace hma := Lib.hid hma
  replace hSb2 := Lib.hid hSb2
  replace hX2 := Lib.hid hX2
  replace hY2 := Lib.hid hY2
  replace hq2 := Lib.hid hq2
  clear hSa2
  go_upto_region 4 with (first
    | (go_at_call 7; go_loud ((with_reducible refine Calls.mono hma.out ?_); rintro e w3 ⟨v3, rfl, ho3, hSa3, hE3⟩; have hSb3 := Lib.hid (hSb2.out.other hE3 (by omega) (by omega)); have hXX3 := ExtS.back hXX2 (Nat.le_refl _) hE3; have hz3 := Nat.le_trans hz2 hE3.2.2.2.1))
    | (go_at_call 7; (with_reducible refine Calls.mono (melody_det (w.heap.size + 1) a1 L _ (by omega) (by exact hSb3.out)) ?_); rw [hq2.out]; rintro e w4 ⟨v4, rfl, ho4, hSb4, hE4⟩))
  have hX4 := (hX2.out.extS (show w.heap.size < _ by omega) hE3).extS (show w.heap.size + 1 < _ by omega) hE4
  have hY4 := (hY2.out.extS (show w.heap.size < _ by omega) hE3).extS (show w.heap.size + 1 < _ by omega) hE4
  have ho34 := own_extS hE4 (by omega) ho3
  have hXX4 := ExtS.back hXX3 (Nat.le_succ _) hE4
  obtain ⟨p3, c3, rfl, hm3⟩ := slc_of_own intC_len ho34 (by decide) (by omega)
  obtain ⟨p4, c4, rfl, hm4⟩ := slc_of_own intC_len ho4 (by decide) (by omega)
  have hxm := hX4.m
  have hym := hY4.m
  have htw : ∀ u, Ext w4 u → Tab B u := fun u hu => ht.ext (hXX4.trans hu)
  have hdr := fun u (hu : Ext w4 u) => drift_any (hxm.ext hu) (hm3.ext hu) (by omega)
  have hho : ∀ u, Ext w4 u → Calls Tryz.prog 11 #[.slice (some ⟨g1, 0, none⟩) 9 9, .slice p3 m.length c3, .agg #[.int .i64 0, .int .i64 0, .int .i64 0, .int .i64 0]] u (HoldPost u X m zeroI) := fun u hu => hold_any (hxm.ext hu) (hm3.ext hu) (by omega) zeroI
  have hen := fun u (hu : Ext w4 u) => ends_any (hxm.ext hu) (hm3.ext hu) (by omega)
  have hml : m.length ≤ 100000 := by omega
  replace hXs := Lib.hid hXs
  replace hxm := Lib.hid hxm
  replace hym := Lib.hid hym
  replace hm3 := Lib.hid hm3
  replace hm4 := Lib.hid hm4
  replace htw := Lib.hid htw
  replace hdr := Lib.hid hdr
  replace hho := Lib.hid hho
  replace hen := Lib.hid hen
  clear hma hSb2 hSb3 hE3 hE4 hX2 hY2 ho3 hSa3 hXX2 hXX3 hX4 hY4 ho34 ho4 hSb4 hz0 hz1 hz2 hz3 hq1 hq2
  go_upto_if 42 with (go_at_call 16; go_loud ((with_reducible refine Calls.mono (hdr.out _ (by exact Ext.refl _)) ?_); rintro e w5 hp; obtain ⟨q, n, c, d, rfl, hb, hc⟩ := drift_u hp (by omega)))
  go_cut [] (fun wc => Ext w4 wc)
  case first =>
    rcases hc with hd | ⟨rfl, hn, T, ho⟩
    · go_wp2
      go_meet
      exact hb
    · replace ho := Lib.hid (own_low ho (Ext.refl _).size)
      replace hb := Lib.hid (show Ext w4 w5 from hb)
      go_wp2
      generalize w5 = W5 at *
      go_loopw [45] (fun v45 wr => ∃ (k : Nat) (T : List I4), v45 = .int .i64 k ∧ k ≤ n ∧ wr.ownsRow w4.heap.size 36 4 (.slice q n c) n (T.flatMap i4C) ∧ Ext w4 wr) (fun v45 _ => n - (intOf v45).toNat)
      case atStart => exact ⟨0, T, rfl, Nat.zero_le _, ho.out, hb.out⟩
      case round =>
        clear ho hb
        obtain ⟨k, T, rfl, hk, ho, hE⟩ := hrel
        by_cases hlt : k < n
        · obtain ⟨g, cap, hv, hg, hgl⟩ := ho.form (by omega)
          cases hv
          obtain ⟨x, hx⟩ := getD_some (own_lenV i4C_len (by decide) ho) hlt
          have z0 : ∀ o, wr.frozen? ⟨g, o, none⟩ = false := fun o => ho.frozenAt o
          have c0 : wr.cell? ⟨g, k * 4, none⟩ = some (.int .i64 x.a) := own_cell i4C_len ho hx 0 rfl hlt
          have hset : (wr.setCell ⟨g, k * 4, none⟩ (.int .i64 777)).ownsRow w4.heap.size 36 4 (.slice (some ⟨g, 0, none⟩) n c) n ((T.set k ⟨777, x.b, x.c, x.d⟩).flatMap i4C) := own_set1 i4C_len ho ⟨777, x.b, x.c, x.d⟩ hx 0 (by decide) (.int .i64 777) rfl
          have hE2 := hE.setCell (p := ⟨g, k * 4, none⟩) hg (.int .i64 777)
          have hkI : (k : Int) < n := by omega
          replace hset := Lib.hid hset
          replace hx := Lib.hid hx
          clear ho
          go_wp2
          go_roundw
          case rel => exact ⟨k + 1, _, by go_num, by omega, hset.out, hE2⟩
          case measure => simp [intOf]; omega
        · obtain rfl : k = n := by omega
          clear ho
          go_wp2
          go_meet
          exact hE
  case rest =>
    generalize wc = W1 at *
    clear hdr hb hc
    go_upto_if 63 with (go_at_call 11; go_loud ((with_reducible refine Calls.mono (hho.out _ (by exact hcut)) ?_); rintro e w5 hp; obtain ⟨q, n, c, a, b, d, rfl, hb, hc⟩ := hold_u hp (by omega)))
    go_cut [] (fun wc => Ext w4 wc)
    case first =>
      rcases hc with hd | ⟨rfl, hn, T, ho⟩
      · go_wp2
        go_meet
        exact hcut.trans hb
      · replace ho := Lib.hid (own_low ho (hcut).size)
        replace hb := Lib.hid (show Ext w4 w5 from hcut.trans hb)
        go_wp2
        generalize w5 = W5 at *
        go_loopw [66] (fun v66 wr => ∃ (k : Nat) (T : List Nat), v66 = .int .i64 k ∧ k ≤ n ∧ wr.ownsRow w4.heap.size 3 1 (.slice q n c) n (T.flatMap chC) ∧ Ext w4 wr) (fun v66 _ => n - (intOf v66).toNat)
        case atStart => exact ⟨0, T, rfl, Nat.zero_le _, ho.out, hb.out⟩
        case round =>
          clear ho hb
          obtain ⟨k, T, rfl, hk, ho, hE⟩ := hrel
          by_cases hlt : k < n
          · obtain ⟨g, cap, hv, hg, hgl⟩ := ho.form (by omega)
            cases hv
            obtain ⟨x, hx⟩ := getD_some (own_lenV chC_len (by decide) ho) hlt
            have z0 : ∀ o, wr.frozen? ⟨g, o, none⟩ = false := fun o => ho.frozenAt o
            have c0 : wr.cell? ⟨g, k, none⟩ = some (.int .i64 (x : Int)) := by
              have h9 := own_cell chC_len ho hx 0 rfl hlt
              rw [Nat.mul_one, Nat.add_zero] at h9
              exact h9
            have hset : (wr.setCell ⟨g, k, none⟩ (.int .i64 777)).ownsRow w4.heap.size 3 1 (.slice (some ⟨g, 0, none⟩) n c) n ((T.set k (777 : Nat)).flatMap chC) := by
              have h9 := own_set1 chC_len ho (777 : Nat) hx 0 (by decide) (.int .i64 777) rfl
              rw [Nat.mul_one, Nat.add_zero] at h9
              exact h9
            have hE2 := hE.setCell (p := ⟨g, k, none⟩) hg (.int .i64 777)
            have hkI : (k : Int) < n := by omega
            replace hset := Lib.hid hset
            replace hx := Lib.hid hx
            clear ho
            go_wp2
            go_roundw
            case rel => exact ⟨k + 1, _, by go_num, by omega, hset.out, hE2⟩
            case measure => simp [intOf]; omega
          · obtain rfl : k = n := by omega
            clear ho
            go_wp2
            go_meet
            exact hE
    case rest =>
      generalize wc = W2 at *
      clear hho hb hc
      go_upto_if 80 with (go_at_call 10; go_loud ((with_reducible refine Calls.mono (hen.out _ (by exact hcut)) ?_); rintro e w5 hp; obtain ⟨q, n, c, d, rfl, hb, hc⟩ := ends_u hp))
      go_cut [] (fun wc => Ext w4 wc)
      case first =>
        rcases hc with hd | ⟨rfl, hn, T, ho⟩
        · go_wp2
          go_meet
          exact hcut.trans hb
        · replace ho := Lib.hid (own_low ho (hcut).size)
          replace hb := Lib.hid (show Ext w4 w5 from hcut.trans hb)
          go_wp2
          generalize w5 = W5 at *
          go_loopw [83] (fun v83 wr => ∃ (k : Nat) (T : List I4), v83 = .int .i64 k ∧ k ≤ n ∧ wr.ownsRow w4.heap.size 36 4 (.slice q n c) n (T.flatMap i4C) ∧ Ext w4 wr) (fun v83 _ => n - (intOf v83).toNat)
          case atStart => exact ⟨0, T, rfl, Nat.zero_le _, ho.out, hb.out⟩
          case round =>
            clear ho hb
            obtain ⟨k, T, rfl, hk, ho, hE⟩ := hrel
            by_cases hlt : k < n
            · obtain ⟨g, cap, hv, hg, hgl⟩ := ho.form (by omega)
              cases hv
              obtain ⟨x, hx⟩ := getD_some (own_lenV i4C_len (by decide) ho) hlt
              have z0 : ∀ o, wr.frozen? ⟨g, o, none⟩ = false := fun o => ho.frozenAt o
              have c0 : wr.cell? ⟨g, k * 4, none⟩ = some (.int .i64 x.a) := own_cell i4C_len ho hx 0 rfl hlt
              have hset : (wr.setCell ⟨g, k * 4, none⟩ (.int .i64 777)).ownsRow w4.heap.size 36 4 (.slice (some ⟨g, 0, none⟩) n c) n ((T.set k ⟨777, x.b, x.c, x.d⟩).flatMap i4C) := own_set1 i4C_len ho ⟨777, x.b, x.c, x.d⟩ hx 0 (by decide) (.int .i64 777) rfl
              have hE2 := hE.setCell (p := ⟨g, k * 4, none⟩) hg (.int .i64 777)
              have hkI : (k : Int) < n := by omega
              replace hset := Lib.hid hset
              replace hx := Lib.hid hx
              clear ho
              go_wp2
              go_roundw
              case rel => exact ⟨k + 1, _, by go_num, by omega, hset.out, hE2⟩
              case measure => simp [intOf]; omega
            · obtain rfl : k = n := by omega
              clear ho
              go_wp2
              go_meet
              exact hE
      case rest =>
        generalize wc = W3 at *
        clear hen hb hc
        go_wp2_with (first
          | (go_at_call 18; go_loud ((with_reducible refine Calls.mono (eqSteps_any (hxm.out.ext hcut) (hym.out.ext hcut) (by omega) (by exact hXs.out)) ?_); rintro e u6 ⟨rfl, hu6⟩; have E6 := hcut.trans hu6))
          | (go_at_call 21; (with_reducible refine Calls.mono (eqInt4_any _ _ _ _ _ m _ (hm3.out.ext E6) (hm4.out.ext E6) (by omega)) ?_); rintro e u7 ⟨rfl, hu7⟩; have E7 := E6.trans hu7)
          | (go_at_call 9; (with_reducible refine Calls.mono (ready_any B _ (htw.out _ E7)) ?_); rintro e u9 ⟨rfl, hu9⟩))
        go_ret
        exact ⟨rfl, hXX4.trans (E7.trans hu9)⟩
end Go.Proofs.YtddlhjbbjefdkaaGreatDoor
