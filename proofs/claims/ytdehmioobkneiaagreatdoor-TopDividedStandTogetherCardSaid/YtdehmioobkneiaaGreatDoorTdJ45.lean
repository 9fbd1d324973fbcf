/- People on a stage by their height, by both texts: the walks. Conditions: people and the stage are right. How many of each section stand in a row: the program's walk. Conditions: sizes. -/
import Derived.Test.YtdehmioobkneiaaGreatDoorTdRoD
import Derived.Test.YtdehmioobkneiaaGreatDoorTdJ40
set_option linter.unusedSimpArgs false
set_option linter.unusedVariables false
namespace Go.Proofs.YtdehmioobkneiaaGreatDoor
open Go Go.RowKit
theorem manyL_take {wide : List Int} {n r : Nat} (h : r < wide.length) : (manyL wide n wide.length)[r]? = some (takeN wide n r : Int) := manyL_at h
section
variable {w : World} {pp : Option Addr} {pc : Nat} {P : List PersonV} {wp : Option Addr} {wcap : Nat} {wide : List Int} {hp : Option Addr} {hc : Nat} {high : List Int}
end
end Go.Proofs.YtdehmioobkneiaaGreatDoor
namespace Go.Proofs.YtdehmioobkneiaaGreatDoor
open Go Go.RowKit Go.Sort
theorem mid_at {α : Type} {ys xs : List α} {j : Nat} {x : α} (hl : ys.length = xs.length) (hx : xs[j]? = some x) : (ys.take j ++ xs.drop j)[j]? = some x := by
  have hj := (List.getElem?_eq_some_iff.1 hx).1
  have hm : (ys.take j).length = j := by rw [List.length_take]; omega
  rw [List.getElem?_append_right (by omega), hm, Nat.sub_self, List.getElem?_drop, Nat.add_zero, hx]
theorem baseL_at {n : Int} {A : List Int} {j : Nat} {x : Int} (h : A[j]? = some x) : (baseL n A)[j]? = some (n * x / A.sum) := by unfold baseL; rw [List.getElem?_map, h]; rfl
set_option maxRecDepth 100000 in
set_option maxHeartbeats 6400000 in
theorem parts_any {n : Nat} {sp : Option Addr} {sc : Nat} {A : List Int} {w : World} (h : Slc 1 intC w sp A.length sc A) (hn : n ≤ 1000) (hk : A.length ≤ 19) (ha : ∀ a ∈ A, 0 ≤ a) (hs : 0 < A.sum) (hs1 : A.sum ≤ 1000) :
    Calls Tryz.prog 38 #[.int .i64 n, .slice sp A.length sc] w fun e w' => ∃ g, e = .returned (.slice (some ⟨g, 0, none⟩) A.length A.length) ∧ w.heap.size ≤ g ∧ Blk w' g 3 (rowI (partsL n A)) ∧ Ext w w' := by
  have hp0 : Blk (((w.alloc (.cells #[.int .i64 n] 3)).alloc (.cells #[.slice sp A.length sc] 22)).alloc (.cells #[.int .i64 0] 3)) w.heap.size 3 #[.int .i64 n] := ((Blk.new' rfl).alloc _).alloc _
  have hq0 : Blk (((w.alloc (.cells #[.int .i64 n] 3)).alloc (.cells #[.slice sp A.length sc] 22)).alloc (.cells #[.int .i64 0] 3)) (w.heap.size + 1) 22 #[.slice sp A.length sc] := (Blk.new' (by simp)).alloc _
  have hr0 : Blk (((w.alloc (.cells #[.int .i64 n] 3)).alloc (.cells #[.slice sp A.length sc] 22)).alloc (.cells #[.int .i64 0] 3)) (w.heap.size + 1 + 1) 3 #[.int .i64 0] := Blk.new' (by simp)
  have hE0 : Ext w (((w.alloc (.cells #[.int .i64 n] 3)).alloc (.cells #[.slice sp A.length sc] 22)).alloc (.cells #[.int .i64 0] 3)) := (((Ext.refl _).alloc _).alloc _).alloc _
  have hkI : (A.length : Int) ≤ 19 := by omega
  go_enter Tryz.func38, Tryz.ntmps38
  go_upto_region 2 with fail
  change Code.wp _ _ _ _ (((w.alloc (.cells #[.int .i64 n] 3)).alloc (.cells #[.slice sp A.length sc] 22)).alloc (.cells #[.int .i64 0] 3))
  have hz0 : (((w.alloc (.cells #[.int .i64 n] 3)).alloc (.cells #[.slice sp A.length sc] 22)).alloc (.cells #[.int .i64 0] 3)).heap.size = w.heap.size + 1 + 1 + 1 := by simp
  generalize ((w.alloc (.cells #[.int .i64 n] 3)).alloc (.cells #[.slice sp A.length sc] 22)).alloc (.cells #[.int .i64 0] 3) = W at *
  obtain ⟨gp, hgp⟩ : ∃ gp, gp = w.heap.size := ⟨_, rfl⟩
  obtain ⟨gs, hgs⟩ : ∃ gs, gs = w.heap.size + 1 := ⟨_, rfl⟩
  obtain ⟨ga, hga⟩ : ∃ ga, ga = w.heap.size + 1 + 1 := ⟨_, rfl⟩
  have hord : w.heap.size ≤ gp ∧ gp < gs ∧ gs < ga ∧ ga < W.heap.size := by omega
  rw [← hgs] at hq0
  rw [← hga] at hr0
  rw [← hgp] at hp0
  rw [← hga, ← hgs, ← hgp]
  clear hz0 hgp hgs hga
  obtain ⟨i1, i2, i3, i4⟩ := hord
  obtain ⟨y1, -⟩ := hp0.walk
  obtain ⟨y2, -⟩ := hq0.walk
  obtain ⟨y3, -⟩ := hr0.walk
  have yl1 := hp0.lt
  have yl2 := hq0.lt
  go_wp2
  go_loopw [17] (fun v17 wr => ∃ j : Nat, v17 = .int .i64 j ∧ j ≤ A.length ∧ Blk wr gp 3 #[.int .i64 n] ∧ Blk wr gs 22 #[.slice sp A.length sc] ∧ Blk wr ga 3 #[.int .i64 ((A.take j).sum)] ∧ Ext w wr) (fun v17 _ => A.length - (intOf v17).toNat)
  case atStart => exact ⟨0, rfl, Nat.zero_le _, hp0, hq0, by simpa using hr0, hE0⟩
  case round =>
    clear hp0 hq0 hr0 hE0 y1 y2 y3 yl1 yl2 i4
    obtain ⟨j, rfl, hj, hp, hq, hr, hE⟩ := hrel
    have hrl := hr.lt
    obtain ⟨b1, b2⟩ := take_nonneg ha j
    by_cases hlt : j < A.length
    · obtain ⟨x, hx⟩ := getD_some (rfl : A.length = A.length) hlt
      have hjI : (j : Int) < A.length := by omega
      rcases (slcC h).2 with ⟨-, e⟩ | ⟨b, off, rfl, hb, hEl⟩
      · rw [e] at hx; cases hx
      have c0 := (hEl.ext hE hb).int hx
      have lb := Nat.lt_of_lt_of_le hb hE.size
      have hsn := sum_snoc hx
      obtain ⟨b3, b4⟩ := take_nonneg ha (j + 1)
      have x0 := ha x (List.mem_of_getElem? hx)
      rw [hsn] at b3 b4
      generalize (A.take j).sum = s1 at *
      replace hsn := Lib.hid hsn
      obtain ⟨r1, r2⟩ := hr.walk
      clear hEl hx
      go_wp2
      go_roundw
      case rel => exact ⟨j + 1, by go_num, by omega, hp.far (by simp only; omega) _, hq.far (by simp only; omega) _, (hr.set_ 0 _).cast (by rw [hsn.out]; simp), hE.setCell (by simp only; omega) _⟩
      case measure => simp [intOf]; omega
    · obtain rfl : j = A.length := by omega
      rw [List.take_length] at hr b1 b2
      have hz := hE.size
      have hmk := fun u => make_int A.length (by omega) u
      obtain ⟨z1, -⟩ := hp.walk
      obtain ⟨z2, -⟩ := hq.walk
      obtain ⟨z3, -⟩ := hr.walk
      have zl1 := hp.lt
      have zl2 := hq.lt
      have hB8 : Blk (wr.alloc (.cells (rowI (List.replicate A.length 0)) 3)) wr.heap.size 3 (rowI (List.replicate A.length 0)) := Blk.new' rfl
      have hE8 : Ext wr (wr.alloc (.cells (rowI (List.replicate A.length 0)) 3)) := (Ext.refl _).alloc _
      have hz8 : (wr.alloc (.cells (rowI (List.replicate A.length 0)) 3)).heap.size = wr.heap.size + 1 := by simp
      go_upto_region 10 with fail
      clear hmk z1 z2 z3 zl1 zl2
      have hp8 := hp.ext hE8
      have hq8 := hq.ext hE8
      have hr8 := hr.ext hE8
      have hE9 := hE.trans hE8
      clear hp hq hr hE hE8
      obtain ⟨g8, hg8⟩ : ∃ g8, g8 = wr.heap.size := ⟨_, rfl⟩
      rw [← hg8] at hB8 hz8
      rw [← hg8]
      have hgl : ga < g8 := by omega
      clear hg8 hz hrl
      generalize wr.alloc (.cells (rowI (List.replicate A.length 0)) 3) = W8 at *
      obtain ⟨z1, -⟩ := hp8.walk
      obtain ⟨z2, -⟩ := hq8.walk
      obtain ⟨z3, -⟩ := hr8.walk
      have zl1 := hp8.lt
      have zl2 := hq8.lt
      have zl3 := hr8.lt
      have hbl : (baseL n A).length = A.length := by simp [baseL]
      have hb0 := base_nonneg (n := (n : Int)) (by omega) ha
      have hov := over_bound (n := (n : Int)) hs (by cases A with | nil => simp at hs | cons a A => simp)
      have hzl : (List.replicate A.length (0 : Int)).length = (baseL n A).length := by simp [hbl]
      go_wp2
      go_loopw [9, 10, 31] (fun v9 v10 v31 wr => ∃ (j : Nat), v31 = .int .i64 j ∧ j ≤ A.length ∧ v10 = .int .i64 (n - ((baseL n A).take j).sum) ∧ wr.ownsRow (g8 + 1) 3 1 v9 j ((idxL j).flatMap intC) ∧ Blk wr g8 3 (rowI ((baseL n A).take j ++ (List.replicate A.length (0 : Int)).drop j)) ∧ Blk wr gp 3 #[.int .i64 n] ∧ Blk wr gs 22 #[.slice sp A.length sc] ∧ Blk wr ga 3 #[.int .i64 A.sum] ∧ Ext w wr ∧ g8 + 1 ≤ wr.heap.size) (fun _ _ v31 _ => A.length - (intOf v31).toNat)
      case atStart => exact ⟨0, rfl, Nat.zero_le _, by simp, World.ownsRow_nil _ _ _ _, by simpa using hB8, hp8, hq8, hr8, hE9, by omega⟩
      case round =>
        clear hp8 hq8 hr8 hE9 hB8 z1 z2 z3 zl1 zl2 zl3 hz8
        obtain ⟨j, rfl, hj, rfl, hown, hB, hp, hq, hr, hE, hsz⟩ := hrel
        obtain ⟨b1, b2⟩ := take_nonneg hb0 j
        by_cases hlt : j < A.length
        · obtain ⟨x, hx⟩ := getD_some (rfl : A.length = A.length) hlt
          have hjI : (j : Int) < A.length := by omega
          rcases (slcC h).2 with ⟨-, e⟩ | ⟨b, off, rfl, hb, hEl⟩
          · rw [e] at hx; cases hx
          have c0 := (hEl.ext hE hb).int hx
          have lb := Nat.lt_of_lt_of_le hb hE.size
          have hbx := baseL_at (n := (n : Int)) hx
          have x0 := ha x (List.mem_of_getElem? hx)
          have x1 := (mem_le_sum ha (List.mem_of_getElem? hx)).1
          have bx0 := hb0 _ (List.mem_of_getElem? hbx)
          have bx1 := (mem_le_sum hb0 (List.mem_of_getElem? hbx)).1
          have hsn := sum_snoc hbx
          obtain ⟨b3, b4⟩ := take_nonneg hb0 (j + 1)
          rw [hsn] at b3 b4
          have hat : ((baseL n A).take j ++ (List.replicate A.length (0 : Int)).drop j)[j]? = some 0 := mid_at (by rw [hbl]; simp) (by rw [List.getElem?_replicate, if_pos hlt])
          have hset := set_take_drop (xs := List.replicate A.length (0 : Int)) (by rw [hbl]; simp) hbx
          have c8 := rowI_cell hB hat
          obtain ⟨-, f8⟩ := hB.walk
          have l8 := hB.lt
          have hB2 := rowI_set hB j (n * x / A.sum)
          rw [hset] at hB2
          have hnx := baseL_at (n := (n : Int)) hx
          have hat2 : ((baseL n A).take (j + 1) ++ (List.replicate A.length (0 : Int)).drop (j + 1))[j]? = some (n * x / A.sum) := by
            rw [List.getElem?_append_left (by rw [List.length_take]; omega), List.getElem?_take_of_lt (by omega)]
            exact hbx
          have c9 := rowI_cell hB2 hat2
          have p1 : 0 ≤ (n : Int) * x ∧ (n : Int) * x ≤ 1000 * 1000 := ⟨Int.mul_nonneg (by omega) x0, Int.mul_le_mul (by omega) (by omega) x0 (by omega)⟩
          have m1 : IntKind.i64.wrap ((n : Int) * x) = (n : Int) * x := IntWalk.i64_in _ (by omega)
          have q1 : ((n : Int) * x).tdiv A.sum = (n : Int) * x / A.sum := Int.tdiv_eq_ediv_of_nonneg p1.1
          have z1 : IntKind.i64.wrap ((n : Int) * x / A.sum) = (n : Int) * x / A.sum := IntWalk.i64_in _ (by omega)
          obtain ⟨r1, -⟩ := hp.walk
          obtain ⟨r2, -⟩ := hr.walk
          have rl1 := hp.lt
          have rl2 := hr.lt
          have hS0 : ¬ A.sum = 0 := by omega
          have hE2 : Ext w (wr.setCell ⟨g8, j, none⟩ (.int .i64 (n * x / A.sum))) := hE.setCell (by simp only; omega) _
          have hp2 : Blk (wr.setCell ⟨g8, j, none⟩ (.int .i64 (n * x / A.sum))) gp 3 #[.int .i64 n] := hp.far (by simp only; omega) _
          have hq2 : Blk (wr.setCell ⟨g8, j, none⟩ (.int .i64 (n * x / A.sum))) gs 22 #[.slice (some ⟨b, off, none⟩) A.length sc] := hq.far (by simp only; omega) _
          have hr2 : Blk (wr.setCell ⟨g8, j, none⟩ (.int .i64 (n * x / A.sum))) ga 3 #[.int .i64 A.sum] := hr.far (by simp only; omega) _
          have ho2 : (wr.setCell ⟨g8, j, none⟩ (.int .i64 (n * x / A.sum))).ownsRow (g8 + 1) 3 1 _ j ((idxL j).flatMap intC) := hown.kept (grown_set wr ⟨g8, j, none⟩ _) (.inr fun e => by have := (hown.lt g8 e).1; omega)
          have hz2 : g8 + 1 ≤ (wr.setCell ⟨g8, j, none⟩ (.int .i64 (n * x / A.sum))).heap.size := by simp; omega
          clear hEl hx hbx hat hset hat2 p1 hnx hown; replace hsn := Lib.hid hsn
          generalize hbv : (n : Int) * x / A.sum = bv at *
          go_upto_region 14 with fail
          clear hp hq hr hB hE c0 lb c8 f8 l8 r1 r2 rl1 rl2
          change Code.wp _ _ _ _ (wr.setCell ⟨g8, j, none⟩ (.int .i64 bv))
          generalize wr.setCell ⟨g8, j, none⟩ (.int .i64 bv) = W2 at *
          have l9 := hB2.lt
          clear m1 q1 z1 hbv
          go_wp2_with (at_builtin; go_loud (refine wp_app1 _ (.tmp 50) (.tmp 52) 22 3 1 8 _ rfl rfl Tryz.underlying22 intInfoT rfl (by decide) (by decide) (g8 + 1) _ _ _ rfl (ho2.alloc _) W2.heap.size (intC j) rfl rfl (Blk.new' rfl) (by simp [intC, Value.oneCell']) (by omega) (by simp; omega) ?_; intro v' w6 hown6 hgrow6 _))
          go_roundw
          case rel => exact ⟨j + 1, by go_num, by omega, by rw [hsn.out]; congr 1; omega, by rw [idxL_succ, flat_snoc]; exact hown6, (hB2.alloc _).app (ho2.alloc _) (by omega) hgrow6, (hp2.alloc _).app (ho2.alloc _) (by omega) hgrow6, (hq2.alloc _).app (ho2.alloc _) (by omega) hgrow6, (hr2.alloc _).app (ho2.alloc _) (by omega) hgrow6, (hE2.alloc _).grown hgrow6 (fun q e => by have := (ho2.lt q e).1; omega), by have := hgrow6.size; simp at this; omega⟩
          case measure => simp [intOf]; omega
        · obtain rfl : j = A.length := by omega
          have e1 : (baseL n A).take A.length = baseL n A := List.take_of_length_le (by omega)
          have e2 : (List.replicate A.length (0 : Int)).drop A.length = [] := List.drop_eq_nil_of_le (by simp)
          rw [e1, e2, List.append_nil] at hB
          rw [e1]
          rw [e1] at b1 b2
          obtain ⟨m, hm⟩ : ∃ m, A.length = m + 1 := ⟨A.length - 1, by cases A with | nil => simp at hs | cons a A => simp⟩
          rcases (slcC h).2 with ⟨-, e⟩ | ⟨b, off, rfl, hb, hEl⟩
          · rw [e] at hs; simp at hs
          obtain ⟨g9, cap, rfl, hg9, hgl9⟩ := hown.form (by omega)
          have hcm : CmpM wr gp gs ga n b off (m + 1) sc A := by
            rw [hm] at hq
            exact ⟨hp, hq, hr, fun i x hx => (hEl.ext hE hb).int hx, by omega, by omega, hs, hs1, ha, hm, by have := h.2.1; omega⟩
          have hso := standSort (base := g8 + 1) (cap := cap) (m := m) (w := wr) (by rw [← hm]; exact hown) (by omega) hcm ⟨by omega, by omega, by omega, by omega⟩ (Nat.lt_of_lt_of_le hb hE.size)
          rw [← hm] at hso
          obtain ⟨o, hoe⟩ : ∃ o : Nat, (n : Int) - (baseL n A).sum = o := ⟨((n : Int) - (baseL n A).sum).toNat, by omega⟩
          rw [hoe]
          have hok : o < A.length := by omega
          have hcl := (hown.lt g9 rfl).2
          have hkc : A.length ≤ cap := by
            rcases hown.2 with ⟨h1, -⟩ | ⟨g', cap', cur, h1, h2, h3, h4, -⟩
            · cases h1
            · cases h1; exact h4
          replace hso := Lib.hid hso
          have hol := ordL_len n A
          have hom := fun (x : Int) (hx : x ∈ ordL n A) => ordL_mem hx
          have hpt := fun (q : Nat) (hq : q ≤ A.length) => partsT_ok (n := (n : Int)) (by omega) ha q hq
          have hps := fun (q : Nat) (x : Int) (hx : (ordL n A)[q]? = some x) => partsT_succ hx
          have hpl : partsL n A = partsT n A o := by unfold partsL overN; rw [hoe]; simp
          have hp0 : partsT n A 0 = baseL n A := by simp [partsT]
          have hbs : (baseL n A).sum ≤ n := by omega
          replace hom := Lib.hid hom; replace hpt := Lib.hid hpt; replace hps := Lib.hid hps; replace hpl := Lib.hid hpl; replace hp0 := Lib.hid hp0; replace hol := Lib.hid hol
          have hocI : (o : Int) ≤ cap := by omega
          clear hown hcm hEl hm hoe e1 e2 hov hb0 hbl hzl hp hq hr h hb
          go_upto_region 18 with (go_at_call 85; (with_reducible refine Calls.mono hso.out ?_); rintro e Wq ⟨rfl, hSq, hgq⟩)
          have hBq : Blk Wq g8 3 (rowI (partsT n A 0)) := by
            rw [hp0.out]
            exact (hgq.block g8 hB.lt fun e => by have : g8 = g9 := (by simpa using e); omega).trans hB
          have hEq : Ext w Wq := hE.grown hgq fun q e => by cases e; omega
          clear hB hE hso hgq; replace hSq := Lib.hid hSq
          go_wp2
          go_loopw [62] (fun v62 wr => ∃ j : Nat, v62 = .int .i64 j ∧ j ≤ o ∧ Blk wr g8 3 (rowI (partsT n A j)) ∧ Ext w wr ∧ ExtS g8 Wq wr) (fun v62 _ => o - (intOf v62).toNat)
          case atStart => exact ⟨0, rfl, Nat.zero_le _, hBq, hEq, ExtS.refl _ _⟩
          case round =>
            clear hBq hEq
            obtain ⟨j, rfl, hj, hB, hE, hX⟩ := hrel
            by_cases hlt : j < o
            · obtain ⟨x, hx⟩ := getD_some hol.out (show j < A.length by omega)
              have hjI : (j : Int) < o := by omega
              obtain ⟨i, rfl, hi⟩ := hom.out x (List.mem_of_getElem? hx)
              rcases (slcC (hSq.out.extS hX fun a e => by cases e; simp only; omega)).2 with ⟨-, e⟩ | ⟨b9, o9, e9, hb9, hEl⟩
              · rw [e] at hx; cases hx
              cases e9
              have c0 := hEl.int hx
              rw [Nat.zero_add] at c0
              obtain ⟨pl, pn, psm⟩ := hpt.out j (by omega)
              obtain ⟨y, hy⟩ := getD_some pl hi
              have y0 := pn y (List.mem_of_getElem? hy)
              have y1 := (mem_le_sum pn (List.mem_of_getElem? hy)).1
              rw [psm] at y1
              have c8 := rowI_cell hB hy
              obtain ⟨-, f8⟩ := hB.walk
              have l8 := hB.lt
              have hB2 := rowI_set hB i (y + 1)
              have hst : partsT n A (j + 1) = (partsT n A j).set i (y + 1) := by
                rw [hps.out j _ hx]
                unfold incL
                rw [Int.toNat_natCast, List.getD_eq_getElem?_getD, hy]
                rfl
              have hiI : (i : Int) < A.length := by omega
              replace hst := Lib.hid hst; clear hx hy hEl psm pn pl hB
              go_wp2
              go_roundw
              case rel => exact ⟨j + 1, by go_num, by omega, by rw [hst.out]; exact hB2, hE.setCell (by simp only; omega) _, hX.setCell (p := ⟨g8, i, none⟩) (.inl rfl) _⟩
              case measure => simp [intOf]; omega
            · obtain rfl : j = o := by omega
              go_wp2
              go_ret
              exact ⟨g8, rfl, by omega, by rw [hpl.out]; exact hB, hE⟩
end Go.Proofs.YtdehmioobkneiaaGreatDoor
