/- By how much rows would have to be higher: the walk. Conditions: people, stage and stands are right (what CheckStands answers is a hypothesis here). -/
import Derived.Test.YtfcoeikekbjgpaaGreatDoorSxStK
set_option linter.unusedSimpArgs false
set_option linter.unusedVariables false
namespace Go.Proofs.YtfcoeikekbjgpaaGreatDoor
open Go Go.RowKit

/-- The cells of a row of numbers. -/
def rowI (xs : List Int) : Array Value := (xs.map (Value.int .i64)).toArray
theorem rowI_cell {w : World} {g : Nat} {t : TypeId} {xs : List Int} {i : Nat} {v : Int} (h : Blk w g t (rowI xs)) (hx : xs[i]? = some v) : w.cell? ⟨g, i, none⟩ = some (.int .i64 v) := by
  rw [h.cell, rowI, List.getElem?_toArray, List.getElem?_map, hx]; rfl
theorem rowI_set {w : World} {g : Nat} {t : TypeId} {xs : List Int} (h : Blk w g t (rowI xs)) (i : Nat) (v : Int) : Blk (w.setCell ⟨g, i, none⟩ (.int .i64 v)) g t (rowI (xs.set i v)) :=
  (h.set_ i _).cast (by simp [rowI, List.map_set])
theorem madeI (n : Nat) : madeCells #[.int .i64 0] n = rowI (List.replicate n 0) := by
  apply Array.ext
  · simp [size_madeCells, rowI]
  · intro i h1 h2
    simp [madeCells, rowI, Nat.mod_one]
theorem cellInt : (Tryz.prog.info? 3).map (fun i => (i.zero, i.size, i.bytes)) = some (some (.int .i64 0), 1, 8) := by kernel_rfl
theorem make_int (n : Nat) (hn : n ≤ 1000) (u : World) : (Instr.makeSlice 22 (.int .i64 (n : Int)) (.int .i64 (n : Int))).run Tryz.prog u = .ok (.slice (some ⟨u.heap.size, 0, none⟩) n n) (u.alloc (.cells (rowI (List.replicate n 0)) 3)) := by
  obtain ⟨i0, hi, hz0, hz1, hz2⟩ := info_parts cellInt
  have := run_make (P := Tryz.prog) u 22 3 i0 (.int .i64 0) Tryz.underlying22 hi hz0 .i64 .i64 (n : Int) (n : Int) (by omega) (by omega) (by rw [hz2]; omega) (by omega)
  rw [this, hz1, Int.toNat_natCast, Nat.mul_one, show (Value.int .i64 0).cells = #[.int .i64 0] from rfl, madeI]

/-- A row whose first numbers are set. -/
def arrL (u : List Int) (acc : Int) (m : Nat) : List Int := u ++ acc :: List.replicate m 0
theorem arrL_at {u : List Int} {acc : Int} {m : Nat} {r : Nat} (hr : u.length = r) : (arrL u acc m)[r]? = some acc := by
  subst hr; unfold arrL; rw [List.getElem?_append_right (Nat.le_refl _), Nat.sub_self]; rfl
theorem arrL_low {u : List Int} {acc : Int} {m k : Nat} {v : Int} (h : u[k]? = some v) : (arrL u acc m)[k]? = some v := by
  unfold arrL; rw [List.getElem?_append_left (List.getElem?_eq_some_iff.1 h).1, h]
theorem arrL_set {u : List Int} {acc : Int} {m : Nat} {r : Nat} (hr : u.length = r) (v : Int) : (arrL u acc m).set r v = arrL u v m := by
  subst hr; unfold arrL; rw [List.set_append_right _ _ (Nat.le_refl _), Nat.sub_self]; rfl
section
variable {P : List PersonV} {wide high : List Int} {S : List StandV}
def accK (P : List PersonV) (wide high : List Int) (u : List Int) (r : Nat) (S : List StandV) (acc : Int) (k : Nat) : Int := (S.take k).foldl (fun acc b => liftB P wide high u r S b acc) acc
def accI (P : List PersonV) (wide high : List Int) (u : List Int) (r : Nat) (S : List StandV) (b : StandV) (acc : Int) (i : Nat) : Int := liftB P wide high u r (S.take i) b acc
theorem accK_succ {u : List Int} {r : Nat} {acc : Int} {k : Nat} {b : StandV} (h : S[k]? = some b) : accK P wide high u r S acc (k + 1) = liftB P wide high u r S b (accK P wide high u r S acc k) := by
  unfold accK; rw [take_snocL h, List.foldl_append]; rfl
theorem accI_succ {u : List Int} {r : Nat} {acc : Int} {i : Nat} {a b : StandV} (h : S[i]? = some a) : accI P wide high u r S b acc (i + 1) = if b.row = r && beforeS wide a b then max (accI P wide high u r S b acc i) (topS P high a + u.getD a.row.toNat 0 - topS P high b + 1) else accI P wide high u r S b acc i := by
  unfold accI liftB; rw [take_snocL h, List.foldl_append]; rfl
theorem accK_all (u : List Int) (r : Nat) (acc : Int) : accK P wide high u r S acc S.length = liftR P wide high u r S acc := by unfold accK liftR; rw [List.take_length]
theorem accI_all (u : List Int) (r : Nat) (b : StandV) (acc : Int) : accI P wide high u r S b acc S.length = liftB P wide high u r S b acc := by unfold accI; rw [List.take_length]
end

set_option maxRecDepth 100000 in
set_option maxHeartbeats 6400000 in
theorem lift_own (pp : Option Addr) (pc : Nat) (P : List PersonV) (wp : Option Addr) (wc : Nat) (wide : List Int) (hp : Option Addr) (hc : Nat) (high : List Int) (lp : Option Addr) (lc : Nat) (S : List StandV) (w : World) (h1 : Slc 3 perC w pp P.length pc P) (h2 : Slc 1 intC w wp wide.length wc wide) (h3 : Slc 1 intC w hp high.length hc high) (h4 : Slc 3 staC w lp S.length lc S) (hok : StandsOk P wide high S) (hwn : 1 ≤ wide.length)
    (hck : ∀ u, Ext w u → Calls Tryz.prog 62 #[.slice pp P.length pc, .agg #[.slice wp wide.length wc, .slice hp high.length hc], .slice lp S.length lc] u fun e w' => e = .returned (.int .i64 0) ∧ Ext u w') :
    Calls Tryz.prog 26 #[.slice pp P.length pc, .agg #[.slice wp wide.length wc, .slice hp high.length hc], .slice lp S.length lc] w fun e w' => ∃ b, e = .returned (.tuple #[.slice (some ⟨b, 0, none⟩) wide.length wide.length, .int .i64 0]) ∧ w.heap.size ≤ b ∧ Blk w' b 3 (rowI (liftL P wide high S wide.length)) ∧ Ext w w' := by
  have hX : Blk (w.alloc (.cells #[.slice wp wide.length wc, .slice hp high.length hc] 29)) w.heap.size 29 #[.slice wp wide.length wc, .slice hp high.length hc] := Blk.new' rfl
  have hE0 : Ext w (w.alloc (.cells #[.slice wp wide.length wc, .slice hp high.length hc] 29)) := (Ext.refl _).alloc _
  have hco := choirOf_ok pp pc P wp wc wide hp hc high lp lc S _ (h1.ext hE0) (h2.ext hE0) (h3.ext hE0) (h4.ext hE0) fun u hu => hck u (hE0.trans hu)
  have hlen := hok.len
  have hw10 := hok.wo.1
  have hmk := make_int wide.length (by omega)
  replace hco := Lib.hid hco
  replace hok := Lib.hid hok
  clear hck h1 h2 h3 h4
  go_enter Tryz.func26, Tryz.ntmps26
  go_upto_region 5 with (go_at_call 60; (with_reducible refine Calls.mono hco.out ?_); rintro e w1 ⟨g, rfl, hg, hb1, hM⟩; obtain ⟨y1, -⟩ := (hX.ext hb1).walk)
  have hE1 := hE0.trans hb1
  have hB0 : Blk (w1.alloc (.cells (rowI (List.replicate wide.length 0)) 3)) w1.heap.size 3 (rowI (liftL P wide high S 1 ++ List.replicate (wide.length - 1) 0)) := by
    have : List.replicate wide.length (0 : Int) = liftL P wide high S 1 ++ List.replicate (wide.length - 1) 0 := by
      obtain ⟨m, hm⟩ : ∃ m, wide.length = m + 1 := ⟨wide.length - 1, by omega⟩
      rw [hm]; rfl
    rw [← this]; exact Blk.new' rfl
  have hE2 : Ext w1 (w1.alloc (.cells (rowI (List.replicate wide.length 0)) 3)) := (Ext.refl _).alloc _
  clear hco y1 hmk
  generalize (w1.alloc (.cells (rowI (List.replicate wide.length 0)) 3)) = W at *
  go_wp2
  go_loopw [11] (fun v11 wr => ∃ q : Nat, v11 = .int .i64 ((q + 1 : Nat) : Int) ∧ q < wide.length ∧ Blk wr w1.heap.size 3 (rowI (liftL P wide high S (q + 1) ++ List.replicate (wide.length - (q + 1)) 0)) ∧ Ext w1 wr ∧ ∀ v ∈ liftL P wide high S (q + 1), 0 ≤ v ∧ v ≤ 2000001 * (q + 1)) (fun v11 _ => wide.length - (intOf v11).toNat)
  case atStart =>
    refine ⟨0, rfl, by omega, hB0, hE2, fun v hv => ?_⟩
    simp only [liftL, List.mem_singleton] at hv
    omega
  case round =>
    clear hB0 hE2
    obtain ⟨q, rfl, hq, hB, hE, hbd⟩ := hrel
    obtain ⟨r, hr⟩ : ∃ r, r = q + 1 := ⟨_, rfl⟩
    rw [← hr] at hB hbd ⊢
    by_cases hlt : r < wide.length
    · have hll : (liftL P wide high S r).length = r := liftL_len r
      have hsuc : liftL P wide high S (r + 1) = liftL P wide high S r ++ [liftR P wide high (liftL P wide high S r) r S ((liftL P wide high S r).getD q 0)] := by rw [hr]; rfl
      obtain ⟨v0, hv0⟩ : ∃ v, (liftL P wide high S r)[q]? = some v := ⟨_, List.getElem?_eq_getElem (by omega)⟩
      have hv0b := hbd v0 (List.mem_of_getElem? hv0)
      rw [List.getD_eq_getElem?_getD, hv0, Option.getD_some] at hsuc
      obtain ⟨m, hm⟩ : ∃ m, wide.length - r = m + 1 := ⟨wide.length - r - 1, by omega⟩
      have hm1 : wide.length - (r + 1) = m := by omega
      have harr : liftL P wide high S r ++ List.replicate (wide.length - r) 0 = arrL (liftL P wide high S r) 0 m := by rw [hm]; rfl
      have harr2 : ∀ x, liftL P wide high S r ++ [x] ++ List.replicate (wide.length - (r + 1)) 0 = arrL (liftL P wide high S r) x m := by intro x; rw [hm1]; simp [arrL]
      rw [harr] at hB
      replace hbd := Lib.hid hbd
      replace hsuc := Lib.hid hsuc
      have hrI : (r : Int) < wide.length := by omega
      have hqI : (q : Int) < wide.length := by omega
      have hc0 := rowI_cell hB (arrL_low (acc := 0) (m := m) hv0)
      have hc1 := rowI_cell hB (arrL_at (acc := 0) (m := m) hll)
      have hfz := hB.frozen
      have hBv := rowI_set hB r v0
      rw [arrL_set hll] at hBv
      have hEv : Ext w1 (wr.setCell ⟨w1.heap.size, r, none⟩ (.int .i64 v0)) := hE.setCell (by simp) _
      have hrq : IntKind.i64.wrap ((r : Int) - 1) = q := by rw [IntWalk.i64_in _ (by omega)]; omega
      have hrq2 : (r : Int) - 1 = q := by omega
      replace hr := Lib.hid hr
      go_wp2
      clear hc0 hc1 hfz hB hE hrq hrq2 harr
      generalize wr.setCell ⟨w1.heap.size, r, none⟩ (.int .i64 v0) = W0 at *
      go_loopw [44] (fun v44 wq => ∃ k : Nat, v44 = .int .i64 k ∧ k ≤ S.length ∧ Blk wq w1.heap.size 3 (rowI (arrL (liftL P wide high S r) (accK P wide high (liftL P wide high S r) r S v0 k) m)) ∧ Ext w1 wq ∧ 0 ≤ accK P wide high (liftL P wide high S r) r S v0 k ∧ accK P wide high (liftL P wide high S r) r S v0 k ≤ 2000001 * (r + 1)) (fun v44 _ => S.length - (intOf v44).toNat)
      case atStart => exact ⟨0, rfl, Nat.zero_le _, hBv, hEv, by have := hv0b.1; simpa [accK] using this, by have := hr.out; simp only [accK, List.take_zero, List.foldl_nil]; omega⟩
      case round =>
        clear hBv hEv
        obtain ⟨k, rfl, hk, hB, hE, hb0, hb1'⟩ := hrel
        by_cases hkl : k < S.length
        · obtain ⟨b, hb⟩ := getD_some (rfl : S.length = S.length) hkl
          have hkI : (k : Int) < S.length := by omega
          have hnx := accK_succ (P := P) (wide := wide) (high := high) (u := liftL P wide high S r) (r := r) (acc := v0) hb
          generalize accK P wide high (liftL P wide high S r) r S v0 k = a0 at *
          replace hb := Lib.hid hb
          replace hnx := Lib.hid hnx
          go_wp2
          try rw [show decide ((k : Int) < (S.length : Int)) = true from decide_eq_true hkI]
          go_loopw [49] (fun v49 wq => ∃ i : Nat, v49 = .int .i64 i ∧ i ≤ S.length ∧ Blk wq w1.heap.size 3 (rowI (arrL (liftL P wide high S r) (accI P wide high (liftL P wide high S r) r S b a0 i) m)) ∧ Ext w1 wq ∧ 0 ≤ accI P wide high (liftL P wide high S r) r S b a0 i ∧ accI P wide high (liftL P wide high S r) r S b a0 i ≤ 2000001 * (r + 1)) (fun v49 _ => S.length - (intOf v49).toNat)
          case atStart => exact ⟨0, rfl, Nat.zero_le _, hB, hE, hb0, hb1'⟩
          case round =>
            clear hB hE hb0 hb1'
            obtain ⟨i, rfl, hi, hB, hE, hb0, hb1'⟩ := hrel
            by_cases hil : i < S.length
            · obtain ⟨a, ha⟩ := getD_some (rfl : S.length = S.length) hil
              have hiI : (i : Int) < S.length := by omega
              have hnx2 := accI_succ (P := P) (wide := wide) (high := high) (u := liftL P wide high S r) (r := r) (b := b) (acc := a0) ha
              generalize accI P wide high (liftL P wide high S r) r S b a0 i = ai at *
              have hMr := hM.more hE
              have hbe := before_any g pp pc P wp wc wide hp hc high lp lc S wr hMr hok.out.wo (by omega) hok.out.on ha hb.out
              rcases (slcC hMr.sta).2 with ⟨-, e⟩ | ⟨sb, so, hsb, hsbw, hEl⟩
              · rw [e] at ha; cases ha
              have c1 := (hEl.sta ha).2.1
              have d1 := (hEl.sta hb.out).2.1
              subst hsb
              by_cases hbr : b.row = r
              · cases hbf : beforeS wide a b
                · rw [hbf] at hbe hnx2
                  replace hbe := Lib.hid hbe
                  replace hnx2 := Lib.hid hnx2
                  replace ha := Lib.hid ha
                  clear hMr hEl
                  go_wp2_with (go_at_call 66; (with_reducible refine Calls.mono hbe.out ?_); rintro e w2 ⟨rfl, hb2⟩)
                  go_roundw
                  have hn := hnx2.out
                  simp only [Bool.and_false, Bool.false_eq_true, if_false] at hn
                  case rel => exact ⟨i + 1, by go_num, by omega, by rw [hn]; exact hB.ext hb2, hE.trans hb2, by rw [hn]; exact ⟨hb0, hb1'⟩⟩
                  case measure => simp [intOf]; omega
                · rw [hbf, hbr] at hnx2
                  rw [hbf] at hbe
                  rw [hbr] at d1
                  simp only [decide_true, Bool.and_self, if_true] at hnx2
                  have hab : a.row < r := by
                    unfold beforeS at hbf
                    simp only [Bool.and_eq_true, decide_eq_true_eq] at hbf
                    omega
                  have ha0 := (hok.out.on a (List.mem_of_getElem? ha)).1
                  obtain ⟨ra, hra⟩ : ∃ ra : Nat, a.row = ra := ⟨a.row.toNat, by omega⟩
                  rw [hra] at c1 hnx2
                  rw [Int.toNat_natCast] at hnx2
                  obtain ⟨ua, hua⟩ : ∃ v, (liftL P wide high S r)[ra]? = some v := ⟨_, List.getElem?_eq_getElem (by omega)⟩
                  have huab := hbd.out ua (List.mem_of_getElem? hua)
                  have hrq := hr.out
                  rw [List.getD_eq_getElem?_getD, hua, Option.getD_some] at hnx2
                  have hraI : (ra : Int) < wide.length := by omega
                  have bt1 := top_bound hok.out.po hok.out.ho hok.out.all (List.mem_of_getElem? ha)
                  have bt2 := top_bound hok.out.po hok.out.ho hok.out.all (List.mem_of_getElem? hb.out)
                  have ht1 := fun x (hx : Ext wr x) => top_any g pp pc P wp wc wide hp hc high _ lc S x (hMr.more hx) hok.out.po hok.out.ho hok.out.wh (by omega) hw10 hok.out.on hok.out.all ha
                  have ht2 := fun x (hx : Ext wr x) => top_any g pp pc P wp wc wide hp hc high _ lc S x (hMr.more hx) hok.out.po hok.out.ho hok.out.wh (by omega) hw10 hok.out.on hok.out.all hb.out
                  generalize topS P high a = ta at *
                  generalize topS P high b = tb at *
                  have hwr1 : IntKind.i64.wrap (ta + ua) = ta + ua := IntWalk.i64_in _ (by omega)
                  have hwr2 : IntKind.i64.wrap (ta + ua - tb) = ta + ua - tb := IntWalk.i64_in _ (by omega)
                  have hwr3 : IntKind.i64.wrap (ta + ua - tb + 1) = ta + ua - tb + 1 := IntWalk.i64_in _ (by omega)
                  have hbn : 0 ≤ max ai (ta + ua - tb + 1) ∧ max ai (ta + ua - tb + 1) ≤ 2000001 * (r + 1) := by omega
                  replace hbe := Lib.hid hbe
                  replace hnx2 := Lib.hid hnx2
                  replace ha := Lib.hid ha
                  replace ht1 := Lib.hid ht1
                  replace ht2 := Lib.hid ht2
                  replace hbn := Lib.hid hbn
                  clear hMr hEl hrq huab
                  go_upto_region 16 with (go_at_call 66; (with_reducible refine Calls.mono hbe.out ?_); rintro e w2 ⟨rfl, hb2⟩)
                  refine wp_region_facts [] [([], false, false), ([], false, false), ([], false, false), ([], false, false), ([2, 3], false, false), ([2, 3, 4], false, false), ([], false, false), ([], false, false), ([6, 7], false, false), ([], false, false), ([], false, false), ([], false, false), ([10, 11], false, false), ([10, 11, 12], false, false), ([10, 11, 12, 13], false, false), ([9, 10, 11, 12, 13, 14], false, false), ([9, 10, 11, 12, 13, 14, 15], false, false), ([6, 7, 8, 9, 10, 11, 12, 13, 14, 15, 16], false, false), ([], false, false), ([], false, false), ([18, 19], false, false), ([6, 7, 8, 9, 10, 11, 12, 13, 14, 15, 16, 17, 18, 19, 20], false, false), ([6, 7, 8, 9, 10, 11, 12, 13, 14, 15, 16, 17, 18, 19, 20, 21], false, false), ([2, 3, 4, 5, 6, 7, 8, 9, 10, 11, 12, 13, 14, 15, 16, 17, 18, 19, 20, 21, 22], false, false)] (Ext) Ext (fun _ => True) (by kernel_rfl) (by kernel_rfl) Ext.refl (fun _ _ _ => Ext.trans) (fun _ _ h => h) (fun _ _ h => h.size) (fun _ _ h _ => h) trivial ?_
                  dsimp only [List.length_cons, List.length_nil, List.drop_succ_cons, List.drop_zero, List.drop_nil]
                  refine fac_quiet 0 rfl rfl rfl (fun _ _ h _ => h) rfl rfl ?_
                  apply Exists.intro
                  refine ⟨fun sv w' hw' hfa => ?_, ?_⟩
                  · refine ⟨rfl, ?_⟩
                    simp only [putsL]
                    change quietTo _ _ _ _ (Sem.run _ (execOp (Act.eval _) _) _)
                    try simp only [Act.put, List.setIfInBounds_toArray, List.set_cons_succ, List.set_cons_zero]
                    simp [go_sem, quietTo, Ext.refl]
                    all_goals first
                      | rfl
                  refine fac_quiet 1 rfl rfl rfl (fun _ _ h _ => h) rfl rfl ?_
                  apply Exists.intro
                  refine ⟨fun sv w' hw' hfa => ?_, ?_⟩
                  · refine ⟨rfl, ?_⟩
                    simp only [putsL]
                    change quietTo _ _ _ _ (Sem.run _ (execOp (Act.eval _) _) _)
                    try simp only [Act.put, List.setIfInBounds_toArray, List.set_cons_succ, List.set_cons_zero]
                    simp [go_sem, quietTo, Ext.refl]
                    all_goals first
                      | rfl
                  refine fac_quiet 2 rfl rfl rfl (fun _ _ h _ => h) rfl rfl ?_
                  apply Exists.intro
                  refine ⟨fun sv w' hw' hfa => ?_, ?_⟩
                  · refine ⟨rfl, ?_⟩
                    simp only [putsL]
                    change quietTo _ _ _ _ (Sem.run _ (execOp (Act.eval _) _) _)
                    try simp only [Act.put, List.setIfInBounds_toArray, List.set_cons_succ, List.set_cons_zero]
                    simp [go_sem, quietTo, Ext.refl]
                    all_goals first
                      | rfl
                  refine fac_quiet 3 rfl rfl rfl (fun _ _ h _ => h) rfl rfl ?_
                  apply Exists.intro
                  refine ⟨fun sv w' hw' hfa => ?_, ?_⟩
                  · refine ⟨rfl, ?_⟩
                    simp only [putsL]
                    change quietTo _ _ _ _ (Sem.run _ (execOp (Act.eval _) _) _)
                    try simp only [Act.put, List.setIfInBounds_toArray, List.set_cons_succ, List.set_cons_zero]
                    simp [go_sem, quietTo, Ext.refl]
                    all_goals first
                      | rfl
                  refine fac_quiet 4 rfl rfl rfl (fun _ _ h _ => h) rfl rfl ?_
                  apply Exists.intro
                  refine ⟨fun sv w' hw' hfa => ?_, ?_⟩
                  · obtain ⟨f2, f3, -⟩ := hfa
                    replace f2 : sv 2 = _ := f2
                    try dsimp only at f2
                    replace f3 : sv 3 = _ := f3
                    try dsimp only at f3
                    have hk9 := (Ext.refl w2).drew.trans hw'; have y9 := (hB.ext (hb2.trans hk9)); have y1 := rowI_cell y9 (arrL_at (acc := ai) (m := m) hll); have y2 := rowI_cell y9 (arrL_low (acc := ai) (m := m) hua); obtain ⟨hc9, hff, hz9⟩ := (hb2.trans hk9).walk; have v1 := (hc9 _ _ hsbw).trans c1
                    refine ⟨rfl, ?_⟩
                    simp only [putsL]
                    change quietTo _ _ _ _ (Sem.run _ (execOp (Act.eval (Act.put (Act.put _ (some 68) (sv 3)) (some 67) (sv 2))) _) _)
                    try simp only [Act.put, List.setIfInBounds_toArray, List.set_cons_succ, List.set_cons_zero]
                    simp [go_sem, quietTo, Ext.refl, ↓IntWalk.iteOmega, f2, f3, hrI]
                    all_goals try simp (disch := omega) only [IntWalk.i64_in]
                    all_goals first
                      | rfl
                  refine fac_quiet 5 rfl rfl rfl (fun _ _ h _ => h) rfl rfl ?_
                  apply Exists.intro
                  refine ⟨fun sv w' hw' hfa => ?_, ?_⟩
                  · obtain ⟨_, _, f4, -⟩ := hfa
                    replace f4 : sv 4 = _ := f4
                    try dsimp only at f4
                    have hk9 := (Ext.refl w2).drew.trans hw'; have y9 := (hB.ext (hb2.trans hk9)); have y1 := rowI_cell y9 (arrL_at (acc := ai) (m := m) hll); have y2 := rowI_cell y9 (arrL_low (acc := ai) (m := m) hua); obtain ⟨hc9, hff, hz9⟩ := (hb2.trans hk9).walk; have v1 := (hc9 _ _ hsbw).trans c1
                    refine ⟨rfl, ?_⟩
                    simp only [putsL]
                    change quietTo _ _ _ _ (Sem.run _ (execOp (Act.eval (Act.put (Act.put (Act.put _ (some 69) (sv 4)) (some 68) (sv 3)) (some 67) (sv 2))) _) _)
                    try simp only [Act.put, List.setIfInBounds_toArray, List.set_cons_succ, List.set_cons_zero]
                    simp [go_sem, quietTo, Ext.refl, ↓IntWalk.iteOmega, f4, y1]
                    all_goals try simp (disch := omega) only [IntWalk.i64_in]
                    all_goals first
                      | rfl
                  refine fac_quiet 6 rfl rfl rfl (fun _ _ h _ => h) rfl rfl ?_
                  apply Exists.intro
                  refine ⟨fun sv w' hw' hfa => ?_, ?_⟩
                  · refine ⟨rfl, ?_⟩
                    simp only [putsL]
                    change quietTo _ _ _ _ (Sem.run _ (execOp (Act.eval _) _) _)
                    try simp only [Act.put, List.setIfInBounds_toArray, List.set_cons_succ, List.set_cons_zero]
                    simp [go_sem, quietTo, Ext.refl]
                    all_goals first
                      | rfl
                  refine fac_quiet 7 rfl rfl rfl (fun _ _ h _ => h) rfl rfl ?_
                  apply Exists.intro
                  refine ⟨fun sv w' hw' hfa => ?_, ?_⟩
                  · refine ⟨rfl, ?_⟩
                    simp only [putsL]
                    change quietTo _ _ _ _ (Sem.run _ (execOp (Act.eval _) _) _)
                    try simp only [Act.put, List.setIfInBounds_toArray, List.set_cons_succ, List.set_cons_zero]
                    simp [go_sem, quietTo, Ext.refl]
                    all_goals first
                      | rfl
                  refine fac_quiet 8 rfl rfl rfl (fun _ _ h _ => h) rfl rfl ?_
                  apply Exists.intro
                  refine ⟨fun sv w' hw' hfa => ?_, ?_⟩
                  · obtain ⟨f6, f7, -⟩ := hfa
                    replace f6 : sv 6 = _ := f6
                    try dsimp only at f6
                    replace f7 : sv 7 = _ := f7
                    try dsimp only at f7
                    have hk9 := (Ext.refl w2).drew.trans hw'; have y9 := (hB.ext (hb2.trans hk9)); have y1 := rowI_cell y9 (arrL_at (acc := ai) (m := m) hll); have y2 := rowI_cell y9 (arrL_low (acc := ai) (m := m) hua); obtain ⟨hc9, hff, hz9⟩ := (hb2.trans hk9).walk; have v1 := (hc9 _ _ hsbw).trans c1
                    refine ⟨rfl, ?_⟩
                    simp only [putsL]
                    change quietTo _ _ _ _ (Sem.run _ (execOp (Act.eval (Act.put (Act.put _ (some 72) (sv 7)) (some 71) (sv 6))) _) _)
                    try simp only [Act.put, List.setIfInBounds_toArray, List.set_cons_succ, List.set_cons_zero]
                    simp [go_sem, quietTo, Ext.refl, ↓IntWalk.iteOmega, f6, f7]
                    all_goals try simp (disch := omega) only [IntWalk.i64_in]
                    all_goals first
                      | rfl
                      | (exact ht1.out _ (hb2.trans hk9))
                  refine fac_quiet 9 rfl rfl rfl (fun _ _ h _ => h) rfl rfl ?_
                  apply Exists.intro
                  refine ⟨fun sv w' hw' hfa => ?_, ?_⟩
                  · refine ⟨rfl, ?_⟩
                    simp only [putsL]
                    change quietTo _ _ _ _ (Sem.run _ (execOp (Act.eval _) _) _)
                    try simp only [Act.put, List.setIfInBounds_toArray, List.set_cons_succ, List.set_cons_zero]
                    simp [go_sem, quietTo, Ext.refl]
                    all_goals first
                      | rfl
                  refine fac_quiet 10 rfl rfl rfl (fun _ _ h _ => h) rfl rfl ?_
                  apply Exists.intro
                  refine ⟨fun sv w' hw' hfa => ?_, ?_⟩
                  · refine ⟨rfl, ?_⟩
                    simp only [putsL]
                    change quietTo _ _ _ _ (Sem.run _ (execOp (Act.eval _) _) _)
                    try simp only [Act.put, List.setIfInBounds_toArray, List.set_cons_succ, List.set_cons_zero]
                    simp [go_sem, quietTo, Ext.refl]
                    all_goals first
                      | rfl
                  refine fac_quiet 11 rfl rfl rfl (fun _ _ h _ => h) rfl rfl ?_
                  apply Exists.intro
                  refine ⟨fun sv w' hw' hfa => ?_, ?_⟩
                  · refine ⟨rfl, ?_⟩
                    simp only [putsL]
                    change quietTo _ _ _ _ (Sem.run _ (execOp (Act.eval _) _) _)
                    try simp only [Act.put, List.setIfInBounds_toArray, List.set_cons_succ, List.set_cons_zero]
                    simp [go_sem, quietTo, Ext.refl]
                    all_goals first
                      | rfl
                  refine fac_quiet 12 rfl rfl rfl (fun _ _ h _ => h) rfl rfl ?_
                  apply Exists.intro
                  refine ⟨fun sv w' hw' hfa => ?_, ?_⟩
                  · obtain ⟨f10, f11, -⟩ := hfa
                    replace f10 : sv 10 = _ := f10
                    try dsimp only at f10
                    replace f11 : sv 11 = _ := f11
                    try dsimp only at f11
                    have hk9 := (Ext.refl w2).drew.trans hw'; have y9 := (hB.ext (hb2.trans hk9)); have y1 := rowI_cell y9 (arrL_at (acc := ai) (m := m) hll); have y2 := rowI_cell y9 (arrL_low (acc := ai) (m := m) hua); obtain ⟨hc9, hff, hz9⟩ := (hb2.trans hk9).walk; have v1 := (hc9 _ _ hsbw).trans c1
                    refine ⟨rfl, ?_⟩
                    simp only [putsL]
                    change quietTo _ _ _ _ (Sem.run _ (execOp (Act.eval (Act.put (Act.put _ (some 76) (sv 11)) (some 75) (sv 10))) _) _)
                    try simp only [Act.put, List.setIfInBounds_toArray, List.set_cons_succ, List.set_cons_zero]
                    simp [go_sem, quietTo, Ext.refl, ↓IntWalk.iteOmega, f10, f11, hiI]
                    all_goals try simp (disch := omega) only [IntWalk.i64_in]
                    all_goals first
                      | rfl
                  refine fac_quiet 13 rfl rfl rfl (fun _ _ h _ => h) rfl rfl ?_
                  apply Exists.intro
                  refine ⟨fun sv w' hw' hfa => ?_, ?_⟩
                  · obtain ⟨_, _, f12, -⟩ := hfa
                    replace f12 : sv 12 = _ := f12
                    try dsimp only at f12
                    refine ⟨rfl, ?_⟩
                    simp only [putsL]
                    change quietTo _ _ _ _ (Sem.run _ (execOp (Act.eval (Act.put (Act.put (Act.put _ (some 77) (sv 12)) (some 76) (sv 11)) (some 75) (sv 10))) _) _)
                    try simp only [Act.put, List.setIfInBounds_toArray, List.set_cons_succ, List.set_cons_zero]
                    simp [go_sem, quietTo, Ext.refl, f12]
                    all_goals first
                      | rfl
                  refine fac_quiet 14 rfl rfl rfl (fun _ _ h _ => h) rfl rfl ?_
                  apply Exists.intro
                  refine ⟨fun sv w' hw' hfa => ?_, ?_⟩
                  · obtain ⟨_, _, _, f13, -⟩ := hfa
                    replace f13 : sv 13 = _ := f13
                    try dsimp only at f13
                    have hk9 := (Ext.refl w2).drew.trans hw'; have y9 := (hB.ext (hb2.trans hk9)); have y1 := rowI_cell y9 (arrL_at (acc := ai) (m := m) hll); have y2 := rowI_cell y9 (arrL_low (acc := ai) (m := m) hua); obtain ⟨hc9, hff, hz9⟩ := (hb2.trans hk9).walk; have v1 := (hc9 _ _ hsbw).trans c1
                    refine ⟨rfl, ?_⟩
                    simp only [putsL]
                    change quietTo _ _ _ _ (Sem.run _ (execOp (Act.eval (Act.put (Act.put (Act.put (Act.put _ (some 78) (sv 13)) (some 77) (sv 12)) (some 76) (sv 11)) (some 75) (sv 10))) _) _)
                    try simp only [Act.put, List.setIfInBounds_toArray, List.set_cons_succ, List.set_cons_zero]
                    simp [go_sem, quietTo, Ext.refl, ↓IntWalk.iteOmega, f13, v1]
                    all_goals try simp (disch := omega) only [IntWalk.i64_in]
                    all_goals first
                      | rfl
                  refine fac_quiet 15 rfl rfl rfl (fun _ _ h _ => h) rfl rfl ?_
                  apply Exists.intro
                  refine ⟨fun sv w' hw' hfa => ?_, ?_⟩
                  · obtain ⟨f9, _, _, _, _, f14, -⟩ := hfa
                    replace f9 : sv 9 = _ := f9
                    try dsimp only at f9
                    replace f14 : sv 14 = _ := f14
                    try dsimp only at f14
                    have hk9 := (Ext.refl w2).drew.trans hw'; have y9 := (hB.ext (hb2.trans hk9)); have y1 := rowI_cell y9 (arrL_at (acc := ai) (m := m) hll); have y2 := rowI_cell y9 (arrL_low (acc := ai) (m := m) hua); obtain ⟨hc9, hff, hz9⟩ := (hb2.trans hk9).walk; have v1 := (hc9 _ _ hsbw).trans c1
                    refine ⟨rfl, ?_⟩
                    simp only [putsL]
                    change quietTo _ _ _ _ (Sem.run _ (execOp (Act.eval (Act.put (Act.put (Act.put (Act.put (Act.put (Act.put _ (some 79) (sv 14)) (some 78) (sv 13)) (some 77) (sv 12)) (some 76) (sv 11)) (some 75) (sv 10)) (some 74) (sv 9))) _) _)
                    try simp only [Act.put, List.setIfInBounds_toArray, List.set_cons_succ, List.set_cons_zero]
                    simp [go_sem, quietTo, Ext.refl, ↓IntWalk.iteOmega, f9, f14, hraI]
                    all_goals try simp (disch := omega) only [IntWalk.i64_in]
                    all_goals first
                      | rfl
                  refine fac_quiet 16 rfl rfl rfl (fun _ _ h _ => h) rfl rfl ?_
                  apply Exists.intro
                  refine ⟨fun sv w' hw' hfa => ?_, ?_⟩
                  · obtain ⟨_, _, _, _, _, _, f15, -⟩ := hfa
                    replace f15 : sv 15 = _ := f15
                    try dsimp only at f15
                    have hk9 := (Ext.refl w2).drew.trans hw'; have y9 := (hB.ext (hb2.trans hk9)); have y1 := rowI_cell y9 (arrL_at (acc := ai) (m := m) hll); have y2 := rowI_cell y9 (arrL_low (acc := ai) (m := m) hua); obtain ⟨hc9, hff, hz9⟩ := (hb2.trans hk9).walk; have v1 := (hc9 _ _ hsbw).trans c1
                    refine ⟨rfl, ?_⟩
                    simp only [putsL]
                    change quietTo _ _ _ _ (Sem.run _ (execOp (Act.eval (Act.put (Act.put (Act.put (Act.put (Act.put (Act.put (Act.put _ (some 80) (sv 15)) (some 79) (sv 14)) (some 78) (sv 13)) (some 77) (sv 12)) (some 76) (sv 11)) (some 75) (sv 10)) (some 74) (sv 9))) _) _)
                    try simp only [Act.put, List.setIfInBounds_toArray, List.set_cons_succ, List.set_cons_zero]
                    simp [go_sem, quietTo, Ext.refl, ↓IntWalk.iteOmega, f15, y2]
                    all_goals try simp (disch := omega) only [IntWalk.i64_in]
                    all_goals first
                      | rfl
                  refine fac_quiet 17 rfl rfl rfl (fun _ _ h _ => h) rfl rfl ?_
                  apply Exists.intro
                  refine ⟨fun sv w' hw' hfa => ?_, ?_⟩
                  · obtain ⟨_, _, f8, _, _, _, _, _, _, _, f16, -⟩ := hfa
                    replace f8 : sv 8 = _ := f8
                    try dsimp only at f8
                    replace f16 : sv 16 = _ := f16
                    try dsimp only at f16
                    have hk9 := (Ext.refl w2).drew.trans hw'; have y9 := (hB.ext (hb2.trans hk9)); have y1 := rowI_cell y9 (arrL_at (acc := ai) (m := m) hll); have y2 := rowI_cell y9 (arrL_low (acc := ai) (m := m) hua); obtain ⟨hc9, hff, hz9⟩ := (hb2.trans hk9).walk; have v1 := (hc9 _ _ hsbw).trans c1
                    refine ⟨rfl, ?_⟩
                    simp only [putsL]
                    change quietTo _ _ _ _ (Sem.run _ (execOp (Act.eval (Act.put (Act.put (Act.put (Act.put (Act.put (Act.put (Act.put (Act.put (Act.put (Act.put (Act.put _ (some 81) (sv 16)) (some 80) (sv 15)) (some 79) (sv 14)) (some 78) (sv 13)) (some 77) (sv 12)) (some 76) (sv 11)) (some 75) (sv 10)) (some 74) (sv 9)) (some 73) (sv 8)) (some 72) (sv 7)) (some 71) (sv 6))) _) _)
                    try simp only [Act.put, List.setIfInBounds_toArray, List.set_cons_succ, List.set_cons_zero]
                    simp [go_sem, quietTo, Ext.refl, ↓IntWalk.iteOmega, f8, f16, hwr1]
                    all_goals try simp (disch := omega) only [IntWalk.i64_in]
                    all_goals first
                      | rfl
                  refine fac_quiet 18 rfl rfl rfl (fun _ _ h _ => h) rfl rfl ?_
                  apply Exists.intro
                  refine ⟨fun sv w' hw' hfa => ?_, ?_⟩
                  · refine ⟨rfl, ?_⟩
                    simp only [putsL]
                    change quietTo _ _ _ _ (Sem.run _ (execOp (Act.eval _) _) _)
                    try simp only [Act.put, List.setIfInBounds_toArray, List.set_cons_succ, List.set_cons_zero]
                    simp [go_sem, quietTo, Ext.refl]
                    all_goals first
                      | rfl
                  refine fac_quiet 19 rfl rfl rfl (fun _ _ h _ => h) rfl rfl ?_
                  apply Exists.intro
                  refine ⟨fun sv w' hw' hfa => ?_, ?_⟩
                  · refine ⟨rfl, ?_⟩
                    simp only [putsL]
                    change quietTo _ _ _ _ (Sem.run _ (execOp (Act.eval _) _) _)
                    try simp only [Act.put, List.setIfInBounds_toArray, List.set_cons_succ, List.set_cons_zero]
                    simp [go_sem, quietTo, Ext.refl]
                    all_goals first
                      | rfl
                  refine fac_quiet 20 rfl rfl rfl (fun _ _ h _ => h) rfl rfl ?_
                  apply Exists.intro
                  refine ⟨fun sv w' hw' hfa => ?_, ?_⟩
                  · obtain ⟨f18, f19, -⟩ := hfa
                    replace f18 : sv 18 = _ := f18
                    try dsimp only at f18
                    replace f19 : sv 19 = _ := f19
                    try dsimp only at f19
                    have hk9 := (Ext.refl w2).drew.trans hw'; have y9 := (hB.ext (hb2.trans hk9)); have y1 := rowI_cell y9 (arrL_at (acc := ai) (m := m) hll); have y2 := rowI_cell y9 (arrL_low (acc := ai) (m := m) hua); obtain ⟨hc9, hff, hz9⟩ := (hb2.trans hk9).walk; have v1 := (hc9 _ _ hsbw).trans c1
                    refine ⟨rfl, ?_⟩
                    simp only [putsL]
                    change quietTo _ _ _ _ (Sem.run _ (execOp (Act.eval (Act.put (Act.put _ (some 84) (sv 19)) (some 83) (sv 18))) _) _)
                    try simp only [Act.put, List.setIfInBounds_toArray, List.set_cons_succ, List.set_cons_zero]
                    simp [go_sem, quietTo, Ext.refl, ↓IntWalk.iteOmega, f18, f19]
                    all_goals try simp (disch := omega) only [IntWalk.i64_in]
                    all_goals first
                      | rfl
                      | (exact ht2.out _ (hb2.trans hk9))
                  refine fac_quiet 21 rfl rfl rfl (fun _ _ h _ => h) rfl rfl ?_
                  apply Exists.intro
                  refine ⟨fun sv w' hw' hfa => ?_, ?_⟩
                  · obtain ⟨_, _, _, _, _, _, _, _, _, _, _, f17, _, _, f20, -⟩ := hfa
                    replace f17 : sv 17 = _ := f17
                    try dsimp only at f17
                    replace f20 : sv 20 = _ := f20
                    try dsimp only at f20
                    have hk9 := (Ext.refl w2).drew.trans hw'; have y9 := (hB.ext (hb2.trans hk9)); have y1 := rowI_cell y9 (arrL_at (acc := ai) (m := m) hll); have y2 := rowI_cell y9 (arrL_low (acc := ai) (m := m) hua); obtain ⟨hc9, hff, hz9⟩ := (hb2.trans hk9).walk; have v1 := (hc9 _ _ hsbw).trans c1
                    refine ⟨rfl, ?_⟩
                    simp only [putsL]
                    change quietTo _ _ _ _ (Sem.run _ (execOp (Act.eval (Act.put (Act.put (Act.put (Act.put (Act.put (Act.put (Act.put (Act.put (Act.put (Act.put (Act.put (Act.put (Act.put (Act.put (Act.put _ (some 85) (sv 20)) (some 84) (sv 19)) (some 83) (sv 18)) (some 82) (sv 17)) (some 81) (sv 16)) (some 80) (sv 15)) (some 79) (sv 14)) (some 78) (sv 13)) (some 77) (sv 12)) (some 76) (sv 11)) (some 75) (sv 10)) (some 74) (sv 9)) (some 73) (sv 8)) (some 72) (sv 7)) (some 71) (sv 6))) _) _)
                    try simp only [Act.put, List.setIfInBounds_toArray, List.set_cons_succ, List.set_cons_zero]
                    simp [go_sem, quietTo, Ext.refl, ↓IntWalk.iteOmega, f17, f20, hwr2]
                    all_goals try simp (disch := omega) only [IntWalk.i64_in]
                    all_goals first
                      | rfl
                  refine fac_quiet 22 rfl rfl rfl (fun _ _ h _ => h) rfl rfl ?_
                  apply Exists.intro
                  refine ⟨fun sv w' hw' hfa => ?_, ?_⟩
                  · obtain ⟨_, _, _, _, _, _, _, _, _, _, _, _, _, _, _, f21, -⟩ := hfa
                    replace f21 : sv 21 = _ := f21
                    try dsimp only at f21
                    have hk9 := (Ext.refl w2).drew.trans hw'; have y9 := (hB.ext (hb2.trans hk9)); have y1 := rowI_cell y9 (arrL_at (acc := ai) (m := m) hll); have y2 := rowI_cell y9 (arrL_low (acc := ai) (m := m) hua); obtain ⟨hc9, hff, hz9⟩ := (hb2.trans hk9).walk; have v1 := (hc9 _ _ hsbw).trans c1
                    refine ⟨rfl, ?_⟩
                    simp only [putsL]
                    change quietTo _ _ _ _ (Sem.run _ (execOp (Act.eval (Act.put (Act.put (Act.put (Act.put (Act.put (Act.put (Act.put (Act.put (Act.put (Act.put (Act.put (Act.put (Act.put (Act.put (Act.put (Act.put _ (some 86) (sv 21)) (some 85) (sv 20)) (some 84) (sv 19)) (some 83) (sv 18)) (some 82) (sv 17)) (some 81) (sv 16)) (some 80) (sv 15)) (some 79) (sv 14)) (some 78) (sv 13)) (some 77) (sv 12)) (some 76) (sv 11)) (some 75) (sv 10)) (some 74) (sv 9)) (some 73) (sv 8)) (some 72) (sv 7)) (some 71) (sv 6))) _) _)
                    try simp only [Act.put, List.setIfInBounds_toArray, List.set_cons_succ, List.set_cons_zero]
                    simp [go_sem, quietTo, Ext.refl, ↓IntWalk.iteOmega, f21, hwr3]
                    all_goals try simp (disch := omega) only [IntWalk.i64_in]
                    all_goals first
                      | rfl
                  refine fac_quiet 23 rfl rfl rfl (fun _ _ h _ => h) rfl rfl ?_
                  apply Exists.intro
                  refine ⟨fun sv w' hw' hfa => ?_, ?_⟩
                  · obtain ⟨_, _, _, f5, _, _, _, _, _, _, _, _, _, _, _, _, _, _, _, _, f22, -⟩ := hfa
                    replace f5 : sv 5 = _ := f5
                    try dsimp only at f5
                    replace f22 : sv 22 = _ := f22
                    try dsimp only at f22
                    refine ⟨rfl, ?_⟩
                    simp only [putsL]
                    change quietTo _ _ _ _ (Sem.run _ (execOp (Act.eval (Act.put (Act.put (Act.put (Act.put (Act.put (Act.put (Act.put (Act.put (Act.put (Act.put (Act.put (Act.put (Act.put (Act.put (Act.put (Act.put (Act.put (Act.put (Act.put (Act.put (Act.put _ (some 87) (sv 22)) (some 86) (sv 21)) (some 85) (sv 20)) (some 84) (sv 19)) (some 83) (sv 18)) (some 82) (sv 17)) (some 81) (sv 16)) (some 80) (sv 15)) (some 79) (sv 14)) (some 78) (sv 13)) (some 77) (sv 12)) (some 76) (sv 11)) (some 75) (sv 10)) (some 74) (sv 9)) (some 73) (sv 8)) (some 72) (sv 7)) (some 71) (sv 6)) (some 70) (sv 5)) (some 69) (sv 4)) (some 68) (sv 3)) (some 67) (sv 2))) _) _)
                    try simp only [Act.put, List.setIfInBounds_toArray, List.set_cons_succ, List.set_cons_zero]
                    simp [go_sem, quietTo, Ext.refl, ↓IntWalk.iteOmega, f5, f22]
                    all_goals try simp (disch := omega) only [IntWalk.i64_in]
                    all_goals first
                      | rfl
                  refine fac_nil fun xq wrq herq hfrq hcrq holdq hapq => ?_
                  obtain ⟨f0, f1, f2, f3, f4, f5, f6, f7, f8, f9, f10, f11, f12, f13, f14, f15, f16, f17, f18, f19, f20, f21, f22, f23, -⟩ := hfrq
                  replace f0 : xq 0 = _ := f0
                  try dsimp only at f0
                  replace f1 : xq 1 = _ := f1
                  try dsimp only at f1
                  replace f2 : xq 2 = _ := f2
                  try dsimp only at f2
                  replace f3 : xq 3 = _ := f3
                  try dsimp only at f3
                  replace f4 : xq 4 = _ := f4
                  try dsimp only at f4
                  replace f5 : xq 5 = _ := f5
                  try dsimp only at f5
                  replace f6 : xq 6 = _ := f6
                  try dsimp only at f6
                  replace f7 : xq 7 = _ := f7
                  try dsimp only at f7
                  replace f8 : xq 8 = _ := f8
                  try dsimp only at f8
                  replace f9 : xq 9 = _ := f9
                  try dsimp only at f9
                  replace f10 : xq 10 = _ := f10
                  try dsimp only at f10
                  replace f11 : xq 11 = _ := f11
                  try dsimp only at f11
                  replace f12 : xq 12 = _ := f12
                  try dsimp only at f12
                  replace f13 : xq 13 = _ := f13
                  try dsimp only at f13
                  replace f14 : xq 14 = _ := f14
                  try dsimp only at f14
                  replace f15 : xq 15 = _ := f15
                  try dsimp only at f15
                  replace f16 : xq 16 = _ := f16
                  try dsimp only at f16
                  replace f17 : xq 17 = _ := f17
                  try dsimp only at f17
                  replace f18 : xq 18 = _ := f18
                  try dsimp only at f18
                  replace f19 : xq 19 = _ := f19
                  try dsimp only at f19
                  replace f20 : xq 20 = _ := f20
                  try dsimp only at f20
                  replace f21 : xq 21 = _ := f21
                  try dsimp only at f21
                  replace f22 : xq 22 = _ := f22
                  try dsimp only at f22
                  replace f23 : xq 23 = _ := f23
                  try dsimp only at f23
                  change wpList _ _ _ _ (Act.put (Act.put (Act.put (Act.put (Act.put (Act.put (Act.put (Act.put (Act.put (Act.put (Act.put (Act.put (Act.put (Act.put (Act.put (Act.put (Act.put (Act.put (Act.put (Act.put (Act.put (Act.put (Act.put (Act.put _ (some 65) (xq 0)) (some 66) (xq 1)) (some 67) (xq 2)) (some 68) (xq 3)) (some 69) (xq 4)) (some 70) (xq 5)) (some 71) (xq 6)) (some 72) (xq 7)) (some 73) (xq 8)) (some 74) (xq 9)) (some 75) (xq 10)) (some 76) (xq 11)) (some 77) (xq 12)) (some 78) (xq 13)) (some 79) (xq 14)) (some 80) (xq 15)) (some 81) (xq 16)) (some 82) (xq 17)) (some 83) (xq 18)) (some 84) (xq 19)) (some 85) (xq 20)) (some 86) (xq 21)) (some 87) (xq 22)) (some 88) (xq 23)) _
                  simp only [putsL, Nat.reduceAdd, List.drop_succ_cons, List.drop_zero, List.drop_nil, Act.put, List.setIfInBounds_toArray, List.set_cons_succ, List.set_cons_zero]
                  try simp only [f0, f1, f2, f3, f4, f5, f6, f7, f8, f9, f10, f11, f12, f13, f14, f15, f16, f17, f18, f19, f20, f21, f22, f23]
                  clear f0 f1 f2 f3 f4 f5 f6 f7 f8 f9 f10 f11 f12 f13 f14 f15 f16 f17 f18 f19 f20 f21 f22 f23
                  clear holdq hapq
                  have hkq := hb2.trans ((Ext.refl w2).drew.trans herq)
                  have hBq := hB.ext hkq
                  have hcq := rowI_cell hBq (arrL_at (acc := ai) (m := m) hll)
                  have hfq := hBq.frozen
                  go_wp2
                  have hset := rowI_set hBq r (max ai (ta + ua - tb + 1))
                  rw [arrL_set hll] at hset
                  go_roundw
                  case rel => exact ⟨i + 1, by go_num, by omega, by rw [hnx2.out]; exact hset, (hE.trans hkq).setCell (by simp) _, by rw [hnx2.out]; exact hbn.out⟩
                  case measure => simp [intOf]; omega
              · have hn := hnx2
                rw [decide_eq_false hbr] at hn
                simp only [Bool.false_and, Bool.false_eq_true, if_false] at hn
                replace hn := Lib.hid hn
                replace ha := Lib.hid ha
                clear hMr hEl hbe hnx2
                go_wp2
                go_roundw
                case rel => exact ⟨i + 1, by go_num, by omega, by rw [hn.out]; exact hB, hE, by rw [hn.out]; exact ⟨hb0, hb1'⟩⟩
                case measure => simp [intOf]; omega
            · obtain rfl : i = S.length := by omega
              rw [accI_all, ← hnx.out] at hB hb0 hb1'
              replace hB := Lib.hid hB
              go_wp2
              go_roundw
              case rel => exact ⟨k + 1, by go_num, by omega, hB.out, hE, hb0, hb1'⟩
              case measure => simp [intOf]; omega
        · obtain rfl : k = S.length := by omega
          rw [accK_all] at hB hb0 hb1'
          have hfin := harr2 (liftR P wide high (liftL P wide high S r) r S v0)
          rw [← hfin, ← hsuc.out] at hB
          replace hB := Lib.hid hB
          replace hfin := Lib.hid hfin
          go_wp2
          go_roundw
          case rel =>
            refine ⟨r, by go_num, hlt, hB.out, hE, fun v hv => ?_⟩
            rw [hsuc.out] at hv
            rcases List.mem_append.1 hv with h | h
            · have := hbd.out v h
              have := hr.out
              omega
            · rw [List.mem_singleton] at h
              subst h
              exact ⟨hb0, hb1'⟩
          case measure => simp [intOf]; omega
    · obtain rfl : r = wide.length := by omega
      have hrI : ¬ ((wide.length : Nat) : Int) < wide.length := by omega
      rw [Nat.sub_self, List.replicate_zero, List.append_nil] at hB
      replace hB := Lib.hid hB
      replace hr := Lib.hid hr
      replace hbd := Lib.hid hbd
      go_wp2
      go_ret2
      exact ⟨_, rfl, hE1.size, hB.out, hE1.trans hE⟩
end Go.Proofs.YtfcoeikekbjgpaaGreatDoor
