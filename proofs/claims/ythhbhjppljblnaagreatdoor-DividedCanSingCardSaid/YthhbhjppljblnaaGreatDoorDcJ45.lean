/- Maps from names to numbers; the singers of a moment and a singer's range, by the program; a part found by its name. Conditions: sizes. Plain mathematics: a best division gives each singer a part that they can sing, and each part as many as it needs. Conditions: as each theorem says. -/
import Derived.Test.YthhbhjppljblnaaGreatDoorDcDvK
import Derived.Test.YthhbhjppljblnaaGreatDoorDcJ4
set_option linter.unusedSimpArgs false
set_option linter.unusedVariables false
namespace Go.Proofs.YthhbhjppljblnaaGreatDoor
open Go Go.RowKit Go.Maps Go.Sort Go.Shelf

def strI : KMap Tryz.prog ByteArray Int where
  kt := 9
  mt := 65
  vt := 3
  kv := fun p => .string p
  ok := fun p => p.size ≤ 1000
  val := fun v => .int .i64 v
  dat := fun v => .lit (.int .i64 v)
  rd := intRd
  zero := 0
  keyed := string_keyed Tryz.underlying9
  key := fun p h => ⟨_, keyv_of h⟩
  inj := fun a b _ _ e => by cases e; rfl
  rd_mk := fun _ => rfl
  rd_inv := fun u v ps h => by
    unfold intRd at h
    split at h
    · simp only [Option.some.injEq, Prod.mk.injEq, DataW.lit.injEq, Lit.int.injEq, true_and] at h
      rw [h.1]
    · cases h
  und := Tryz.underlying65
  zer := fun w => Tryz.zeroValue3 w
theorem voices_right {V : List VoiceV} (h : voicesF V = 0) : ∀ x ∈ V, keyB x.name = true ∧ rightR x.lo x.hi = true := by
  unfold voicesF at h
  have hz : ∀ k, k ≤ V.length → Zeros (chkVoi V) k := by
    intro k
    induction k with
    | zero => intro _ j hj; omega
    | succ k ih =>
      intro hk
      have hz := ih (by omega)
      refine hz.succ ?_
      rcases (inferInstance : Decidable (chkVoi V k = 0)) with hn | hy
      · have := scan_at (n := V.length) k (by omega) hz hn
        rw [h] at this
        exact this.symm
      · exact hy
  intro x hx
  obtain ⟨i, hi, e⟩ := List.getElem_of_mem hx
  have h0 := hz V.length (Nat.le_refl _) i hi
  unfold chkVoi at h0
  rw [atL_of (show V[i]? = some x by rw [List.getElem?_eq_getElem hi, e])] at h0
  cases hk : keyB x.name with
  | false => rw [hk] at h0; cases h0
  | true =>
    rw [hk] at h0
    cases hr : rightR x.lo x.hi with
    | false => rw [hr] at h0; simp at h0
    | true => exact ⟨rfl, rfl⟩
theorem parts_once {P : List PartV} (h : partsF P = 0) {i j : Nat} {x y : PartV} (hi : P[i]? = some x) (hj : P[j]? = some y) (hij : i < j) : x.name.toList ≠ y.name.toList := fun e => by
  obtain ⟨hl, -⟩ := partsF_right h
  unfold partsF at h
  rw [if_neg (by omega)] at h
  have hz : ∀ k, k ≤ P.length → Zeros (chkPart P) k := by
    intro k
    induction k with
    | zero => intro _ j hj; omega
    | succ k ih =>
      intro hk
      have hz := ih (by omega)
      refine hz.succ ?_
      rcases (inferInstance : Decidable (chkPart P k = 0)) with hn | hy
      · have := scan_at (n := P.length) k (by omega) hz hn
        rw [h] at this
        exact this.symm
      · exact hy
  have h0 := hz P.length (Nat.le_refl _) j (List.getElem?_eq_some_iff.1 hj).1
  unfold chkPart at h0
  rw [atL_of hj] at h0
  have hn : nameIn P j y.name = true := by
    unfold nameIn
    rw [List.any_eq_true]
    exact ⟨x, List.mem_of_getElem? (i := i) (by rw [List.getElem?_take, if_pos hij]; exact hi), by rw [e]; exact beq_self_eq_true _⟩
  cases hk : keyB y.name with
  | false => rw [hk] at h0; cases h0
  | true =>
    rw [hk, hn] at h0
    cases h0
theorem singers_key {V : List VoiceV} (h : voicesF V = 0) {t : Int} : ∀ p ∈ singersL V t, keyB p = true := fun p hp => by
  unfold singersL at hp
  rw [onceL_mem] at hp
  obtain ⟨x, hx, rfl⟩ := List.mem_map.1 hp
  exact (voices_right h x (List.mem_of_mem_take (List.mem_filter.1 hx).1)).1
theorem comfortC_good (a b c d : Int) (w : World) (h1 : rightR a b = true) (h2 : rightR c d = true) (h3 : 0 ≤ comfN a b c d) :
    Calls Tryz.prog 38 #[.agg #[.int .i64 a, .int .i64 b], .agg #[.int .i64 c, .int .i64 d]] w fun e w' => e = .returned (.tuple #[.int .i64 (comfN a b c d), .bool true, .int .i64 0]) ∧ Ext w w' :=
  (Comfort_any a b c d w).mono fun e w' ⟨h, hE⟩ => ⟨by
    rw [h, h1, h2]
    simp only [Bool.and_self, if_true]
    rw [decide_eq_true h3, Int.max_eq_left h3], hE⟩
section
variable {w : World} {vp pp : Option Addr} {vc pc : Nat} {V : List VoiceV} {P : List PartV}
set_option maxRecDepth 100000 in
set_option maxHeartbeats 1600000 in
theorem singersV_good (h : VpM w vp vc V pp pc P) (t : Int) (hz : voicesF V = 0) (hm : momB t = true) :
    Calls Tryz.prog 33 #[.slice vp V.length vc, .int .i64 t] w fun e w' => ∃ (sp : Option Addr) (sc : Nat), e = .returned (.tuple #[.slice sp (singersL V t).length sc, .int .i64 0]) ∧ Slc 1 strC w' sp (singersL V t).length sc (singersL V t) ∧ Ext w w' := by
  have h1 := checkVoices_any vp V.length vc V w h.voi.1 h.sV h.nV
  have hmo := mom_call t
  have hra := fun u (hu : Ext w u) => rangesAt_any vp V.length vc V t u (h.voi.ext hu).1 h.sV h.nV
  rw [hz] at h1
  rw [hm] at hmo
  have hnV := h.nV
  have hSl := singers_len V t
  have hrise := singers_rise V t
  have hmem := fun p => singers_mem (V := V) (t := t) p
  generalize singersL V t = S at *
  replace h1 := Lib.hid h1
  replace hmo := Lib.hid hmo
  replace hra := Lib.hid hra
  replace hrise := Lib.hid hrise
  replace hmem := Lib.hid hmem
  clear h hz
  go_enter Tryz.func33, Tryz.ntmps33
  go_wp2_with (first
    | (go_at_call 76; (with_reducible refine Calls.mono h1.out ?_); rintro e w1 ⟨rfl, hb1⟩)
    | (go_at_call 65; (with_reducible refine Calls.mono (hmo.out _ _ _ _ (by exact Blk.new' rfl)) ?_); rintro e w2 ⟨rfl, hb2⟩; simp only [if_true]; have hE2 := (hb1.alloc _).trans hb2)
    | (go_at_call 79; (with_reducible refine Calls.mono (hra.out _ hE2) ?_); rintro e w3 ⟨gm, rfl, hgm, hO3, hb3⟩; have hE3 := hE2.trans hb3; have hsr := sortedR_any hO3 (by omega) S hrise.out hmem.out; replace hsr := Lib.hid hsr; replace hO3 := Lib.hid hO3)
    | (go_at_call 78; (with_reducible refine Calls.mono (keysR_any _ _) ?_); rintro e w4 ⟨rfl, rfl⟩)
    | (go_at_call 77; (with_reducible refine Calls.mono hsr.out ?_); rintro e w5 ⟨sp, sc, rfl, hown5, hb5⟩))
  obtain ⟨q9, d9, hq9, hs9⟩ := slc_of_own (enc := strC) (fun _ => rfl) hown5 (by decide) (by omega)
  cases hq9
  go_ret2
  exact ⟨_, _, rfl, hs9, hE3.trans hb5⟩
set_option maxRecDepth 100000 in
set_option maxHeartbeats 1600000 in
theorem rangeAtV_good (h : VpM w vp vc V pp pc P) (t : Int) (hz : voicesF V = 0) (hm : momB t = true) (p : ByteArray) (hp : p.size ≤ 1000) (hk : keyB p = true) {a b : Int} (hr : rgS V t V.length p = some (a, b)) :
    Calls Tryz.prog 37 #[.slice vp V.length vc, .string p, .int .i64 t] w fun e w' => e = .returned (.tuple #[.agg #[.int .i64 a, .int .i64 b], .bool true, .int .i64 0]) ∧ Ext w w' := by
  have h1 := fun u (hu : Ext w u) => checkVoices_any vp V.length vc V u (h.voi.ext hu).1 h.sV h.nV
  have hsi : ∀ u g ty cap, Blk u g ty #[.int .i64 t] → Calls Tryz.prog 82 #[.string p, .slice (some ⟨g, 0, none⟩) 1 cap] u fun e w' => e = .returned (.int .i64 0) ∧ Ext u w' := fun u g ty cap hB => by
    have := singerFault1_any p t g ty cap u hp hB
    rw [hk, hm] at this
    exact this
  have hra := fun u (hu : Ext w u) => rangesAt_any vp V.length vc V t u (h.voi.ext hu).1 h.sV h.nV
  simp only [hz] at h1
  replace h1 := Lib.hid h1
  replace hsi := Lib.hid hsi
  replace hra := Lib.hid hra
  replace hr := Lib.hid hr
  clear h hz
  go_enter Tryz.func37, Tryz.ntmps37
  go_upto_region 1 with fail
  have hB0 : Blk (w.alloc (.cells #[.int .i64 0, .int .i64 0] 68)) w.heap.size 68 #[.int .i64 0, .int .i64 0] := Blk.new' rfl
  have hE0 : Ext w (w.alloc (.cells #[.int .i64 0, .int .i64 0] 68)) := (Ext.refl _).alloc _
  have hg0 : w.heap.size ≤ w.heap.size := Nat.le_refl _
  generalize w.alloc (.cells #[.int .i64 0, .int .i64 0] 68) = W0 at *
  generalize hgg : w.heap.size = g0 at *
  replace hgg := Lib.hid hgg
  go_wp2_with (first
    | (go_at_call 76; (with_reducible refine Calls.mono (h1.out _ hE0) ?_); rintro e w1 ⟨rfl, hb1⟩; have hE1 := hE0.trans hb1)
    | (go_at_call 82; (with_reducible refine Calls.mono (hsi.out _ _ _ _ (by exact Blk.new' rfl)) ?_); rintro e w2 ⟨rfl, hb2⟩; have hE2 := (hE1.alloc _).trans hb2; have hB2 := hB0.ext ((hb1.alloc _).trans hb2))
    | (go_at_call 79; (with_reducible refine Calls.mono (hra.out _ hE2) ?_); rintro e w3 ⟨gm, rfl, hgm, hO3, hb3⟩; have hE3 := hE2.trans hb3; have hlk := hO3.look_ok hp; rw [hr.out] at hlk; replace hlk := Lib.hid hlk; have hB3 := hB2.ext hb3; have hB4 := hB3.ext (((Ext.refl w3).alloc (.cells #[.int .i64 a, .int .i64 b] 68))); obtain ⟨y1, y2⟩ := hB4.walk; have y3 := hB4.lt; have y4 := hB3.lt; obtain ⟨y5, y6⟩ := hB3.walk)
    | (refine wpList_lookV rfl _ _ 133 true rfl (.map (some gm)) (.string p) _ rfl rfl hlk.out ?_; go_loud (unfold rngV)))
  have hB5 : Blk ((w3.setCell ⟨g0, 0, none⟩ (.int .i64 a)).setCell ⟨g0, 1, none⟩ (.int .i64 b)) g0 68 #[.int .i64 a, .int .i64 b] := (((hB3.set_ 0 (.int .i64 a)).set_ 1 (.int .i64 b)).cast (by simp))
  have hB6 := hB5.ext ((Ext.refl _).alloc (.cells #[.int .i64 a, .int .i64 b] 68))
  have hEf := ((hE3.setCell (p := ⟨g0, 0, none⟩) (by have := hgg.out; simp only; omega) (.int .i64 a)).setCell (p := ⟨g0, 1, none⟩) (by have := hgg.out; simp only; omega) (.int .i64 b)).alloc (.cells #[.int .i64 a, .int .i64 b] 68)
  generalize ((w3.setCell ⟨g0, 0, none⟩ (.int .i64 a)).setCell ⟨g0, 1, none⟩ (.int .i64 b)).alloc (.cells #[.int .i64 a, .int .i64 b] 68) = W9 at *
  obtain ⟨z1, -⟩ := hB6.walk
  have z2 := hB6.lt
  try simp only [Exit.inBlock, Exit.then]
  refine bodyPost_ret (v := .tuple #[.agg #[.int .i64 a, .int .i64 b], .bool true, .int .i64 0]) ?_ rfl ?_
  · simp [results, Tryz.results37, go_sem, z1, z2]
  · exact ⟨rfl, hEf⟩
end
theorem Tryz.lqiPart : Go.Proofs.SlLaysH0.n6 Tryz.prog Tryz.lqcPart_ren := { Tryz.lqcPart with }
set_option maxRecDepth 100000 in
theorem pairPred (nm s : ByteArray) (B : Nat) (w : World) (hB : Blk w B 49 #[.string s, .string nm]) :
    PredBelow Tryz.prog 36 #[.pointer (some ⟨B, 0, none⟩)] (fun y => .agg (partC y).toArray) (fun y => y.name.toList == nm.toList) w := fun W y hb => by
  have hc0 : W.cell? ⟨B, 0, none⟩ = some (.string s) := (hb.cell (p := ⟨B, 0, none⟩) hB.lt).trans (hB.cell 0)
  have hc : W.cell? ⟨B, 1, none⟩ = some (.string nm) := (hb.cell (p := ⟨B, 1, none⟩) hB.lt).trans (hB.cell 1)
  have hBW : B < W.heap.size := Nat.lt_of_lt_of_le hB.lt hb.size
  have hne : B ≠ W.heap.size := by omega
  clear hB
  show Calls Tryz.prog 36 #[.agg #[.string y.name, .int .i64 y.lo, .int .i64 y.hi, .int .i64 y.least, .int .i64 y.most], .pointer (some ⟨B, 0, none⟩)] W _
  go_enter Tryz.func36, Tryz.ntmps36
  go_wp2
  go_ret
  exact ⟨rfl, hb.alloc hb.size _⟩
theorem idx_hit {α : Type} (p : α → Bool) (d : α) : ∀ (l : List α) (i k : Nat) (x : α), l[k]? = some x → p x = true → (∀ j y, j < k → l[j]? = some y → p y = false) → Lib.idxByFrom (fun _ y => p y) d l i = ((i + k : Nat) : Int)
  | [], _, _, _, h, _, _ => by simp at h
  | y :: l, i, 0, x, h, hp, _ => by
    obtain rfl : y = x := by simpa using h
    unfold Lib.idxByFrom
    rw [hp]; simp
  | y :: l, i, k + 1, x, h, hp, hn => by
    have h1 := hn 0 y (by omega) rfl
    unfold Lib.idxByFrom
    rw [h1]
    simp only [Bool.false_eq_true, if_false]
    rw [idx_hit p d l (i + 1) k x (by simpa using h) hp fun j z hj hz => hn (j + 1) z (by omega) (by simpa using hz)]
    congr 1
    omega
theorem pairIdx (s : ByteArray) (B b off c : Nat) (P : List PartV) (w : World) {k : Nat} {x : PartV} (hB : Blk w B 49 #[.string s, .string x.name]) (hl : P.length ≤ 1000) (hb : b < w.heap.size) (hE : Elems 5 partC w b off P) (hk : P[k]? = some x) (hd : ∀ j y, j < k → P[j]? = some y → y.name.toList ≠ x.name.toList) :
    Calls Tryz.prog 35 #[.slice (some ⟨b, off, none⟩) P.length c, .func (.func 36) #[] #[.pointer (some ⟨B, 0, none⟩)]] w fun e w' => e = .returned (.int .i64 k) ∧ Ext w w' := by
  have eg : ∀ args w, (callFunc 36 args).run Tryz.prog w = .ok (.enter 36 args) w := enters_of Tryz.func36 (by kernel_rfl) rfl
  have := AnyQ.slices_IndexFunc Tryz.lqiPart 5 Tryz.isAgg70 Tryz.sizeOf70 partC partC_len (fun y => y.name.toList == x.name.toList) 36 #[.pointer (some ⟨B, 0, none⟩)] eg b off P.length c P w
    (pairPred x.name s B w hB) (by omega) (by omega) hb (fun j hj i v hi => hE j _ (by rw [List.getElem?_eq_getElem hj, getElem!_pos P j hj]) i v hi)
  refine this.mono fun e w' h => ⟨?_, h.2⟩
  rw [h.1, List.take_of_length_le (by omega)]
  unfold Lib.idxBy
  rw [idx_hit (fun y => y.name.toList == x.name.toList) default P 0 k x hk (by simp) fun j y hj hy => by simpa using hd j y hj hy, Nat.zero_add]
end Go.Proofs.YthhbhjppljblnaaGreatDoor

namespace Go.Proofs.YthhbhjppljblnaaGreatDoor

section
variable {P : List PartV}
theorem divG_ok : ∀ (C : List (List Int)) (N : List Nat), fromF P C N ≠ -1 → (divG P C N).length = C.length ∧ ∀ i k, (divG P C N)[i]? = some k → k < P.length ∧ 0 ≤ (C.getD i []).getD k (-1)
  | [], N, _ => ⟨rfl, fun i k h => by simp [divG] at h⟩
  | r :: C, N, h => by
    obtain ⟨hp1, hp2, hp3⟩ := pickP_hit h
    obtain ⟨h1, h2, h3⟩ := withV_some (by rw [hp2]; exact h : withV P (fromF P C) r N (pickP P C r N) ≠ -1)
    obtain ⟨a, b⟩ := divG_ok C (incN N (pickP P C r N)) h2
    refine ⟨by simp only [divG, List.length_cons, a], fun i k hk => ?_⟩
    cases i with
    | zero =>
      obtain rfl : pickP P C r N = k := by simpa [divG] using hk
      exact ⟨hp1, bar_pos h1⟩
    | succ i => exact b i k (by simpa [divG] using hk)
theorem divG_best {C : List (List Int)} {N : List Nat} (h : fromF P C N ≠ -1) : divG P C N ∈ bestL P C N := by
  obtain ⟨l, hl⟩ := best_head C N h
  rw [hl]; exact List.mem_cons_self ..
theorem divG_sum {C : List (List Int)} {N : List Nat} (h : fromF P C N ≠ -1) : sumG C (divG P C N) = fromF P C N := beq_iff_eq.1 (List.mem_filter.1 (divG_best h)).2
theorem divG_cnt {C : List (List Int)} (h : fromF P C [0, 0, 0, 0] ≠ -1) (hP : P.length ≤ 4) (hm : ∀ x ∈ P, 0 ≤ x.most) {p : Nat} {x : PartV} (hx : P[p]? = some x) : x.least ≤ cntG (divG P C [0, 0, 0, 0]) p ∧ (cntG (divG P C [0, 0, 0, 0]) p : Int) ≤ x.most := by
  have hpl := (List.getElem?_eq_some_iff.1 hx).1
  have h1 := (List.mem_filter.1 (divG_best h)).1
  rw [compl_enum C [0, 0, 0, 0] hP fun q hq => ?_] at h1
  · have h2 := List.all_eq_true.1 (List.mem_filter.1 h1).2 p (List.mem_range.2 hpl)
    simp only [Bool.and_eq_true, decide_eq_true_eq] at h2
    have h3 : ([0, 0, 0, 0] : List Nat).getD p 0 = 0 := by
      have : p = 0 ∨ p = 1 ∨ p = 2 ∨ p = 3 := by omega
      rcases this with rfl | rfl | rfl | rfl <;> rfl
    have h4 : leastP P p = x.least := by unfold leastP; rw [List.getD_eq_getElem?_getD, hx]; rfl
    have h5 : mostP P p = x.most := by unfold mostP; rw [List.getD_eq_getElem?_getD, hx]; rfl
    rw [h3, h4, h5, Nat.zero_add] at h2
    exact h2
  · obtain ⟨y, hy⟩ := getD_some (rfl : P.length = P.length) hq
    have h3 : ([0, 0, 0, 0] : List Nat).getD q 0 = 0 := by
      have : q = 0 ∨ q = 1 ∨ q = 2 ∨ q = 3 := by omega
      rcases this with rfl | rfl | rfl | rfl <;> rfl
    have h5 : mostP P q = y.most := by unfold mostP; rw [List.getD_eq_getElem?_getD, hy]; rfl
    rw [h3, h5]
    exact hm y (List.mem_of_getElem? hy)
theorem sumG_drop {C : List (List Int)} {g : List Nat} {i k : Nat} (hl : g.length = C.length) (hk : g[i]? = some k) : sumG (C.drop i) (g.drop i) = (C.getD i []).getD k (-1) + sumG (C.drop (i + 1)) (g.drop (i + 1)) := by
  obtain ⟨hi, rfl⟩ := List.getElem?_eq_some_iff.1 hk
  rw [drop_at (show i < C.length by omega), List.drop_eq_getElem_cons hi]
  rfl
/-- The pair of a singer. -/
theorem divN_at {S : List ByteArray} {C : List (List Int)} {N : List Nat} {i k : Nat} {s : ByteArray} {x : PartV} (hs : S[i]? = some s) (hk : (divG P C N)[i]? = some k) (hx : P[k]? = some x) : (divN P S C N)[i]? = some (s, x.name) := by
  unfold divN
  rw [List.getElem?_zipWith, hs, hk]
  simp only [List.getD_eq_getElem?_getD, hx, Option.getD_some]
theorem divN_len {S : List ByteArray} {C : List (List Int)} {N : List Nat} (h : fromF P C N ≠ -1) (hl : C.length = S.length) : (divN P S C N).length = C.length := by
  unfold divN
  rw [List.length_zipWith, (divG_ok C N h).1, hl, Nat.min_self]
def cntP (T : List (ByteArray × ByteArray)) (nm : ByteArray) : Nat := (T.filter fun y => decide (y.2 = nm)).length
theorem cntP_snoc (T : List (ByteArray × ByteArray)) (y : ByteArray × ByteArray) (nm : ByteArray) : cntP (T ++ [y]) nm = cntP T nm + if nm = y.2 then 1 else 0 := by
  unfold cntP
  rw [List.filter_append, List.length_append]
  by_cases h : y.2 = nm
  · rw [if_pos h.symm]; simp [h]
  · rw [if_neg (fun e => h e.symm)]; simp [h]
theorem cntP_le (T : List (ByteArray × ByteArray)) (nm : ByteArray) : cntP T nm ≤ T.length := List.length_filter_le ..
theorem cnt_zip {p : Nat} {x : PartV} (hx : P[p]? = some x) (hd : ∀ (i j : Nat) (a b : PartV), P[i]? = some a → P[j]? = some b → i < j → a.name.toList ≠ b.name.toList) : ∀ (S : List ByteArray) (g : List Nat), S.length = g.length → (∀ k ∈ g, k < P.length) →
    cntP (List.zipWith (fun s k => (s, (P.getD k default).name)) S g) x.name = cntG g p
  | [], [], _, _ => rfl
  | s :: S, k :: g, hl, hg => by
    have ih := cnt_zip hx hd S g (by simpa using hl) fun q hq => hg q (List.mem_cons_of_mem _ hq)
    unfold cntP cntG at ih ⊢
    rw [List.zipWith_cons_cons, List.filter_cons, List.filter_cons]
    obtain ⟨y, hy⟩ := getD_some (rfl : P.length = P.length) (hg k (List.mem_cons_self ..))
    have e : decide ((P.getD k default).name = x.name) = (k == p) := by
      rw [List.getD_eq_getElem?_getD, hy, Option.getD_some]
      by_cases h : k = p
      · subst h
        rw [hx] at hy
        cases hy
        simp
      · have h1 : y.name ≠ x.name := fun e => by
          rcases Nat.lt_or_gt_of_ne h with h2 | h2
          · exact hd k p y x hy hx h2 (by rw [e])
          · exact hd p k x y hx hy h2 (by rw [e])
        rw [decide_eq_false h1, beq_false_of_ne h]
    simp only [e]
    split
    · simp only [List.length_cons, ih]
    · exact ih
end
theorem rgOf_right {V : List VoiceV} (h : ∀ x ∈ V, rightR x.lo x.hi = true) {t : Int} {p : ByteArray} : ∀ k, k ≤ V.length → ∀ a b, rgOf V t p k = some (a, b) → rightR a b = true
  | 0, _, a, b, e => by simp [rgOf] at e
  | k + 1, hk, a, b, e => by
    obtain ⟨x, hx⟩ := getD_some (rfl : V.length = V.length) (show k < V.length by omega)
    rw [rgOf_succ hx] at e
    by_cases hc : x.fr ≤ t ∧ x.name = p
    · rw [if_pos hc] at e
      cases e
      exact h x (List.mem_of_getElem? hx)
    · rw [if_neg hc] at e
      exact rgOf_right h k (by omega) a b e
theorem wpList_lookV_wanted {P : Program} {ops : Array Oper} {rest : List Oper} {o : Oper} {a : Act} {w : World} {Q : Exit → Act → World → Prop} (hgd : Region.wanted o (yielded ops a.tmps) = true) (m x : Operand) (t : TypeId) (ok : Bool) (hop : o.op = Op.lookup t m x ok) (mv kv v : Value) (hm : a.eval m = mv) (hx : a.eval x = kv) (hrun : (Instr.lookup t mv kv ok).run P w = .ok v w)
    (hK : wpList P ops Q rest (a.put o.dst v) w) : wpList P ops Q (o :: rest) a w :=
  wpList_step fun K hK' => by
    simp only [hgd, if_true]
    unfold Oper.wp
    simp [execOp, hop, hm, hx, hrun, Result.andThen]
    exact hK' _ _ hK
end Go.Proofs.YthhbhjppljblnaaGreatDoor
