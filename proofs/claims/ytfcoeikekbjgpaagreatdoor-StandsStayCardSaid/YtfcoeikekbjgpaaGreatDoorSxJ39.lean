/- The places of a stage; the document's search finds what the search that leaves off finds: plain mathematics. Conditions: as each theorem says. Rows of people by their height: plain mathematics. Conditions: as each theorem says. How many places a stage has, and whether they are enough, by both texts. Conditions: the stage is right. People sorted by their height, by both texts: the walks. Conditions: people are right. -/
import Derived.Test.YtfcoeikekbjgpaaGreatDoorSxJ34
import Derived.Test.YtfcoeikekbjgpaaGreatDoorSxJ21
import Derived.Test.YtfcoeikekbjgpaaGreatDoorSxJ23
import Derived.Test.YtfcoeikekbjgpaaGreatDoorSxStR
import Derived.Test.YtfcoeikekbjgpaaGreatDoorSxJ5
import Derived.Shelf.SlicesE.Clone
import Derived.Shelf.SlSortCmp.NoneTotal
import Derived.Shelf.SlSortCmp.InsertionK
set_option linter.unusedSimpArgs false
set_option linter.unusedVariables false
namespace Go.Proofs.YtfcoeikekbjgpaaGreatDoor
open Go Go.RowKit

def plRow (wide : List Int) (r : Nat) : List StandV := (List.range (wide.getD r 0).toNat).map fun x : Nat => ⟨⟨#[]⟩, r, x⟩
/-- The places of the rows before r, and x places of row r. -/
def plT (wide : List Int) (r x : Nat) : List StandV := ((List.range r).flatMap fun r => plRow wide r) ++ (plRow wide r).take x
theorem plRow_len (wide : List Int) (r : Nat) : (plRow wide r).length = (wide.getD r 0).toNat := by simp [plRow]
theorem plT_row (wide : List Int) (r : Nat) : plT wide r (wide.getD r 0).toNat = plT wide (r + 1) 0 := by
  unfold plT
  rw [List.take_of_length_le (by rw [plRow_len]; exact Nat.le_refl _), List.range_succ, List.flatMap_append]
  simp
def sumT (wide : List Int) (k : Nat) : Int := (wide.take k).foldl (· + ·) 0
theorem sumT_succ {wide : List Int} {k : Nat} {v : Int} (h : wide[k]? = some v) : sumT wide (k + 1) = sumT wide k + v := by unfold sumT; rw [take_snocL h, List.foldl_append]; rfl
theorem sumT_bound {wide : List Int} (h : WideOk wide) : ∀ k, k ≤ wide.length → 0 ≤ sumT wide k ∧ sumT wide k ≤ 30 * k ∧ ((plT wide k 0).length : Int) = sumT wide k
  | 0, _ => by simp [sumT, plT]
  | k + 1, hk => by
    obtain ⟨v, hv⟩ := getD_some (rfl : wide.length = wide.length) (show k < wide.length by omega)
    obtain ⟨i1, i2, i3⟩ := sumT_bound h k (by omega)
    obtain ⟨v1, v2⟩ := h.2 v (List.mem_of_getElem? hv)
    rw [sumT_succ hv]
    refine ⟨by omega, by omega, ?_⟩
    rw [← plT_row]
    have e : wide.getD k 0 = v := by rw [List.getD_eq_getElem?_getD, hv]; rfl
    have e2 : (plT wide k v.toNat).length = (plT wide k 0).length + v.toNat := by
      unfold plT
      rw [List.length_append, List.length_append, List.take_of_length_le (by rw [plRow_len, e]; exact Nat.le_refl _), plRow_len, e]
      simp
    rw [e, e2]
    omega
section
variable {P : List PersonV} {wide high : List Int} {all : List StandV}
end
end Go.Proofs.YtfcoeikekbjgpaaGreatDoor

namespace Go.Proofs.YtfcoeikekbjgpaaGreatDoor
open Go Go.RowKit

/-- People in the middle of a row. -/
def rowP (wide : List Int) (r : Nat) (Q : List PersonV) : List StandV := (List.range Q.length).map fun i => ⟨(Q.getD i default).name, r, (wide.getD r 0 - Q.length) / 2 + i⟩
theorem rowP_len (wide : List Int) (r : Nat) (Q : List PersonV) : (rowP wide r Q).length = Q.length := by simp [rowP]
theorem rowP_at {wide : List Int} {r : Nat} {Q : List PersonV} {i : Nat} {x : PersonV} (h : Q[i]? = some x) : (rowP wide r Q)[i]? = some ⟨x.name, r, (wide.getD r 0 - Q.length) / 2 + i⟩ := by
  have hi := (List.getElem?_eq_some_iff.1 h).1
  unfold rowP
  rw [List.getElem?_map, List.getElem?_range hi]
  simp [List.getD_eq_getElem?_getD, h]
/-- How many are left ahead of row r, and how many stand in it. -/
def leftN (wide : List Int) (n : Nat) : Nat → Nat
  | 0 => n
  | r + 1 => leftN wide n r - min (wide.getD r 0).toNat (leftN wide n r)
def takeN (wide : List Int) (n r : Nat) : Nat := min (wide.getD r 0).toNat (leftN wide n r)
theorem leftN_succ (wide : List Int) (n r : Nat) : leftN wide n (r + 1) = leftN wide n r - takeN wide n r := rfl
theorem leftN_le (wide : List Int) (n : Nat) : ∀ r, leftN wide n r ≤ n
  | 0 => Nat.le_refl _
  | r + 1 => by have := leftN_le wide n r; rw [leftN_succ]; omega
theorem takeN_le (wide : List Int) (n r : Nat) : takeN wide n r ≤ leftN wide n r := Nat.min_le_right _ _
theorem takeN_wide (wide : List Int) (n r : Nat) : takeN wide n r ≤ (wide.getD r 0).toNat := Nat.min_le_left _ _
def manyL (wide : List Int) (n k : Nat) : List Int := (List.range k).map fun r => (takeN wide n r : Int)
theorem manyL_len (wide : List Int) (n k : Nat) : (manyL wide n k).length = k := by simp [manyL]
theorem manyL_succ (wide : List Int) (n k : Nat) : manyL wide n (k + 1) = manyL wide n k ++ [(takeN wide n k : Int)] := by simp [manyL, List.range_succ]
theorem manyL_at {wide : List Int} {n k r : Nat} (h : r < k) : (manyL wide n k)[r]? = some (takeN wide n r : Int) := by
  unfold manyL; rw [List.getElem?_map, List.getElem?_range h]; rfl
/-- Those who are left ahead of row r. -/
def restP (wide : List Int) (M : List PersonV) (r : Nat) : List PersonV := M.drop (M.length - leftN wide M.length r)
theorem restP_len (wide : List Int) (M : List PersonV) (r : Nat) : (restP wide M r).length = leftN wide M.length r := by
  unfold restP
  have := leftN_le wide M.length r
  rw [List.length_drop]; omega
theorem restP_zero (wide : List Int) (M : List PersonV) : restP wide M 0 = M := by simp [restP, leftN]
theorem restP_succ (wide : List Int) (M : List PersonV) (r : Nat) : restP wide M (r + 1) = (restP wide M r).drop (takeN wide M.length r) := by
  unfold restP
  have h1 := leftN_le wide M.length r
  have h2 := takeN_le wide M.length r
  rw [List.drop_drop, leftN_succ]
  congr 1
  omega
def headP (wide : List Int) (M : List PersonV) (r : Nat) : List PersonV := (restP wide M r).take (takeN wide M.length r)
theorem headP_len (wide : List Int) (M : List PersonV) (r : Nat) : (headP wide M r).length = takeN wide M.length r := by
  unfold headP
  rw [List.length_take, restP_len]
  exact Nat.min_eq_left (takeN_le _ _ _)
def bhL (wide : List Int) (M : List PersonV) (r : Nat) : List StandV := (List.range r).flatMap fun r => rowP wide r (headP wide M r)
theorem bhL_succ (wide : List Int) (M : List PersonV) (r : Nat) : bhL wide M (r + 1) = bhL wide M r ++ rowP wide r (headP wide M r) := by
  unfold bhL
  rw [List.range_succ, List.flatMap_append]
  simp
theorem bhL_len (wide : List Int) (M : List PersonV) : ∀ r, (bhL wide M r).length = M.length - leftN wide M.length r
  | 0 => by simp [bhL, leftN]
  | r + 1 => by
    rw [bhL_succ, List.length_append, bhL_len wide M r, rowP_len, headP_len, leftN_succ]
    have h1 := leftN_le wide M.length r
    have h2 := takeN_le wide M.length r
    omega
end Go.Proofs.YtfcoeikekbjgpaaGreatDoor

namespace Go.Proofs.YtfcoeikekbjgpaaGreatDoor
open Go Go.RowKit

def fullF (P : List PersonV) (wide : List Int) : Int := if sumT wide wide.length < P.length then 12 else 0
set_option maxRecDepth 100000 in
set_option maxHeartbeats 1600000 in
theorem placesOf_any (wp : Option Addr) (wcap : Nat) (wide : List Int) (hp : Option Addr) (hl hc : Nat) (w : World) (h : Slc 1 intC w wp wide.length wcap wide) (hwo : WideOk wide) :
    Calls Tryz.prog 73 #[.agg #[.slice wp wide.length wcap, .slice hp hl hc]] w fun e w' => e = .returned (.int .i64 (sumT wide wide.length)) ∧ Ext w w' := by
  have hE0 : Ext w (w.alloc (.cells #[.slice wp wide.length wcap, .slice hp hl hc] 29)) := (Ext.refl _).alloc _
  have hsb := sumT_bound hwo
  have hw10 := hwo.1
  replace hsb := Lib.hid hsb
  go_enter Tryz.func73, Tryz.ntmps73
  go_wp2
  go_loopw [3, 9] (fun v3 v9 wr => ∃ k : Nat, v3 = .int .i64 (sumT wide k) ∧ v9 = .int .i64 k ∧ k ≤ wide.length ∧ Ext w wr) (fun _ v9 _ => wide.length - (intOf v9).toNat)
  case atStart => exact ⟨0, rfl, rfl, Nat.zero_le _, hE0⟩
  case round =>
    obtain ⟨k, rfl, rfl, hk, hE⟩ := hrel
    by_cases hlt : k < wide.length
    · obtain ⟨x, hx⟩ := getD_some (rfl : wide.length = wide.length) hlt
      have hkI : (k : Int) < wide.length := by omega
      rcases (slcC h).2 with ⟨-, e⟩ | ⟨b, off, rfl, hb, hEl⟩
      · rw [e] at hx; cases hx
      have c0 := (hEl.ext hE hb).int hx
      have lb := Nat.lt_of_lt_of_le hb hE.size
      obtain ⟨v1, v2⟩ := hwo.2 x (List.mem_of_getElem? hx)
      have hs := sumT_succ hx
      obtain ⟨i1, i2, -⟩ := hsb.out k hk
      replace hs := Lib.hid hs
      clear hEl hx
      go_wp2
      go_roundw
      case rel => exact ⟨k + 1, by rw [hs.out], by go_num, by omega, hE⟩
      case measure => simp [intOf]; omega
    · obtain rfl : k = wide.length := by omega
      go_wp2
      go_ret
      exact ⟨rfl, hE⟩
set_option maxRecDepth 100000 in
set_option maxHeartbeats 1600000 in
theorem full_any (pp : Option Addr) (pc : Nat) (P : List PersonV) (wp : Option Addr) (wcap : Nat) (wide : List Int) (hp : Option Addr) (hc : Nat) (high : List Int) (w : World) (h : PsM w pp pc P wp wcap wide hp hc high none 0 []) (hwo : ostF P wide high = 0 → WideOk wide) :
    Calls Tryz.prog 35 #[.slice pp P.length pc, .agg #[.slice wp wide.length wcap, .slice hp high.length hc]] w fun e w' => e = .returned (.int .i64 (if ostF P wide high = 0 then fullF P wide else ostF P wide high)) ∧ Ext w w' := by
  have hE0 : Ext w (w.alloc (.cells #[.slice wp wide.length wcap, .slice hp high.length hc] 29)) := (Ext.refl _).alloc _
  have hB0 : Blk (w.alloc (.cells #[.slice wp wide.length wcap, .slice hp high.length hc] 29)) w.heap.size 29 #[.slice wp wide.length wcap, .slice hp high.length hc] := Blk.new' rfl
  have hst := fun u (hu : Ext w u) => stageFault_any pp pc P wp wcap wide hp hc high none 0 [] u (h.more hu)
  generalize ostF P wide high = f at *
  replace hst := Lib.hid hst
  by_cases hf : f = 0
  rotate_left
  · rw [if_neg hf]
    go_enter Tryz.func35, Tryz.ntmps35
    go_wp2_with (go_at_call 72; (with_reducible refine Calls.mono (hst.out _ hE0) ?_); rintro e w1 ⟨rfl, hb1⟩)
    go_ret
    exact ⟨rfl, hE0.trans hb1⟩
  subst hf
  rw [if_pos rfl]
  have hpl := fun u (hu : Ext w u) => placesOf_any wp wcap wide hp high.length hc u (h.wid.ext hu) (hwo rfl)
  have hF : fullF P wide = if sumT wide wide.length < P.length then 12 else 0 := rfl
  generalize sumT wide wide.length = sm at *
  replace hpl := Lib.hid hpl
  replace hF := Lib.hid hF
  by_cases hlt : sm < P.length
  all_goals
    go_enter Tryz.func35, Tryz.ntmps35
    go_wp2_with (first
      | (go_at_call 72; (with_reducible refine Calls.mono (hst.out _ hE0) ?_); rintro e w1 ⟨rfl, hb1⟩; obtain ⟨y1, -⟩ := (hB0.ext hb1).walk; have bl := (hB0.ext hb1).lt; have E1 := hE0.trans hb1)
      | (go_at_call 73; (with_reducible refine Calls.mono (hpl.out _ E1) ?_); rintro e w2 ⟨rfl, hb2⟩))
    go_ret
    exact ⟨ret_int (by rw [hF.out]; simp [hlt]), E1.trans hb2⟩
end Go.Proofs.YtfcoeikekbjgpaaGreatDoor

namespace Go.Proofs.YtfcoeikekbjgpaaGreatDoor
open Go Go.RowKit Go.Sort

theorem per_flat_lenK (xs : List PersonV) : (xs.flatMap perC).length = xs.length * 3 := flat_lenK perC_len xs
theorem clonePer_any (p : Option Addr) (n c : Nat) (xs : List PersonV) (w : World) (h : Slc 3 perC w p n c xs) (hn : n ≤ 1000) :
    Calls Tryz.prog 74 #[.slice p n c] w fun e w' => ∃ v, e = .returned v ∧ w'.ownsRow w.heap.size 59 3 v n (xs.flatMap perC) ∧ Ext w w' := by
  obtain ⟨hS, hnc, hp0, hp⟩ := h
  cases p with
  | none =>
    obtain rfl := hp0 rfl
    have hx : xs = [] := List.eq_nil_of_length_eq_zero hS.1
    subst hx
    exact (AnyE.slices_Clone_nil Tryz.lecPer 0 c w).mono fun e w' ⟨he, hw⟩ => by
      subst hw
      exact ⟨_, he, World.ownsRow_nil _ _ _ _, Ext.refl _⟩
  | some a =>
    obtain ⟨b, off, rfl, hb⟩ := hp a rfl
    obtain ⟨i0, hi, hz0, hz1, hz2⟩ := info_parts (P := Tryz.prog) (e := 59) (z := .agg #[.string ⟨#[]⟩, .int .i64 0, .string ⟨#[]⟩]) (size := 3) (bytes := 40) (by kernel_rfl)
    refine (AnyE.slices_Clone Tryz.lecPer i0 _ 3 40 hi hz0 hz1 hz2 rfl (by decide) Tryz.sizeOf59 b off n c (xs.flatMap perC) w (by rw [per_flat_lenK, hS.1]) (by unfold maxLen; omega) (by omega) (fun j u hj => ?_) (fun u hu => ?_)).mono fun e w' ⟨v', he, ho, _, hb'⟩ => ⟨v', he, ho, hb'⟩
    · have hj' : j < xs.length * 3 := by rw [← per_flat_lenK]; exact (List.getElem?_eq_some_iff.1 hj).1
      have hn0 : n ≠ 0 := by have := hS.1; omega
      obtain ⟨b', off', hpe, hb', hE⟩ := hS.2.2 hn0
      cases hpe
      obtain ⟨x, hx⟩ : ∃ x, xs[j / 3]? = some x := ⟨_, List.getElem?_eq_getElem (by omega)⟩
      have hjm : j % 3 < 3 := Nat.mod_lt _ (by omega)
      obtain ⟨u', hu'⟩ : ∃ u', (perC x)[j % 3]? = some u' := ⟨_, List.getElem?_eq_getElem (by rw [perC_len]; exact hjm)⟩
      have h2 := hE _ x hx _ u' hu'
      have h3 := flat_at perC_len xs (j / 3) x hx (j % 3) u' hu'
      rw [Nat.div_add_mod' j 3] at h3
      rw [h3] at hj
      cases hj
      have h4 : (⟨b, off, none⟩ : Addr).add j = ⟨b, off + j, none⟩ := by unfold Addr.add; split <;> simp_all
      rw [show off + j = off + j / 3 * 3 + j % 3 by omega]
      exact h2
    · obtain ⟨x, -, hx⟩ := List.mem_flatMap.1 hu
      exact per_one x u hx

theorem cmpSE_any (a b : ByteArray) (w : World) :
    Calls Tryz.prog 79 #[.string a, .string b] w fun e w' => e = .returned (.int .i64 (cmpS a b)) ∧ Drw w w' :=
  (Tryz.strings_Compare a b w).mono fun _ _ h => ⟨h.1, h.2 ▸ Drw.refl _⟩
set_option maxRecDepth 100000 in
set_option maxHeartbeats 1600000 in
theorem heightG_any (a b : PersonV) (w : World) :
    Calls Tryz.prog 76 #[.agg #[.string a.name, .int .i64 a.high, .string a.sect], .agg #[.string b.name, .int .i64 b.high, .string b.sect]] w fun e w' => e = .returned (.int .i64 (cmpPer a b)) ∧ ∃ q os', w' = grow (w.drewN q) os' := by
  have hF : cmpPer a b = orF [cmpZ a.high b.high, cmpS a.name b.name] := rfl
  rw [hF]
  clear hF
  have hX : Blk ((w.alloc (.cells #[.string a.name, .int .i64 a.high, .string a.sect] 59)).alloc (.cells #[.string b.name, .int .i64 b.high, .string b.sect] 59)) w.heap.size 59 #[.string a.name, .int .i64 a.high, .string a.sect] := (Blk.new' rfl).alloc _
  have hY : Blk ((w.alloc (.cells #[.string a.name, .int .i64 a.high, .string a.sect] 59)).alloc (.cells #[.string b.name, .int .i64 b.high, .string b.sect] 59)) (w.heap.size + 1) 59 #[.string b.name, .int .i64 b.high, .string b.sect] := Blk.new' (by simp)
  go_enter Tryz.func76, Tryz.ntmps76
  go_upto_region 1 with fail
  refine wp_region_planS [(0, true), (1, true), (2, true), (3, true), (4, true), (5, true), (6, true), (7, true), (8, true), (9, true)] 10 (fun w' => Blk w' w.heap.size 59 #[.string a.name, .int .i64 a.high, .string a.sect] ∧ Blk w' (w.heap.size + 1) 59 #[.string b.name, .int .i64 b.high, .string b.sect]) Drw (by kernel_rfl) (by kernel_rfl) Drw.refl (fun _ _ _ => Drw.trans) (fun _ _ h he => ⟨h.1.drw he, h.2.drw he⟩) ⟨(by (repeat (with_reducible first | assumption | exact Blk.new' (by simp) | refine Blk.drew ?_ | refine Blk.alloc ?_ _ | exact Drw.refl _ | refine Ext.drew ?_ | refine Ext.alloc ?_ _))), (by (repeat (with_reducible first | assumption | exact Blk.new' (by simp) | refine Blk.drew ?_ | refine Blk.alloc ?_ _ | exact Drw.refl _ | refine Ext.drew ?_ | refine Ext.alloc ?_ _)))⟩ ?_
  repeat
    first
      | (refine plan_quiet rfl rfl (fun _ _ _ _ h => h) ?_
         apply Exists.intro
         refine ⟨fun w' hw' => ?_, ?_⟩
         · obtain ⟨hH0, hH1⟩ := hw'
           unfold Blk at hH0 hH1
           simp [go_sem, quietTo, World.cell?, hH0, hH1, Drw.refl, ↓IntWalk.iteOmega]
           first
             | rfl
             | (exact cmpIntE_any _ _ _)
             | (exact cmpSE_any _ _ _)
         simp only [Act.put, List.setIfInBounds_toArray, List.set_cons_succ, List.set_cons_zero])
      | (refine plan_skip rfl rfl (fun _ _ _ _ h => h) ?_
         simp only [Act.put, List.setIfInBounds_toArray, List.set_cons_succ, List.set_cons_zero])
  refine plan_nil fun wr her hwr => ?_
  obtain ⟨hH0, hH1⟩ := hwr
  obtain ⟨hC0, hF0⟩ := hH0.walk
  obtain ⟨hC1, hF1⟩ := hH1.walk
  simp only [List.drop_succ_cons, List.drop_zero, List.drop_nil]
  go_wp2_with (go_at_call 77; refine (orInt_blk _ _ 2 [cmpZ a.high b.high, cmpS a.name b.name] _ (by simp) (Blk.new' rfl)).mono ?_; rintro e w2 ⟨rfl, rfl⟩)
  go_ret
  refine ⟨rfl, ?_⟩
  obtain ⟨q, rfl⟩ := her
  exact ⟨q + 1, _, grow_three _ _ _ _ _⟩
set_option maxRecDepth 100000 in
theorem sortPer_any {w : World} {base g n cap : Nat} {L : List PersonV} (h : w.ownsRow base 59 3 (.slice (some ⟨g, 0, none⟩) n cap) n (L.flatMap perC)) (hn : L.length = n) (hn1 : n ≤ 1000) (hok : PeopleOk L) :
    Calls Tryz.prog 75 #[.slice (some ⟨g, 0, none⟩) n cap, .func (.func 76) #[] #[]] w fun e w' => e = .returned (.tuple #[]) ∧ ∃ M : List PersonV, ByH L M ∧ w'.ownsRow base 59 3 (.slice (some ⟨g, 0, none⟩) n cap) n (M.flatMap perC) ∧ ∀ a : World, Ext a w → a.heap.size ≤ g → Ext a w' := by
  have hgl := (h.lt g rfl).2
  subst hn
  have hs := AnyQ.slices_SortFunc Tryz.lsfPer 3 Tryz.isAgg59 Tryz.sizeOf59 perC perC_len per_one cmpPer per_swo 76 #[] g 0 cap L.toArray w (fun args u => by rfl) (fun m os dk _ x y => heightG_any x y _) (holdsK_own perC_len h) hgl (by simp; omega)
  refine hs.mono fun e w' ⟨he, d', q, os, hp, hso, hw⟩ => ?_
  have hby : ByH L d'.toList := byH_of hok (by simpa using hp) (by simpa using hso)
  refine ⟨he, d'.toList, hby, ?_, ?_⟩
  · rw [hw]
    exact own_sortK perC_len h hby.1.length_eq
  · intro a ha hg
    rw [hw]
    exact ext_sortK ha hg
set_option maxRecDepth 100000 in
set_option maxHeartbeats 1600000 in
theorem byHeight_any (p : Option Addr) (c : Nat) (L : List PersonV) (w : World) (h : Slc 3 perC w p L.length c L) (hn : L.length ≤ 19) (hok : PeopleOk L) :
    Calls Tryz.prog 36 #[.slice p L.length c] w fun e w' => ∃ (q : Option Addr) (d : Nat) (M : List PersonV), e = .returned (.slice q L.length d) ∧ ByH L M ∧ Slc 3 perC w' q L.length d M ∧ (∀ a, q = some a → w.heap.size ≤ a.block) ∧ Ext w w' := by
  have hcl := clonePer_any p L.length c L w h (by omega)
  replace hcl := Lib.hid hcl
  by_cases h0 : L.length = 0
  · have hx : L = [] := List.eq_nil_of_length_eq_zero h0
    subst hx
    clear h0 hok h
    have hno := fun (q : Option Addr) (d : Nat) (fv : Value) (u : World) => (show Calls Tryz.prog 75 #[.slice q 0 d, fv] u fun e w' => e = .returned (.tuple #[]) ∧ u = w' from (AnyF.slices_SortFunc_none Tryz.lsfPer _ _ _ _).mono (fun _ _ h => And.intro h.1 h.2.symm))
    replace hno := Lib.hid hno
    go_enter Tryz.func36, Tryz.ntmps36
    go_wp2_with (first
      | (go_at_call 74; (with_reducible refine Calls.mono hcl.out ?_); rintro e w2 ⟨v, rfl, hown, hb2⟩; obtain ⟨q, d, rfl, hS'⟩ := slc_of_own perC_len hown (by decide) (by decide); have hfr : ∀ a, q = some a → w.heap.size ≤ a.block := fun a ha => by { subst ha; exact (hown.lt a.block rfl).1 }; replace hfr := Lib.hid hfr; clear hown)
      | (go_at_call 75; refine (hno.out _ _ _ _).mono ?_; rintro e w3 ⟨rfl, rfl⟩))
    go_ret
    exact ⟨q, d, [], rfl, ⟨List.Perm.refl _, List.Pairwise.nil⟩, hS', hfr.out, hb2⟩
  · have hso := fun (u : World) (g d : Nat) (ho : u.ownsRow w.heap.size 59 3 (.slice (some ⟨g, 0, none⟩) L.length d) L.length (L.flatMap perC)) => sortPer_any ho rfl (by omega) hok
    replace hso := Lib.hid hso
    have h0' : 0 < L.length := by omega
    replace h0 := Lib.hid h0
    clear h hok
    go_enter Tryz.func36, Tryz.ntmps36
    go_wp2_with (first
      | (go_at_call 74; (with_reducible refine Calls.mono hcl.out ?_); rintro e w2 ⟨v, rfl, hown, hb2⟩; obtain ⟨g, d, rfl, hgk, hgl⟩ := hown.form h0')
      | (go_at_call 75; (with_reducible refine Calls.mono (hso.out _ _ _ hown) ?_); rintro e w3 ⟨rfl, M, hM, ho3, hx3⟩))
    obtain ⟨q, d', e9, hS9⟩ := slc_of_own perC_len ho3 (by decide) (by omega)
    cases e9
    go_ret
    exact ⟨_, d, M, rfl, hM, hS9, (fun a ha => by cases ha; exact hgk), hx3 _ hb2 hgk⟩
end Go.Proofs.YtfcoeikekbjgpaaGreatDoor
