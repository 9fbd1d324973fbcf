/- Who can sing how comfortably: rows of them, sorted, by both texts. Conditions: sizes. -/
import Derived.Test.YtjfmpgohkjoneaaGreatDoorPsVoK
import Derived.Test.YtjfmpgohkjoneaaGreatDoorPsSrtB
import Derived.Test.YtjfmpgohkjoneaaGreatDoorPsSrtC
import Derived.Shelf.SlSortCmp.NoneTotal
import Derived.Shelf.SlSortCmp.InsertionK
set_option linter.unusedSimpArgs false
set_option linter.unusedVariables false
namespace Go.Proofs.YtjfmpgohkjoneaaGreatDoor
open Go Go.RowKit Go.Sort

structure AbleV where
  name : ByteArray
  com : Int
deriving Inhabited
def ableC (x : AbleV) : List Value := [.string x.name, .int .i64 x.com]
theorem ableC_len (x : AbleV) : (ableC x).length = 2 := rfl
theorem able_one (x : AbleV) : ∀ u ∈ ableC x, u.oneCell' = true := by simp [ableC, Value.oneCell']
def ableN (x : AbleV) : Int := -x.com
theorem cmpZ_neg (x y : Int) : cmpZ (-x) (-y) = cmpZ y x := by unfold cmpZ; split <;> split <;> (try split) <;> (try split) <;> omega

set_option maxRecDepth 100000 in
set_option maxHeartbeats 1600000 in
theorem whoG_any (a b : AbleV) (w : World) :
    Calls Tryz.prog 80 #[.agg #[.string a.name, .int .i64 a.com], .agg #[.string b.name, .int .i64 b.com]] w fun e w' => e = .returned (.int .i64 (cmpK ableN AbleV.name a b)) ∧ ∃ q os', w' = grow (w.drewN q) os' := by
  have hF : cmpK ableN AbleV.name a b = orF [cmpZ b.com a.com, cmpS a.name b.name] := by unfold cmpK ableN; rw [cmpZ_neg]
  rw [hF]
  clear hF
  have hX : Blk ((w.alloc (.cells #[.string a.name, .int .i64 a.com] 74)).alloc (.cells #[.string b.name, .int .i64 b.com] 74)) w.heap.size 74 #[.string a.name, .int .i64 a.com] := (Blk.new' rfl).alloc _
  have hY : Blk ((w.alloc (.cells #[.string a.name, .int .i64 a.com] 74)).alloc (.cells #[.string b.name, .int .i64 b.com] 74)) (w.heap.size + 1) 74 #[.string b.name, .int .i64 b.com] := Blk.new' (by simp)
  go_enter Tryz.func80, Tryz.ntmps80
  go_upto_region 1 with fail
  refine wp_region_planS [(0, true), (1, true), (2, true), (3, true), (4, true), (5, true), (6, true), (7, true), (8, true), (9, true)] 10 (fun w' => Blk w' w.heap.size 74 #[.string a.name, .int .i64 a.com] ∧ Blk w' (w.heap.size + 1) 74 #[.string b.name, .int .i64 b.com]) Drw (by kernel_rfl) (by kernel_rfl) Drw.refl (fun _ _ _ => Drw.trans) (fun _ _ h he => ⟨h.1.drw he, h.2.drw he⟩) ⟨(by (repeat (with_reducible first | assumption | exact Blk.new' (by simp) | refine Blk.drew ?_ | refine Blk.alloc ?_ _ | exact Drw.refl _ | refine Ext.drew ?_ | refine Ext.alloc ?_ _))), (by (repeat (with_reducible first | assumption | exact Blk.new' (by simp) | refine Blk.drew ?_ | refine Blk.alloc ?_ _ | exact Drw.refl _ | refine Ext.drew ?_ | refine Ext.alloc ?_ _)))⟩ ?_
  repeat
    first
      | (refine plan_quiet rfl rfl (fun _ _ _ _ h => h) ?_
         apply Exists.intro
         refine ⟨fun w' hw' => ?_, ?_⟩
         · obtain ⟨hH0, hH1⟩ := hw'
           unfold Blk at hH0 hH1
           simp [go_sem, quietTo, World.cell?, hH0, hH1, Drw.refl, ↓IntWalk.iteOmega]
           first
             | rfl
             | (exact cmpIntE_any _ _ _)
             | (exact cmpSE_any _ _ _)
         simp only [Act.put, List.setIfInBounds_toArray, List.set_cons_succ, List.set_cons_zero])
      | (refine plan_skip rfl rfl (fun _ _ _ _ h => h) ?_
         simp only [Act.put, List.setIfInBounds_toArray, List.set_cons_succ, List.set_cons_zero])
  refine plan_nil fun wr her hwr => ?_
  obtain ⟨hH0, hH1⟩ := hwr
  obtain ⟨hC0, hF0⟩ := hH0.walk
  obtain ⟨hC1, hF1⟩ := hH1.walk
  simp only [List.drop_succ_cons, List.drop_zero, List.drop_nil]
  go_wp2_with (go_at_call 49; refine (orInt_blk _ _ 2 [cmpZ b.com a.com, cmpS a.name b.name] _ (by simp) (Blk.new' rfl)).mono ?_; rintro e w2 ⟨rfl, rfl⟩)
  go_ret
  refine ⟨rfl, ?_⟩
  obtain ⟨q, rfl⟩ := her
  exact ⟨q + 1, _, grow_three _ _ _ _ _⟩
set_option maxRecDepth 100000 in
theorem whoF_any (a b : AbleV) (w : World) :
    Calls Tryz.prog 84 #[.agg #[.string a.name, .int .i64 a.com], .agg #[.string b.name, .int .i64 b.com]] w fun e w' => e = .returned (.int .i64 (cmpF ableN a b)) ∧ ∃ q os', w' = grow (w.drewN q) os' := by
  have hF : cmpF ableN a b = cmpZ b.com a.com := by unfold cmpF ableN; rw [cmpZ_neg]
  rw [hF]
  clear hF
  go_enter Tryz.func84, Tryz.ntmps84
  go_wp2_with (go_at_call 51; (with_reducible refine Calls.mono (cmpIntE_any _ _ _) ?_); rintro e w2 ⟨rfl, q, rfl⟩)
  go_ret
  exact ⟨rfl, q, _, grow_two _ _ _ _⟩

set_option maxRecDepth 100000 in
theorem sortAble_any {w : World} {base g n cap : Nat} {L : List AbleV} (h : w.ownsRow base 74 2 (.slice (some ⟨g, 0, none⟩) n cap) n (L.flatMap ableC)) (hn : L.length = n) (hn1 : n ≤ 1000) (hok : L.Pairwise fun a b => a.name ≠ b.name) :
    Calls Tryz.prog 79 #[.slice (some ⟨g, 0, none⟩) n cap, .func (.func 80) #[] #[]] w fun e w' => e = .returned (.tuple #[]) ∧ ∃ M : List AbleV, ByK ableN AbleV.name L M ∧ w'.ownsRow base 74 2 (.slice (some ⟨g, 0, none⟩) n cap) n (M.flatMap ableC) ∧ ∀ a : World, Ext a w → a.heap.size ≤ g → Ext a w' := by
  have hgl := (h.lt g rfl).2
  subst hn
  have hs := AnyQ.slices_SortFunc Tryz.lsfAble 2 Tryz.isAgg74 Tryz.sizeOf74 ableC ableC_len able_one (cmpK ableN AbleV.name) (k_swo _ _) 80 #[] g 0 cap L.toArray w (fun args u => by rfl) (fun m os dk _ x y => whoG_any x y _) (holdsK_own ableC_len h) hgl (by simp; omega)
  refine hs.mono fun e w' ⟨he, d', q, os, hp, hso, hw⟩ => ?_
  have hby : ByK ableN AbleV.name L d'.toList := byK_of _ _ hok (by simpa using hp) (by simpa using hso)
  refine ⟨he, d'.toList, hby, ?_, ?_⟩
  · rw [hw]
    exact own_sortK ableC_len h hby.1.length_eq
  · intro a ha hg
    rw [hw]
    exact ext_sortK ha hg
set_option maxRecDepth 100000 in
theorem stableAble_any {w : World} {base g n cap : Nat} {L : List AbleV} (h : w.ownsRow base 74 2 (.slice (some ⟨g, 0, none⟩) n cap) n (L.flatMap ableC)) (hn : L.length = n) (hn1 : n ≤ 19) (hok : L.Pairwise fun a b => cmpS a.name b.name = -1) :
    Calls Tryz.prog 83 #[.slice (some ⟨g, 0, none⟩) n cap, .func (.func 84) #[] #[]] w fun e w' => e = .returned (.tuple #[]) ∧ ∃ M : List AbleV, ByK ableN AbleV.name L M ∧ w'.ownsRow base 74 2 (.slice (some ⟨g, 0, none⟩) n cap) n (M.flatMap ableC) ∧ ∀ a : World, Ext a w → a.heap.size ≤ g → Ext a w' := by
  have hgl := (h.lt g rfl).2
  have hs := AnyQ.insertionSortCmpFunc Tryz.lisAble 2 Tryz.isAgg74 Tryz.sizeOf74 ableC ableC_len able_one (cmpF ableN) 84 #[] g 0 cap 0 n L.toArray w (fun args u => by rfl) (fun m os dk _ x y => whoF_any x y _) (holdsK_own ableC_len h) hgl (Nat.zero_le _) (by simp; omega) (by simp; omega)
  have hsz : L.toArray.size = n := by simpa using hn
  rw [hsz] at hs
  have hby := stableK_of ableN AbleV.name hok
  have hC : Calls Tryz.prog 112 #[.slice (some ⟨g, 0, none⟩) n cap, .int .i64 n, .func (.func 84) #[] #[]] w fun e w' => e = .returned (.tuple #[]) ∧ ∃ m os, w' = sortWorldK ableC 2 w g 0 m (insertionSort (ltOf (cmpF ableN)) L.toArray 0 n) os := by
    replace hs := Lib.hid hs
    clear hsz hby hn hok h
    go_enter Tryz.func112, Tryz.ntmps112
    go_wp2
    refine wp_loop_rounds 1 ?_
    rw [rounds_succ]
    go_wp2_with (go_at_call 129; refine hs.out.mono ?_; rintro e w' ⟨rfl, m, os, rfl⟩)
    refine wp_loop_rounds 1 ?_
    rw [rounds_succ]
    go_wp2
    go_end0
    exact ⟨rfl, m, os, rfl⟩
  have hS : Calls Tryz.prog 83 #[.slice (some ⟨g, 0, none⟩) n cap, .func (.func 84) #[] #[]] w fun e w' => e = .returned (.tuple #[]) ∧ ∃ m os, w' = sortWorldK ableC 2 w g 0 m (insertionSort (ltOf (cmpF ableN)) L.toArray 0 n) os := by
    replace hC := Lib.hid hC
    clear hs hsz hby hn hok h
    go_enter Tryz.func83, Tryz.ntmps83
    go_wp2_with (go_at_call 112; refine hC.out.mono ?_; rintro e w' ⟨rfl, m, os, rfl⟩)
    go_end0
    exact ⟨rfl, m, os, rfl⟩
  subst hn
  refine hS.mono fun e w' ⟨he, q, os, hw⟩ => ?_
  refine ⟨he, _, hby, ?_, ?_⟩
  · rw [hw]
    exact own_sortK ableC_len h hby.1.length_eq
  · intro a ha hg
    rw [hw]
    exact ext_sortK ha hg
theorem sortAbleNone_any (p : Option Addr) (cap : Nat) (fv : Value) (w : World) :
    Calls Tryz.prog 79 #[.slice p 0 cap, fv] w fun e w' => e = .returned (.tuple #[]) ∧ w = w' := (AnyF.slices_SortFunc_none Tryz.lsfAble _ _ _ _).mono (fun _ _ h => And.intro h.1 h.2.symm)
set_option maxRecDepth 100000 in
theorem stableAbleNone_any (p : Option Addr) (cap : Nat) (fv : Value) (w : World) :
    Calls Tryz.prog 83 #[.slice p 0 cap, fv] w fun e w' => e = .returned (.tuple #[]) ∧ w = w' := by
  have hs := fun u => AnyF.insertionSortCmpFunc_none Tryz.lisAble p cap fv u
  have hC : ∀ u, Calls Tryz.prog 112 #[.slice p 0 cap, .int .i64 0, fv] u fun e w' => e = .returned (.tuple #[]) ∧ u = w' := fun u => by
    replace hs := Lib.hid hs
    go_enter Tryz.func112, Tryz.ntmps112
    go_wp2
    refine wp_loop_rounds 1 ?_
    rw [rounds_succ]
    go_wp2_with (go_at_call 129; refine (hs.out _).mono ?_; rintro e w' ⟨rfl, rfl⟩)
    refine wp_loop_rounds 1 ?_
    rw [rounds_succ]
    go_wp2
    go_end0
    exact ⟨rfl, rfl⟩
  replace hC := Lib.hid hC
  clear hs
  go_enter Tryz.func83, Tryz.ntmps83
  go_wp2_with (go_at_call 112; refine (hC.out _).mono ?_; rintro e w' ⟨rfl, rfl⟩)
  go_end0
  exact ⟨rfl, rfl⟩

/-- One singer, if they can sing in a range. -/
def ableOf (F : St) (r : Int × Int) (p : ByteArray) : Option AbleV := if 0 ≤ comF ((F p).getD (0, 0)) r then some ⟨p, comF ((F p).getD (0, 0)) r⟩ else none
def ableL (F : St) (r : Int × Int) (S : List ByteArray) : List AbleV := S.filterMap (ableOf F r)
theorem ableL_in {F : St} {r : Int × Int} {S : List ByteArray} {p : ByteArray} (h : 0 ≤ comF ((F p).getD (0, 0)) r) : ableL F r (S ++ [p]) = ableL F r S ++ [⟨p, comF ((F p).getD (0, 0)) r⟩] := by
  unfold ableL; rw [List.filterMap_append]; simp [ableOf, h]
theorem ableL_out {F : St} {r : Int × Int} {S : List ByteArray} {p : ByteArray} (h : ¬ 0 ≤ comF ((F p).getD (0, 0)) r) : ableL F r (S ++ [p]) = ableL F r S := by
  unfold ableL; rw [List.filterMap_append]; simp [ableOf, h]
theorem ableL_len (F : St) (r : Int × Int) (S : List ByteArray) : (ableL F r S).length ≤ S.length := List.length_filterMap_le _ _
theorem ableL_perm {F : St} {r : Int × Int} {S T : List ByteArray} (h : S.Perm T) : (ableL F r S).Perm (ableL F r T) := h.filterMap _
theorem ableOf_name {F : St} {r : Int × Int} {p : ByteArray} {x : AbleV} (h : ableOf F r p = some x) : x.name = p := by
  unfold ableOf at h
  split at h
  · cases h; rfl
  · cases h
theorem ableL_pair {F : St} {r : Int × Int} {R : ByteArray → ByteArray → Prop} {S : List ByteArray} (h : S.Pairwise R) : (ableL F r S).Pairwise fun a b => R a.name b.name := by
  unfold ableL
  refine List.pairwise_filterMap.2 (h.imp fun {a b} hab x hx y hy => ?_)
  rw [ableOf_name hx, ableOf_name hy]
  exact hab
end Go.Proofs.YtjfmpgohkjoneaaGreatDoor
