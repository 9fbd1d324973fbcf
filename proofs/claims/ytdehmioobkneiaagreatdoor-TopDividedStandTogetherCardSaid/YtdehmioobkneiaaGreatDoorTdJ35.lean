/- How stands are ordered, by both texts: what the comparison leaves of the world. Conditions: none. People by their height: plain mathematics (the stable sort by height alone is the sort by height and name). Conditions: as each theorem says. A person found by the document's text. Conditions: sizes. A row of elements of several cells, behind a sort. Conditions: as each theorem says. People sorted by their height, by both texts: the walks. Conditions: people are right. Appending a slice to a row of the call's own; cutting slices. Conditions: as each theorem says. -/
import Derived.Test.YtdehmioobkneiaaGreatDoorTdJ34
import Derived.Test.YtdehmioobkneiaaGreatDoorTdJ11
import Derived.Sort.Grow
import Derived.Test.YtdehmioobkneiaaGreatDoorTdJ33
import Derived.Sort.LotA
import Derived.Laws.ResultCell
import Derived.Laws.Rows
import Derived.Test.YtdehmioobkneiaaGreatDoorTdJ2
import Derived.Shelf.SlSortCmp.WholeK
import Derived.Test.YtdehmioobkneiaaGreatDoorTdJ5
import Derived.Shelf.SlicesE.Clone
import Derived.Shelf.SlSortCmp.NoneTotal
import Derived.Shelf.SlSortCmp.InsertionK
import Derived.Test.YtdehmioobkneiaaGreatDoorTdStC
set_option linter.unusedSimpArgs false
set_option linter.unusedVariables false
namespace Go.Proofs.YtdehmioobkneiaaGreatDoor
open Go Go.RowKit Go.Sort
end Go.Proofs.YtdehmioobkneiaaGreatDoor
namespace Go.Proofs.YtdehmioobkneiaaGreatDoor
open Go Go.RowKit Go.Sort
def cmpPer (a b : PersonV) : Int := orF [cmpZ a.high b.high, cmpS a.name b.name]
/-- Strictly ahead, by height and name. -/
def LtP (a b : PersonV) : Prop := a.high < b.high ∨ (a.high = b.high ∧ cmpS a.name b.name = -1)
theorem ltP_iff (a b : PersonV) : ltOf cmpPer a b = true ↔ LtP a b := by
  unfold ltOf cmpPer orF orF LtP orF
  rw [decide_eq_true_iff]
  by_cases h : cmpZ a.high b.high = 0
  · rw [if_pos h]
    have h' := cmpZ_zero.1 h
    by_cases h2 : cmpS a.name b.name = 0
    · rw [if_pos h2]
      constructor
      · intro h; omega
      · rintro (h | ⟨-, h⟩) <;> omega
    · rw [if_neg h2, cmpS_neg]
      exact ⟨fun h => .inr ⟨h', h⟩, fun h => by rcases h with h | ⟨-, h⟩; omega; exact h⟩
  · rw [if_neg h, cmpZ_lt]
    have h' : ¬ a.high = b.high := fun e => h (cmpZ_zero.2 e)
    exact ⟨fun h => .inl h, fun h => by rcases h with h | ⟨e, -⟩; exact h; exact absurd e h'⟩
theorem ltP_asym {a b : PersonV} (h : LtP a b) (k : LtP b a) : False := by
  unfold LtP at h k
  rcases h with h | ⟨h1, h2⟩ <;> rcases k with k | ⟨k1, k2⟩
  · omega
  · omega
  · omega
  · rw [cmpS_flip h2] at k2; cases k2
theorem ltP_trans {a b c : PersonV} (h : LtP a b) (k : LtP b c) : LtP a c := by
  unfold LtP at *
  rcases h with h | ⟨h1, h2⟩ <;> rcases k with k | ⟨k1, k2⟩
  · exact .inl (by omega)
  · exact .inl (by omega)
  · exact .inl (by omega)
  · exact .inr ⟨by omega, cmpS_trans h2 k2⟩
theorem ltP_not {a b : PersonV} (h : ¬ LtP a b) : b.high < a.high ∨ (a.high = b.high ∧ (cmpS a.name b.name = 0 ∨ cmpS b.name a.name = -1)) := by
  unfold LtP at h
  rcases Int.lt_trichotomy a.high b.high with e | e | e
  · exact absurd (.inl e) h
  · refine .inr ⟨e, ?_⟩
    rcases cmpS_three a.name b.name with h1 | h1 | h1
    · exact absurd (.inr ⟨e, h1⟩) h
    · exact .inl h1
    · exact .inr (cmpS_anti h1)
  · exact .inl e
theorem per_swo : SWO (ltOf cmpPer) where
  irrefl x := by
    rw [← Bool.not_eq_true, ltP_iff]
    exact fun h => ltP_asym h h
  trans x y z h1 h2 := by
    rw [ltP_iff] at *
    exact ltP_trans h1 h2
  ntrans x y z h1 h2 := by
    rw [← Bool.not_eq_true, ltP_iff] at *
    have k1 := ltP_not h1
    have k2 := ltP_not h2
    rintro (h | ⟨h, h'⟩)
    · rcases k1 with k1 | ⟨k1, -⟩ <;> rcases k2 with k2 | ⟨k2, -⟩ <;> omega
    · rcases k1 with k1 | ⟨e1, k1⟩ <;> rcases k2 with k2 | ⟨e2, k2⟩ <;> try omega
      rcases k1 with k1 | k1 <;> rcases k2 with k2 | k2
      · rw [cmpS_zero k1, cmpS_zero k2, cmpS_refl] at h'; cases h'
      · rw [cmpS_zero k1] at h'
        rw [cmpS_flip k2] at h'; cases h'
      · rw [← cmpS_zero k2] at h'
        rw [cmpS_flip k1] at h'; cases h'
      · rw [cmpS_flip (cmpS_trans k2 k1)] at h'; cases h'
/-- By height, from the shortest one on. -/
def ByH (P M : List PersonV) : Prop := M.Perm P ∧ M.Pairwise LtP
/-- A sort by height and name of people whose names differ. -/
theorem byH_of {P : List PersonV} (hok : PeopleOk P) {d : Array PersonV} (hp : PermIn 0 P.length P.toArray d) (hs : SortedIn (ltOf cmpPer) 0 P.length d) : ByH P d.toList := by
  have hsz : d.size = P.length := by have := hp.1; simpa using this
  have e1 : d.extract 0 P.toArray.size = d := by simp [← hsz]
  have hperm : d.toList.Perm P := by
    have h9 := hp.2.2
    have e2 : d.extract 0 P.length = d := by simp [← hsz]
    rw [e2] at h9
    simpa using h9
  refine ⟨hperm, ?_⟩
  have hdis : P.Pairwise fun a b => a.name ≠ b.name := by
    rw [List.pairwise_iff_getElem]
    intro i j hi hj hij e
    have := hok.less (List.getElem?_eq_getElem hi) (List.getElem?_eq_getElem hj) hij
    rw [e, cmpS_refl] at this
    cases this
  have hdd := (hperm.symm.pairwise_iff (fun {x y} h k => h k.symm)).1 hdis
  rw [List.pairwise_iff_getElem] at hdd ⊢
  intro i j hi hj hij
  have h1 := hdd i j hi hj hij
  have h9 := hs i j (Nat.zero_le _) hij (by simp at hj; omega)
  rw [← Bool.not_eq_true, ltP_iff] at h9
  simp at hi hj
  rw [getElem!_pos d j hj, getElem!_pos d i hi] at h9
  rcases ltP_not h9 with h | ⟨h, k | k⟩
  · exact .inl h
  · exact absurd (cmpS_zero k).symm h1
  · exact .inr ⟨h.symm, k⟩
end Go.Proofs.YtdehmioobkneiaaGreatDoor
namespace Go.Proofs.YtdehmioobkneiaaGreatDoor
open Go Go.RowKit
end Go.Proofs.YtdehmioobkneiaaGreatDoor
namespace Go.Proofs.YtdehmioobkneiaaGreatDoor
open Go Go.RowKit Go.Sort
end Go.Proofs.YtdehmioobkneiaaGreatDoor
namespace Go.Proofs.YtdehmioobkneiaaGreatDoor
open Go Go.RowKit Go.Sort
theorem per_flat_lenK (xs : List PersonV) : (xs.flatMap perC).length = xs.length * 3 := flat_lenK perC_len xs
theorem clonePer_any (p : Option Addr) (n c : Nat) (xs : List PersonV) (w : World) (h : Slc 3 perC w p n c xs) (hn : n ≤ 1000) :
    Calls Tryz.prog 82 #[.slice p n c] w fun e w' => ∃ v, e = .returned v ∧ w'.ownsRow w.heap.size 42 3 v n (xs.flatMap perC) ∧ Ext w w' := by
  obtain ⟨hS, hnc, hp0, hp⟩ := h
  cases p with
  | none =>
    obtain rfl := hp0 rfl
    have hx : xs = [] := List.eq_nil_of_length_eq_zero hS.1
    subst hx
    exact (AnyE.slices_Clone_nil Tryz.lecPer 0 c w).mono fun e w' ⟨he, hw⟩ => by
      subst hw
      exact ⟨_, he, World.ownsRow_nil _ _ _ _, Ext.refl _⟩
  | some a =>
    obtain ⟨b, off, rfl, hb⟩ := hp a rfl
    obtain ⟨i0, hi, hz0, hz1, hz2⟩ := info_parts (P := Tryz.prog) (e := 42) (z := .agg #[.string ⟨#[]⟩, .int .i64 0, .string ⟨#[]⟩]) (size := 3) (bytes := 40) (by kernel_rfl)
    refine (AnyE.slices_Clone Tryz.lecPer i0 _ 3 40 hi hz0 hz1 hz2 rfl (by decide) Tryz.sizeOf42 b off n c (xs.flatMap perC) w (by rw [per_flat_lenK, hS.1]) (by unfold maxLen; omega) (by omega) (fun j u hj => ?_) (fun u hu => ?_)).mono fun e w' ⟨v', he, ho, _, hb'⟩ => ⟨v', he, ho, hb'⟩
    · have hj' : j < xs.length * 3 := by rw [← per_flat_lenK]; exact (List.getElem?_eq_some_iff.1 hj).1
      have hn0 : n ≠ 0 := by have := hS.1; omega
      obtain ⟨b', off', hpe, hb', hE⟩ := hS.2.2 hn0
      cases hpe
      obtain ⟨x, hx⟩ : ∃ x, xs[j / 3]? = some x := ⟨_, List.getElem?_eq_getElem (by omega)⟩
      have hjm : j % 3 < 3 := Nat.mod_lt _ (by omega)
      obtain ⟨u', hu'⟩ : ∃ u', (perC x)[j % 3]? = some u' := ⟨_, List.getElem?_eq_getElem (by rw [perC_len]; exact hjm)⟩
      have h2 := hE _ x hx _ u' hu'
      have h3 := flat_at perC_len xs (j / 3) x hx (j % 3) u' hu'
      rw [Nat.div_add_mod' j 3] at h3
      rw [h3] at hj
      cases hj
      have h4 : (⟨b, off, none⟩ : Addr).add j = ⟨b, off + j, none⟩ := by unfold Addr.add; split <;> simp_all
      rw [show off + j = off + j / 3 * 3 + j % 3 by omega]
      exact h2
    · obtain ⟨x, -, hx⟩ := List.mem_flatMap.1 hu
      exact per_one x u hx
set_option maxRecDepth 100000 in
set_option maxHeartbeats 1600000 in
theorem heightG_any (a b : PersonV) (w : World) :
    Calls Tryz.prog 84 #[.agg #[.string a.name, .int .i64 a.high, .string a.sect], .agg #[.string b.name, .int .i64 b.high, .string b.sect]] w fun e w' => e = .returned (.int .i64 (cmpPer a b)) ∧ ∃ q os', w' = grow (w.drewN q) os' := by
  have hF : cmpPer a b = orF [cmpZ a.high b.high, cmpS a.name b.name] := rfl
  rw [hF]
  clear hF
  have hX : Blk ((w.alloc (.cells #[.string a.name, .int .i64 a.high, .string a.sect] 42)).alloc (.cells #[.string b.name, .int .i64 b.high, .string b.sect] 42)) w.heap.size 42 #[.string a.name, .int .i64 a.high, .string a.sect] := (Blk.new' rfl).alloc _
  have hY : Blk ((w.alloc (.cells #[.string a.name, .int .i64 a.high, .string a.sect] 42)).alloc (.cells #[.string b.name, .int .i64 b.high, .string b.sect] 42)) (w.heap.size + 1) 42 #[.string b.name, .int .i64 b.high, .string b.sect] := Blk.new' (by simp)
  go_enter Tryz.func84, Tryz.ntmps84
  go_upto_region 1 with fail
  refine wp_region_planS [(0, true), (1, true), (2, true), (3, true), (4, true), (5, true), (6, true), (7, true), (8, true), (9, true)] 10 (fun w' => Blk w' w.heap.size 42 #[.string a.name, .int .i64 a.high, .string a.sect] ∧ Blk w' (w.heap.size + 1) 42 #[.string b.name, .int .i64 b.high, .string b.sect]) Drw (by kernel_rfl) (by kernel_rfl) Drw.refl (fun _ _ _ => Drw.trans) (fun _ _ h he => ⟨h.1.drw he, h.2.drw he⟩) ⟨(by (repeat (with_reducible first | assumption | exact Blk.new' (by simp) | refine Blk.drew ?_ | refine Blk.alloc ?_ _ | exact Drw.refl _ | refine Ext.drew ?_ | refine Ext.alloc ?_ _))), (by (repeat (with_reducible first | assumption | exact Blk.new' (by simp) | refine Blk.drew ?_ | refine Blk.alloc ?_ _ | exact Drw.refl _ | refine Ext.drew ?_ | refine Ext.alloc ?_ _)))⟩ ?_
  repeat
    first
      | (refine plan_quiet rfl rfl (fun _ _ _ _ h => h) ?_
         apply Exists.intro
         refine ⟨fun w' hw' => ?_, ?_⟩
         · obtain ⟨hH0, hH1⟩ := hw'
           unfold Blk at hH0 hH1
           simp [go_sem, quietTo, World.cell?, hH0, hH1, Drw.refl, ↓IntWalk.iteOmega]
           first
             | rfl
             | (exact cmpIntE_any _ _ _)
             | (exact cmpSE_any _ _ _)
         simp only [Act.put, sIA, sCS, sCZ])
      | (refine plan_skip rfl rfl (fun _ _ _ _ h => h) ?_
         simp only [Act.put, sIA, sCS, sCZ])
  refine plan_nil fun wr her hwr => ?_
  obtain ⟨hH0, hH1⟩ := hwr
  obtain ⟨hC0, hF0⟩ := hH0.walk
  obtain ⟨hC1, hF1⟩ := hH1.walk
  simp only [List.drop_succ_cons, List.drop_zero, List.drop_nil]
  go_wp2_with (go_at_call 54; refine (orInt_blk _ _ 2 [cmpZ a.high b.high, cmpS a.name b.name] _ (by simp) (Blk.new' rfl)).mono ?_; rintro e w2 ⟨rfl, rfl⟩)
  go_ret
  refine ⟨rfl, ?_⟩
  obtain ⟨q, rfl⟩ := her
  exact ⟨q + 1, _, grow_three _ _ _ _ _⟩
set_option maxRecDepth 100000 in
theorem sortPer_any {w : World} {base g n cap : Nat} {L : List PersonV} (h : w.ownsRow base 42 3 (.slice (some ⟨g, 0, none⟩) n cap) n (L.flatMap perC)) (hn : L.length = n) (hn1 : n ≤ 1000) (hok : PeopleOk L) :
    Calls Tryz.prog 83 #[.slice (some ⟨g, 0, none⟩) n cap, .func (.func 84) #[] #[]] w fun e w' => e = .returned (.tuple #[]) ∧ ∃ M : List PersonV, ByH L M ∧ w'.ownsRow base 42 3 (.slice (some ⟨g, 0, none⟩) n cap) n (M.flatMap perC) ∧ ∀ a : World, Ext a w → a.heap.size ≤ g → Ext a w' := by
  have hgl := (h.lt g rfl).2
  subst hn
  have hs := AnyQ.slices_SortFunc Tryz.lsfPer 3 Tryz.isAgg42 Tryz.sizeOf42 perC perC_len per_one cmpPer per_swo 84 #[] g 0 cap L.toArray w (fun args u => by rfl) (fun m os dk _ x y => heightG_any x y _) (holdsK_own perC_len h) hgl (by simp; omega)
  refine hs.mono fun e w' ⟨he, d', q, os, hp, hso, hw⟩ => ?_
  have hby : ByH L d'.toList := byH_of hok (by simpa using hp) (by simpa using hso)
  refine ⟨he, d'.toList, hby, ?_, ?_⟩
  · rw [hw]
    exact own_sortK perC_len h hby.1.length_eq
  · intro a ha hg
    rw [hw]
    exact ext_sortK ha hg
set_option maxRecDepth 100000 in
set_option maxHeartbeats 1600000 in
theorem byHeight_any (p : Option Addr) (c : Nat) (L : List PersonV) (w : World) (h : Slc 3 perC w p L.length c L) (hn : L.length ≤ 19) (hok : PeopleOk L) :
    Calls Tryz.prog 36 #[.slice p L.length c] w fun e w' => ∃ (q : Option Addr) (d : Nat) (M : List PersonV), e = .returned (.slice q L.length d) ∧ ByH L M ∧ Slc 3 perC w' q L.length d M ∧ (∀ a, q = some a → w.heap.size ≤ a.block) ∧ Ext w w' := by
  have hcl := clonePer_any p L.length c L w h (by omega)
  replace hcl := Lib.hid hcl
  by_cases h0 : L.length = 0
  · have hx : L = [] := List.eq_nil_of_length_eq_zero h0
    subst hx
    clear h0 hok h
    have hno := fun (q : Option Addr) (d : Nat) (fv : Value) (u : World) => (show Calls Tryz.prog 83 #[.slice q 0 d, fv] u fun e w' => e = .returned (.tuple #[]) ∧ u = w' from (AnyF.slices_SortFunc_none Tryz.lsfPer _ _ _ _).mono (fun _ _ h => And.intro h.1 h.2.symm))
    replace hno := Lib.hid hno
    go_enter Tryz.func36, Tryz.ntmps36
    go_wp2_with (first
      | (go_at_call 82; (with_reducible refine Calls.mono hcl.out ?_); rintro e w2 ⟨v, rfl, hown, hb2⟩; obtain ⟨q, d, rfl, hS'⟩ := slc_of_own perC_len hown (by decide) (by decide); have hfr : ∀ a, q = some a → w.heap.size ≤ a.block := fun a ha => by { subst ha; exact (hown.lt a.block rfl).1 }; replace hfr := Lib.hid hfr; clear hown)
      | (go_at_call 83; refine (hno.out _ _ _ _).mono ?_; rintro e w3 ⟨rfl, rfl⟩))
    go_ret
    exact ⟨q, d, [], rfl, ⟨List.Perm.refl _, List.Pairwise.nil⟩, hS', hfr.out, hb2⟩
  · have hso := fun (u : World) (g d : Nat) (ho : u.ownsRow w.heap.size 42 3 (.slice (some ⟨g, 0, none⟩) L.length d) L.length (L.flatMap perC)) => sortPer_any ho rfl (by omega) hok
    replace hso := Lib.hid hso
    have h0' : 0 < L.length := by omega
    replace h0 := Lib.hid h0; clear h hok
    go_enter Tryz.func36, Tryz.ntmps36
    go_wp2_with (first
      | (go_at_call 82; (with_reducible refine Calls.mono hcl.out ?_); rintro e w2 ⟨v, rfl, hown, hb2⟩; obtain ⟨g, d, rfl, hgk, hgl⟩ := hown.form h0')
      | (go_at_call 83; (with_reducible refine Calls.mono (hso.out _ _ _ hown) ?_); rintro e w3 ⟨rfl, M, hM, ho3, hx3⟩))
    obtain ⟨q, d', e9, hS9⟩ := slc_of_own perC_len ho3 (by decide) (by omega)
    cases e9
    go_ret
    exact ⟨_, d, M, rfl, hM, hS9, (fun a ha => by cases ha; exact hgk), hx3 _ hb2 hgk⟩
end Go.Proofs.YtdehmioobkneiaaGreatDoor
namespace Go.Proofs.YtdehmioobkneiaaGreatDoor
open Go Go.RowKit
/-- 'out = append(out, xs...)'. -/
theorem run_app_nil {P : Program} (w : World) (base : Nat) (t ty e : TypeId) (i : TypeInfo) (size : Nat) (ht : P.underlying t = some (.slice e)) (hi : P.info? e = some i)
    (v : Value) (n : Nat) (xs : List Value) (hown : w.ownsRow base e size v n xs) (c : Nat) : (Builtin.append_ #[t, t] ty #[v, .slice none 0 c]).run P w = .ok v w := by
  rcases hown.2 with ⟨rfl, rfl⟩ | ⟨g, cap, cur, rfl, _, _, hnc, _⟩
  · simp [Builtin.append_, run_underlying ht, sizeOf, typeInfo, hi, Builtin.lenOf, Builtin.firstCells]
  · simp [Builtin.append_, run_underlying ht, sizeOf, typeInfo, hi, Builtin.lenOf, Builtin.firstCells, hnc, storeCells]
theorem wp_appS {α : Type} {P : Program} (w : World) {ops : Array Oper} {rest : List Oper} {o : Oper} {a : Act} {Q : Exit → Act → World → Prop} (s x : Operand) (t e : TypeId) (k bytes : Nat) (z : Value) (hgd : o.guard = none)
    (ho : o.op = .call { callee := .builtin .append, args := #[s, x], argTypes := #[t, t] })
    (ht : P.underlying t = some (.slice e)) (hinfo : (P.info? e).map (fun i => (i.zero, i.size, i.bytes)) = some (some z, k, bytes)) (hzs : z.cells.size = k) (hsz : 0 < k) (hby : bytes ≤ 1000)
    (enc : α → List Value) (hk : ∀ x, (enc x).length = k) (h1 : ∀ x, ∀ u ∈ enc x, u.oneCell' = true)
    (base : Nat) (v : Value) (n : Nat) (xs : List Value) (hs : a.eval s = v) (hown : w.ownsRow base e k v n xs)
    (p : Option Addr) (m c : Nat) (ys : List α) (hx : a.eval x = .slice p m c) (hS : Slc k enc w p m c ys)
    (hn : n + m ≤ 1000000000) (hbase : base ≤ w.heap.size)
    (h : ∀ v' w', w'.ownsRow base e k v' (n + m) (xs ++ ys.flatMap enc) → w.grownBy w' v.ownBlock → wpList P ops Q rest (a.put o.dst v') w') : wpList P ops Q (o :: rest) a w := by
  obtain ⟨i0, hi, hz0, hz1, hz2⟩ := info_parts hinfo
  obtain ⟨hl, hcs⟩ := slcC hS
  have hl2 : m = ys.length := hl
  cases p with
  | none =>
    have hm : m = 0 := hS.2.2.1 rfl
    have hys : ys = [] := List.eq_nil_of_length_eq_zero (by omega)
    subst hys
    subst hm
    have hrun := run_app_nil (P := P) w base t o.type e i0 k ht hi v n xs hown c
    refine wpList_plain hgd fun K hK => ?_
    unfold Oper.wp
    simp [execOp, ho, resolve, invoke, builtin, hs, hx, hrun, Result.andThen]
    exact hK _ _ (h v w (by simpa using hown) (World.grownBy.refl w _))
  | some ad =>
    refine wpList_append_own w hgd s x t ho base e i0 z k bytes ht hi hz0 hz1 hz2 hzs hsz v n xs hs hown ad m c (ys.flatMap enc) hx (by rw [flat_lenK hk, hl2]) (fun j u hu => ?_) (fun u hu => ?_) ?_ ?_ hbase (fun v' w' h2 h3 h4 => h v' w' h2 h3)
    · have hj : j < ys.length * k := by rw [← flat_lenK hk]; exact (List.getElem?_eq_some_iff.1 hu).1
      have hn0 : m ≠ 0 := fun h0 => by rw [← hl2, h0] at hj; simp at hj
      obtain ⟨b, off, hpe, hb, hE⟩ := hS.1.2.2 hn0
      cases hpe
      have hq : j / k < ys.length := (Nat.div_lt_iff_lt_mul hsz).2 hj
      have hjm : j % k < k := Nat.mod_lt _ hsz
      have hyx : ys[j / k]? = some ys[j / k] := List.getElem?_eq_getElem hq
      have hux : (enc ys[j / k])[j % k]? = some ((enc ys[j / k])[j % k]'(by rw [hk]; exact hjm)) := List.getElem?_eq_getElem _
      have h2 := hE _ _ hyx _ _ hux
      have h3 := flat_at hk ys (j / k) _ hyx (j % k) _ hux
      rw [Nat.div_add_mod' j k] at h3
      rw [h3] at hu
      cases hu
      have h4 : (⟨b, off, none⟩ : Addr).add j = ⟨b, off + j, none⟩ := by unfold Addr.add; split <;> simp_all
      rw [h4, show off + j = off + j / k * k + j % k by rw [Nat.add_assoc, Nat.div_add_mod']]
      exact h2
    · obtain ⟨y, -, hy⟩ := List.mem_flatMap.1 hu
      exact h1 y u hy
    · unfold maxLen; omega
    · have : (n + m) * bytes ≤ 1000000000 * 1000 := Nat.mul_le_mul hn hby
      omega
theorem Slc.takeZ {α : Type} {k : Nat} {enc : α → List Value} {w : World} {p : Option Addr} {n c : Nat} {xs : List α} (h : Slc k enc w p n c xs) {m : Nat} (hm : m ≤ n) : Slc k enc w p m c (xs.take m) := by
  obtain ⟨hS, hnc, hp0, hp⟩ := h
  refine ⟨⟨by rw [List.length_take, hS.1]; omega, by have := hS.2.1; omega, fun h0 => ?_⟩, by omega, fun e => by have := hp0 e; omega, hp⟩
  obtain ⟨b, off, e, hb, hE⟩ := hS.2.2 (by omega)
  refine ⟨b, off, e, hb, fun i x hx j u hu => hE i x ?_ j u hu⟩
  rw [List.getElem?_take] at hx
  split at hx
  · exact hx
  · cases hx
theorem Slc.dropS {α : Type} {k : Nat} {enc : α → List Value} {w : World} {b off n c : Nat} {xs : List α} (h : Slc k enc w (some ⟨b, off, none⟩) n c xs) {m : Nat} (hm : m ≤ n) : Slc k enc w (some ⟨b, off + m * k, none⟩) (n - m) (c - m) (xs.drop m) := by
  obtain ⟨hS, hnc, hp0, hp⟩ := h
  obtain ⟨b', off', e0, hb0⟩ := hp _ rfl
  cases e0
  refine ⟨⟨by rw [List.length_drop, hS.1], by have := hS.2.1; omega, fun h0 => ?_⟩, by omega, fun e => (by cases e), fun a ha => ⟨_, _, (Option.some.inj ha).symm, hb0⟩⟩
  obtain ⟨b2, off2, e, hb, hE⟩ := hS.2.2 (by omega)
  cases e
  refine ⟨b, _, rfl, hb, fun i x hx j u hu => ?_⟩
  rw [List.getElem?_drop] at hx
  have := hE _ x hx j u hu
  rw [Nat.add_mul] at this
  rw [show off + m * k + i * k + j = off + (m * k + i * k) + j by omega]
  exact this
theorem Slc.empty {α : Type} {k : Nat} {enc : α → List Value} {w : World} {p : Option Addr} {n c d : Nat} {xs : List α} (h : Slc k enc w p n c xs) : Slc k enc w p 0 d [] :=
  ⟨⟨rfl, Nat.zero_le _, fun h0 => absurd rfl h0⟩, Nat.zero_le _, fun _ => rfl, h.2.2.2⟩
/-- A slice cut at m, whatever it is. -/
theorem Slc.cut {α : Type} {k : Nat} {enc : α → List Value} {w : World} {p : Option Addr} {n c : Nat} {xs : List α} (h : Slc k enc w p n c xs) {m : Nat} (hm : m ≤ n) : ∃ (p' : Option Addr), Slc k enc w p' (n - m) (c - m) (xs.drop m) ∧ (∀ a, p' = some a → ∃ a0, p = some a0 ∧ a.block = a0.block) ∧
    ((p = none ∧ p' = none ∧ n = 0) ∨ ∃ b off, p = some ⟨b, off, none⟩ ∧ (m = c ∧ p' = p ∨ m < c ∧ p' = some ⟨b, off + m * k, none⟩)) := by
  have h3 := h.2.1
  cases p with
  | none =>
    have h0 := h.2.2.1 rfl
    have hx : xs = [] := List.eq_nil_of_length_eq_zero (by rw [h.1.1]; exact h0)
    subst hx
    refine ⟨none, ?_, (fun a ha => by cases ha), .inl ⟨rfl, rfl, h0⟩⟩
    rw [List.drop_nil, h0, Nat.zero_sub]
    exact ⟨(h.empty (d := 0)).1, Nat.zero_le _, fun _ => rfl, fun a ha => by cases ha⟩
  | some a =>
    obtain ⟨b, off, rfl, hb⟩ := h.2.2.2 a rfl
    by_cases hc : m = c
    · have e : n - m = 0 := by omega
      have e2 : xs.drop m = [] := List.drop_eq_nil_of_le (by rw [h.1.1]; omega)
      rw [e, e2]
      exact ⟨_, h.empty (d := c - m) |> fun k => ⟨k.1, Nat.zero_le _, k.2.2⟩, (fun a ha => by cases ha; exact ⟨_, rfl, rfl⟩), .inr ⟨b, off, rfl, .inl ⟨hc, rfl⟩⟩⟩
    · exact ⟨_, h.dropS hm, (fun a ha => by cases ha; exact ⟨_, rfl, rfl⟩), .inr ⟨b, off, rfl, .inr ⟨by omega, rfl⟩⟩⟩
end Go.Proofs.YtdehmioobkneiaaGreatDoor
