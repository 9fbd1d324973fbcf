/- What is wrong with an order of sections: the document's OrderFault. Conditions: lists in memory, names of no great length. People on a stage by their sections: the document's walk. Conditions: people, the stage and the order are right. -/
import Derived.Test.YtfcoeikekbjgpaaGreatDoorRxRoM
import Derived.Test.YtfcoeikekbjgpaaGreatDoorRxJ41
import Derived.Test.YtfcoeikekbjgpaaGreatDoorRxJ5
import Derived.Test.YtfcoeikekbjgpaaGreatDoorRxJ26
import Derived.Test.YtfcoeikekbjgpaaGreatDoorRxRoK
import Derived.Test.YtfcoeikekbjgpaaGreatDoorRxRoL
set_option linter.unusedSimpArgs false
set_option linter.unusedVariables false
namespace Go.Proofs.YtfcoeikekbjgpaaGreatDoor
open Go Go.RowKit

/-- What the document says is wrong with an order for people. -/
def ordF2 (P : List PersonV) (O : List ByteArray) : Int := if orderF O = 0 then (if P.any fun x => !inN O x.sect then 8 else 0) else orderF O
set_option maxRecDepth 100000 in
theorem ofCall {op : Option Addr} {oc : Nat} {O : List ByteArray} (g : Nat) (w : World) (y : PersonV) (hO : Slc 1 strC w op O.length oc O) (hn : O.length ≤ 1000) (hB : Blk w g 31 #[.slice op O.length oc]) :
    Calls Tryz.prog 45 #[.agg #[.string y.name, .int .i64 y.high, .string y.sect], .pointer (some ⟨g, 0, none⟩)] w fun e w' => e = .returned (.bool (!inN O y.sect)) ∧ Ext w w' := by
  have hct := fun u (hu : Ext w u) => containsS_is op O.length oc O y.sect u (hO.ext hu) hn rfl
  replace hct := Lib.hid hct
  obtain ⟨b1, -⟩ := hB.walk
  have bl := hB.lt
  clear hB hO
  generalize inN O y.sect = v at *
  cases v
  all_goals
    go_enter Tryz.func45, Tryz.ntmps45
    go_wp2_with (go_at_call 42; (with_reducible refine Calls.mono (hct.out _ ((Ext.refl _).alloc _)) ?_); rintro e w1 ⟨rfl, hb1⟩)
    go_ret
    exact ⟨rfl, ((Ext.refl _).alloc _).trans hb1⟩
theorem ofPred {op : Option Addr} {oc : Nat} {O : List ByteArray} (g : Nat) (w : World) (hO : Slc 1 strC w op O.length oc O) (hn : O.length ≤ 1000) (hB : Blk w g 31 #[.slice op O.length oc]) :
    PredBelow Tryz.prog 45 #[.pointer (some ⟨g, 0, none⟩)] (fun y : PersonV => .agg (perC y).toArray) (fun y => !inN O y.sect) w := fun W y hb => by
  have hE : Ext w W := hb
  exact (ofCall g W y (hO.ext hE) hn (hB.ext hE)).mono fun e w' h => ⟨h.1, hE.trans h.2⟩
set_option maxRecDepth 100000 in
/-- A slice of length 0 searched. -/
theorem idxPer_nil (p : Option Addr) (c : Nat) (fv : Value) (w : World) : Calls Tryz.prog 83 #[.slice p 0 c, fv] w fun e w' => e = .returned (.int .i64 (-1)) ∧ Ext w w' := by
  go_enter Tryz.func83, Tryz.ntmps83
  go_wp2
  refine wp_loop_rounds 1 ?_
  rw [rounds_succ]
  go_wp2
  go_ret
  exact ⟨rfl, Ext.refl _⟩
set_option maxRecDepth 100000 in
theorem hasPer_nil (p : Option Addr) (c : Nat) (fv : Value) (w : World) : Calls Tryz.prog 44 #[.slice p 0 c, fv] w fun e w' => e = .returned (.bool false) ∧ Ext w w' := by
  have hi := idxPer_nil p c fv w
  replace hi := Lib.hid hi
  go_enter Tryz.func44, Tryz.ntmps44
  go_wp2_with (go_at_call 83; (with_reducible refine Calls.mono hi.out ?_); rintro e w1 ⟨rfl, hb1⟩)
  go_ret
  exact ⟨rfl, hb1⟩
theorem hasPer_any {pp : Option Addr} {pc : Nat} {P : List PersonV} {op : Option Addr} {oc : Nat} {O : List ByteArray} {w : World} (g : Nat) (hP : Slc 3 perC w pp P.length pc P) (hPn : P.length ≤ 1000) (hO : Slc 1 strC w op O.length oc O) (hn : O.length ≤ 1000) (hB : Blk w g 31 #[.slice op O.length oc]) :
    Calls Tryz.prog 44 #[.slice pp P.length pc, .func (.func 45) #[] #[.pointer (some ⟨g, 0, none⟩)]] w fun e w' => e = .returned (.bool (P.any fun x => !inN O x.sect)) ∧ Ext w w' := by
  rcases (slcC hP).2 with ⟨rfl, e⟩ | ⟨sb, so, rfl, hsb, hEl⟩
  · subst e
    exact hasPer_nil none pc _ w
  · have eg : ∀ args w, (callFunc 45 args).run Tryz.prog w = .ok (.enter 45 args) w := enters_of Tryz.func45 (by kernel_rfl) rfl
    have := AnyQ.slices_ContainsFunc Tryz.lqcPer 3 Tryz.isAgg59 Tryz.sizeOf59 perC perC_len (fun x => !inN O x.sect) 45 #[.pointer (some ⟨g, 0, none⟩)] eg sb so P.length pc P w
      (ofPred g w hO hn hB) (Nat.le_refl _) (by omega) hsb (fun j hj i v hi => hEl j _ (by rw [List.getElem?_eq_getElem hj, getElem!_pos P j hj]) i v hi)
    rw [List.take_length] at this
    exact this

set_option maxRecDepth 100000 in
set_option maxHeartbeats 6400000 in
theorem rOrder_any {pp : Option Addr} {pc : Nat} {P : List PersonV} {gp : Option Addr} {gc : Nat} {O : List ByteArray} {w : World} (hP : Slc 3 perC w pp P.length pc P) (hPn : P.length ≤ 1000) (hG : Slc 1 strC w gp O.length gc O) (hGl : O.length ≤ 1000) (hsz : ∀ x ∈ O, x.size ≤ 1000) :
    Calls Tryz.prog 16 #[.slice pp P.length pc, .slice gp O.length gc] w fun e w' => e = .returned (.int .i64 (ordF2 P O)) ∧ Ext w w' := by
  have hE0 : Ext w (w.alloc (.cells #[.slice gp O.length gc] 31)) := (Ext.refl _).alloc _
  have hB0 : Blk (w.alloc (.cells #[.slice gp O.length gc] 31)) w.heap.size 31 #[.slice gp O.length gc] := Blk.new' rfl
  obtain ⟨q0, -⟩ := hB0.walk
  have ql0 := hB0.lt
  by_cases hl : 20 < O.length
  · have hF : ordF2 P O = 2 := by unfold ordF2 orderF; rw [if_pos hl]; rfl
    have hlI : (20 : Int) < O.length := by omega
    rw [hF]
    clear hF hsz hP hG
    go_enter Tryz.func16, Tryz.ntmps16
    go_wp2
    go_ret
    exact ⟨rfl, hE0⟩
  have hF : orderF O = scanF O.length (chkOrd O) := by unfold orderF; rw [if_neg hl]
  have hF2 : ∀ v : Int, v ≠ 0 → orderF O = v → ordF2 P O = v := fun v hv h => by unfold ordF2; rw [h, if_neg hv]
  have hF0 : orderF O = 0 → ordF2 P O = if P.any fun x => !inN O x.sect then 8 else 0 := fun h => by unfold ordF2; rw [if_pos h]
  have hlI : ¬ (20 : Int) < O.length := by omega
  have hhs := fun u (hu : Ext (w.alloc (.cells #[.slice gp O.length gc] 31)) u) => hasPer_any w.heap.size ((hP.ext hE0).ext hu) hPn ((hG.ext hE0).ext hu) hGl (hB0.ext hu)
  replace hF := Lib.hid hF
  replace hF2 := Lib.hid hF2
  replace hF0 := Lib.hid hF0
  replace hhs := Lib.hid hhs
  clear hP
  go_enter Tryz.func16, Tryz.ntmps16
  go_wp2
  change Code.wp _ _ _ _ (w.alloc (.cells #[.slice gp O.length gc] 31))
  generalize w.alloc (.cells #[.slice gp O.length gc] 31) = W at *
  generalize w.heap.size = g0 at *
  go_loopw [12] (fun v12 wr => ∃ k : Nat, v12 = .int .i64 k ∧ k ≤ O.length ∧ Zeros (chkOrd O) k ∧ Ext W wr) (fun v12 _ => O.length - (intOf v12).toNat)
  case atStart => exact ⟨0, rfl, Nat.zero_le _, (fun j hj => by omega), Ext.refl _⟩
  case round =>
    clear q0 ql0
    obtain ⟨k, rfl, hk, hz, hX⟩ := hrel
    have hE := hE0.trans hX
    have hBx := hB0.ext hX
    obtain ⟨q1, -⟩ := hBx.walk
    have ql1 := hBx.lt
    by_cases hlt : k < O.length
    · obtain ⟨x, hx⟩ := getD_some (rfl : O.length = O.length) hlt
      have hxs := hsz x (List.mem_of_getElem? hx)
      have hat : chkOrd O k = if keyB x then (if inN (O.take k) x then 6 else 0) else 5 := by unfold chkOrd; rw [atL_of hx]
      have hgc := hG.2.1
      rcases (slcC hG).2 with ⟨-, e⟩ | ⟨gb, go, rfl, hgb, hgE⟩
      · rw [e] at hx; cases hx
      have c0 := (hgE.ext hE hgb).str hx
      have hbl := Nat.lt_of_lt_of_le hgb hE.size
      have hkI : (k : Int) < O.length := by omega
      cases hm : keyB x
      · rw [hm] at hat
        have hsc : (5 : Int) = scanF O.length (chkOrd O) := scan_is hz hlt hat (by omega)
        have hke := key_is hm (by omega) wr
        replace hsc := Lib.hid hsc
        replace hke := Lib.hid hke
        clear hgE hx hat hz hm
        go_wp2_with (go_at_call 33; (with_reducible refine Calls.mono hke.out ?_); rintro e w1 ⟨rfl, hb1⟩)
        go_ret
        exact ⟨(by rw [hF2.out 5 (by decide) (hF.out.trans hsc.out.symm)]; try rfl), hE.trans hb1⟩
      · rw [hm] at hat
        have hke := key_is hm (by omega) wr
        have hct := fun u (hu : Ext wr u) v (hv : inN (O.take k) x = v) => containsS_take (some ⟨gb, go, none⟩) O.length gc O x u ((hG.ext hE).ext hu) (by omega) hk hv
        replace hct := Lib.hid hct
        replace hke := Lib.hid hke
        clear hgE hx hm
        have hkc : (k : Int) ≤ gc := by omega
        cases hd : inN (O.take k) x
        · rw [hd] at hat
          have hz2 := hz.succ hat
          replace hz2 := Lib.hid hz2
          clear hz hat
          go_wp2_with (first
            | (go_at_call 33; (with_reducible refine Calls.mono hke.out ?_); rintro e w1 ⟨rfl, hb1⟩; clear q1 ql1; obtain ⟨q2, -⟩ := (hBx.ext hb1).walk; have ql2 := (hBx.ext hb1).lt)
            | (go_at_call 42; (with_reducible refine Calls.mono (hct.out _ hb1 _ hd) ?_); rintro e w2 ⟨rfl, hb2⟩))
          go_roundw
          case rel => exact ⟨k + 1, by go_num, by omega, hz2.out, (hX.trans hb1).trans hb2⟩
          case measure => simp [intOf]; omega
        · rw [hd] at hat
          have hsc : (6 : Int) = scanF O.length (chkOrd O) := scan_is hz hlt hat (by omega)
          replace hsc := Lib.hid hsc
          clear hz hat
          go_wp2_with (first
            | (go_at_call 33; (with_reducible refine Calls.mono hke.out ?_); rintro e w1 ⟨rfl, hb1⟩; clear q1 ql1; obtain ⟨q2, -⟩ := (hBx.ext hb1).walk; have ql2 := (hBx.ext hb1).lt)
            | (go_at_call 42; (with_reducible refine Calls.mono (hct.out _ hb1 _ hd) ?_); rintro e w2 ⟨rfl, hb2⟩))
          go_ret
          exact ⟨(by rw [hF2.out 6 (by decide) (hF.out.trans hsc.out.symm)]; try rfl), (hE.trans hb1).trans hb2⟩
    · obtain rfl : k = O.length := by omega
      have hsc : scanF O.length (chkOrd O) = 0 := scan_zero hz
      have hfin := hF0.out (hF.out.trans hsc)
      have hhx := hhs.out _ hX
      generalize (P.any fun x => !inN O x.sect) = v at hhx hfin
      replace hfin := Lib.hid hfin
      replace hhx := Lib.hid hhx
      clear hhs hF0
      cases v
      all_goals
        go_wp2_with (first
          | (go_at_call 44; (with_reducible refine Calls.mono hhx.out ?_); rintro e w1 ⟨rfl, hb1⟩)
          | (go_at_call 43; (with_reducible refine Calls.mono (noneFault_any _ _) ?_); rintro e w2 ⟨rfl, rfl⟩))
        go_ret
        exact ⟨(by rw [hfin.out]; rfl), hE.trans hb1⟩
end Go.Proofs.YtfcoeikekbjgpaaGreatDoor

namespace Go.Proofs.YtfcoeikekbjgpaaGreatDoor
open Go Go.RowKit

theorem own_typ {w : World} {b b' k k' n n' : Nat} {e e' : TypeId} {v v' : Value} {xs xs' : List Value} (h : w.ownsRow b e k v n xs) (h' : w.ownsRow b' e' k' v' n' xs') (hne : e ≠ e') : v.ownBlock = none ∨ v.ownBlock ≠ v'.ownBlock := by
  rcases h.2 with ⟨h1, -⟩ | ⟨g, cap, cur, h1, h2, h3, -⟩
  · exact .inl (by rw [h1]; rfl)
  · refine .inr fun e9 => ?_
    rcases h'.2 with ⟨k1, -⟩ | ⟨g', cap', cur', k1, k2, k3, -⟩
    · rw [h1, k1] at e9
      cases e9
    · rw [h1, k1] at e9
      have e8 : g = g' := by simpa [Value.ownBlock] using e9
      subst e8
      rw [h3] at k3
      cases k3
      exact hne rfl
theorem apart_new {v : Value} {w : World} {base k n : Nat} {e : TypeId} {xs : List Value} (ho : w.ownsRow base e k v n xs) {p : Option Addr} {m c b : Nat} (hd : v.ownBlock = none ∨ v.ownBlock ≠ (Value.slice p m c).ownBlock) (hb : w.heap.size ≤ b ∨ p = some ⟨b, 0, none⟩) : v.ownBlock = none ∨ v.ownBlock ≠ some b := by
  cases hj : v.ownBlock with
  | none => exact .inl rfl
  | some j =>
    refine .inr fun e9 => ?_
    have e8 : j = b := Option.some.inj e9
    have hl := (ho.lt j hj).2
    rcases hb with h | h
    · omega
    · rcases hd with h1 | h1
      · rw [hj] at h1
        cases h1
      · exact h1 (by rw [hj, h, e8]; rfl)
/-- Groups of people, each in a row of its own. -/
def GrpO (w : World) (b0 : Nat) (G : List (List PersonV)) (vs : List Value) : Prop := ∀ (i : Nat) (g : List PersonV), G[i]? = some g → ∃ v, vs[i]? = some v ∧ w.ownsRow b0 59 3 v g.length (g.flatMap perC)
section
variable {w w' : World} {b0 : Nat} {G : List (List PersonV)} {vs : List Value}
theorem GrpO.ext (h : GrpO w b0 G vs) (he : Ext w w') : GrpO w' b0 G vs := fun i g hg => (h i g hg).imp fun _ hv => ⟨hv.1, own_ext he hv.2⟩
theorem GrpO.kept (h : GrpO w b0 G vs) {b k n : Nat} {e : TypeId} {v : Value} {xs : List Value} (ho : w.ownsRow b e k v n xs) (he : 59 ≠ e) (hg : w.grownBy w' v.ownBlock) : GrpO w' b0 G vs :=
  fun i g hgi => (h i g hgi).imp fun _ hv => ⟨hv.1, hv.2.kept hg (own_typ hv.2 ho he)⟩
theorem GrpO.snoc (h : GrpO w b0 G vs) (hl : vs.length = G.length) {g0 : List PersonV} {v0 : Value} (h0 : w.ownsRow b0 59 3 v0 g0.length (g0.flatMap perC)) : GrpO w b0 (G ++ [g0]) (vs ++ [v0]) := fun i g hg => by
  by_cases hi : i < G.length
  · rw [List.getElem?_append_left hi] at hg
    obtain ⟨v, hv, hq⟩ := h i g hg
    exact ⟨v, by rw [List.getElem?_append_left (by omega)]; exact hv, hq⟩
  · rw [List.getElem?_append_right (by omega)] at hg
    have hlt := (List.getElem?_eq_some_iff.1 hg).1
    have e : i - G.length = 0 := by simpa using hlt
    rw [e] at hg
    cases hg
    exact ⟨v0, by rw [List.getElem?_append_right (by omega), hl, e]; rfl, h0⟩
end
theorem grps_take_snoc {O : List ByteArray} {M : List PersonV} {k : Nat} {nm : ByteArray} (h : O[k]? = some nm) : grpsL (O.take (k + 1)) M = grpsL (O.take k) M ++ [grpS nm M] := by
  unfold grpsL
  rw [take_snocL h]
  simp
theorem lens_snoc (G : List (List PersonV)) (g : List PersonV) : lensL (G ++ [g]) = lensL G ++ [(g.length : Int)] := by simp [lensL]

theorem dj_symm {a b : Option Nat} (h : a = none ∨ a ≠ b) : b = none ∨ b ≠ a := by
  rcases h with rfl | h
  · cases b with
    | none => exact .inl rfl
    | some b => exact .inr fun e => by cases e
  · exact .inr (Ne.symm h)
/-- Sizes, how many are left, and the groups, while they are gathered. -/
structure Tri (w : World) (b0 : Nat) (v7 : Value) (A : List Int) (v8 : Value) (Lf : List Int) (v9 : Value) (vs : List Value) (G : List (List PersonV)) : Prop where
  o7 : w.ownsRow b0 3 1 v7 A.length (A.flatMap intC)
  o8 : w.ownsRow b0 3 1 v8 Lf.length (Lf.flatMap intC)
  o9 : w.ownsRow b0 26 1 v9 vs.length vs
  len : vs.length = G.length
  grp : GrpO w b0 G vs
  dj : v8.ownBlock = none ∨ v8.ownBlock ≠ v7.ownBlock
section
variable {w w' : World} {b0 : Nat} {v7 v8 v9 : Value} {A Lf : List Int} {vs : List Value} {G : List (List PersonV)}
theorem Tri.more (h : Tri w b0 v7 A v8 Lf v9 vs G) (he : Ext w w') : Tri w' b0 v7 A v8 Lf v9 vs G := ⟨own_ext he h.o7, own_ext he h.o8, own_ext he h.o9, h.len, h.grp.ext he, h.dj⟩
theorem Tri.app9 {v9' u : Value} {g : List PersonV} (h : Tri w b0 v7 A v8 Lf v9 vs G) (ho : w'.ownsRow b0 26 1 v9' (vs.length + 1) (vs ++ [u])) (hg : w.grownBy w' v9.ownBlock) (hu : w.ownsRow b0 59 3 u g.length (g.flatMap perC)) : Tri w' b0 v7 A v8 Lf v9' (vs ++ [u]) (G ++ [g]) :=
  ⟨h.o7.kept hg (own_typ h.o7 h.o9 (by decide)), h.o8.kept hg (own_typ h.o8 h.o9 (by decide)), by rw [List.length_append, List.length_singleton]; exact ho, by rw [List.length_append, List.length_append, h.len]; rfl, (h.grp.kept h.o9 (by decide) hg).snoc h.len (hu.kept hg (own_typ hu h.o9 (by decide))), h.dj⟩
theorem Tri.app7 {p : Option Addr} {c b c' : Nat} {x : Int} (h : Tri w b0 (.slice p A.length c) A v8 Lf v9 vs G) (ho : w'.ownsRow b0 3 1 (.slice (some ⟨b, 0, none⟩) (A.length + 1) c') (A.length + 1) (A.flatMap intC ++ intC x)) (hg : w.grownBy w' (Value.slice p A.length c).ownBlock) (hb : w.heap.size ≤ b ∨ p = some ⟨b, 0, none⟩) : Tri w' b0 (.slice (some ⟨b, 0, none⟩) (A.length + 1) c') (A ++ [x]) v8 Lf v9 vs G :=
  ⟨by rw [List.length_append, List.length_singleton, flat_snoc]; exact ho, h.o8.kept hg h.dj, h.o9.kept hg (own_typ h.o9 h.o7 (by decide)), h.len, h.grp.kept h.o7 (by decide) hg, apart_new h.o8 h.dj hb⟩
theorem Tri.app8 {p : Option Addr} {c b c' : Nat} {x : Int} (h : Tri w b0 v7 A (.slice p Lf.length c) Lf v9 vs G) (ho : w'.ownsRow b0 3 1 (.slice (some ⟨b, 0, none⟩) (Lf.length + 1) c') (Lf.length + 1) (Lf.flatMap intC ++ intC x)) (hg : w.grownBy w' (Value.slice p Lf.length c).ownBlock) (hb : w.heap.size ≤ b ∨ p = some ⟨b, 0, none⟩) : Tri w' b0 v7 A (.slice (some ⟨b, 0, none⟩) (Lf.length + 1) c') (Lf ++ [x]) v9 vs G :=
  ⟨h.o7.kept hg (dj_symm h.dj), by rw [List.length_append, List.length_singleton, flat_snoc]; exact ho, h.o9.kept hg (own_typ h.o9 h.o8 (by decide)), h.len, h.grp.kept h.o8 (by decide) hg, dj_symm (apart_new h.o7 (dj_symm h.dj) hb)⟩
end

set_option maxRecDepth 100000 in
set_option maxHeartbeats 1600000 in
theorem fromShortO_any (p : Option Addr) (c : Nat) (L : List PersonV) (w : World) (h : Slc 3 perC w p L.length c L) (hn : L.length ≤ 19) (hok : PeopleOk L) :
    Calls Tryz.prog 48 #[.slice p L.length c] w fun e w' => ∃ (q : Option Addr) (d : Nat) (M : List PersonV), e = .returned (.slice q L.length d) ∧ ByH L M ∧ w'.ownsRow w.heap.size 59 3 (.slice q L.length d) L.length (M.flatMap perC) ∧ Ext w w' := by
  have hcl := clonePer_any p L.length c L w h (by omega)
  replace hcl := Lib.hid hcl
  by_cases h0 : L.length = 0
  · have hx : L = [] := List.eq_nil_of_length_eq_zero h0
    subst hx
    clear h0 hok h
    have hno := fun (q : Option Addr) (d : Nat) (fv : Value) (u : World) => stableNone_any q d fv u
    replace hno := Lib.hid hno
    go_enter Tryz.func48, Tryz.ntmps48
    go_wp2_with (first
      | (go_at_call 74; (with_reducible refine Calls.mono hcl.out ?_); rintro e w2 ⟨v, rfl, hown, hb2⟩; obtain ⟨q, d, rfl, -⟩ := slc_of_own perC_len hown (by decide) (by decide); replace hown := Lib.hid hown)
      | (go_at_call 85; refine (hno.out _ _ _ _).mono ?_; rintro e w3 ⟨rfl, rfl⟩))
    go_ret
    exact ⟨q, d, [], rfl, ⟨List.Perm.refl _, List.Pairwise.nil⟩, hown.out, hb2⟩
  · have hso := fun (u : World) (g d : Nat) (ho : u.ownsRow w.heap.size 59 3 (.slice (some ⟨g, 0, none⟩) L.length d) L.length (L.flatMap perC)) => stablePer_any ho rfl (by omega) hok
    replace hso := Lib.hid hso
    have h0' : 0 < L.length := by omega
    replace h0 := Lib.hid h0
    clear h hok
    go_enter Tryz.func48, Tryz.ntmps48
    go_wp2_with (first
      | (go_at_call 74; (with_reducible refine Calls.mono hcl.out ?_); rintro e w2 ⟨v, rfl, hown, hb2⟩; obtain ⟨g, d, rfl, hgk, hgl⟩ := hown.form h0')
      | (go_at_call 85; (with_reducible refine Calls.mono (hso.out _ _ _ hown) ?_); rintro e w3 ⟨rfl, M, hM, ho3, hx3⟩; replace ho3 := Lib.hid ho3))
    go_ret
    exact ⟨_, d, M, rfl, hM, ho3.out, hx3 _ hb2 hgk⟩

set_option maxRecDepth 100000 in
theorem deletePer_nil (p : Option Addr) (c : Nat) (fv : Value) (w : World) : Calls Tryz.prog 50 #[.slice p 0 c, fv] w fun e w' => e = .returned (.slice p 0 c) ∧ Ext w w' := by
  have hi := idxPer_nil p c fv w
  replace hi := Lib.hid hi
  go_enter Tryz.func50, Tryz.ntmps50
  go_wp2_with (go_at_call 83; (with_reducible refine Calls.mono hi.out ?_); rintro e w1 ⟨rfl, hb1⟩)
  go_ret
  exact ⟨rfl, hb1⟩
theorem deleteO_any {base d gs n : Nat} {q : Option Addr} {M : List PersonV} {nm : ByteArray} {w : World} (hn : M.length = n) (ho : w.ownsRow base 59 3 (.slice q n d) n (M.flatMap perC)) (hn1 : n ≤ 19) (hB : Blk w gs 9 #[.string nm]) :
    Calls Tryz.prog 50 #[.slice q n d, .func (.func 51) #[] #[.pointer (some ⟨gs, 0, none⟩)]] w fun e w' => e = .returned (.slice q (grpS nm M).length d) ∧ w'.ownsRow base 59 3 (.slice q (grpS nm M).length d) (grpS nm M).length ((grpS nm M).flatMap perC) ∧ ∀ a : World, Ext a w → a.heap.size ≤ base → Ext a w' := by
  subst hn
  by_cases h0 : M.length = 0
  · have hx : M = [] := List.eq_nil_of_length_eq_zero h0
    subst hx
    exact (deletePer_nil q d _ w).mono fun e w' ⟨he, hE⟩ => ⟨he, own_ext hE ho, fun a ha _ => ha.trans hE⟩
  · obtain ⟨g, cap, e9, hg, hgl⟩ := ho.form (by omega)
    cases e9
    exact (delete_any ho hn1 (by omega) hB).mono fun e w' ⟨he, ho2, hE⟩ => ⟨he, ho2, fun a ha hb => ExtS.back ha (by omega) hE⟩

/-- The lists of those who are left, and how many they are, in rows of their own. -/
structure SecN (w7 w : World) (b0 og cg gl cl n : Nat) (G : List (List PersonV)) (vs : List Value) : Prop where
  len : G.length = n
  own : w.ownsRow b0 26 1 (.slice (some ⟨og, 0, none⟩) n cg) n vs
  lef : w.ownsRow b0 3 1 (.slice (some ⟨gl, 0, none⟩) n cl) n ((lensL G).flatMap intC)
  ne : og ≠ gl
  at_ : ∀ (i : Nat) (g : List PersonV), G[i]? = some g → ∃ (p : Option Addr) (c : Nat), vs[i]? = some (.slice p g.length c) ∧ Slc 3 perC w7 p g.length c g ∧ ∀ a, p = some a → a.block ≠ og ∧ a.block ≠ gl
  ext : ExtQ og gl w7 w
section
variable {w7 w w' : World} {b0 og cg gl cl n : Nat} {G : List (List PersonV)} {vs : List Value}
theorem SecN.cell (h : SecN w7 w b0 og cg gl cl n G vs) {i : Nat} {v : Value} (hv : vs[i]? = some v) : w.cell? ⟨og, i, none⟩ = some v := by
  have hi := (List.getElem?_eq_some_iff.1 hv).1
  have hl := h.own.1
  exact (h.own.cellAt i (by omega)).trans hv
theorem SecN.lcell (h : SecN w7 w b0 og cg gl cl n G vs) {i : Nat} {g : List PersonV} (hg : G[i]? = some g) : w.cell? ⟨gl, i, none⟩ = some (.int .i64 g.length) := by
  have hi := (List.getElem?_eq_some_iff.1 hg).1
  have := own_cell intC_len h.lef (lensL_at hg) 0 (v := .int .i64 g.length) rfl (by rw [← h.len]; exact hi)
  simpa using this
theorem SecN.more (h : SecN w7 w b0 og cg gl cl n G vs) (he : Ext w w') : SecN w7 w' b0 og cg gl cl n G vs := ⟨h.len, own_ext he h.own, own_ext he h.lef, h.ne, h.at_, h.ext.ext he⟩
theorem SecN.grown (h : SecN w7 w b0 og cg gl cl n G vs) {r : Option Nat} (k : w.grownBy w' r) (hr : ∀ j, r = some j → w7.heap.size ≤ j ∧ j ≠ og ∧ j ≠ gl) : SecN w7 w' b0 og cg gl cl n G vs :=
  ⟨h.len, h.own.kept k (.inr fun e => (hr og e.symm).2.1 rfl), h.lef.kept k (.inr fun e => (hr gl e.symm).2.2 rfl), h.ne, h.at_, h.ext.grown k fun j hj => (hr j hj).1⟩
theorem SecN.put (h : SecN w7 w b0 og cg gl cl n G vs) {i : Nat} {g g' : List PersonV} (hg : G[i]? = some g) {p' : Option Addr} {c' : Nat} (hS : Slc 3 perC w7 p' g'.length c' g') (hp : ∀ a, p' = some a → a.block ≠ og ∧ a.block ≠ gl) :
    SecN w7 ((w.setCell ⟨og, i, none⟩ (.slice p' g'.length c')).setCell ⟨gl, i, none⟩ (.int .i64 g'.length)) b0 og cg gl cl n (G.set i g') (vs.set i (.slice p' g'.length c')) := by
  have hne := h.ne
  have hi := (List.getElem?_eq_some_iff.1 hg).1
  have hvl := h.own.1
  have hgl := h.len
  refine ⟨by rw [List.length_set]; exact h.len, ?_, ?_, h.ne, fun d q hq => ?_, (h.ext.set (p := ⟨og, i, none⟩) (.inl rfl) _).set (p := ⟨gl, i, none⟩) (.inr rfl) _⟩
  · exact (h.own.stored i (.slice p' g'.length c')).1.kept (grown_set _ ⟨gl, i, none⟩ _) (.inr fun e => hne (by simpa [Value.ownBlock] using e))
  · have h1 := h.lef.kept (grown_set w ⟨og, i, none⟩ (.slice p' g'.length c')) (.inr fun e => hne (by simpa [Value.ownBlock] using e.symm))
    have h2 := own_set1 intC_len h1 (g'.length : Int) (lensL_at hg) 0 (by decide) (.int .i64 g'.length) rfl
    rw [lensL_set]
    simpa using h2
  · rw [List.getElem?_set] at hq
    by_cases hd : i = d
    · subst hd
      rw [if_pos rfl, if_pos hi] at hq
      cases hq
      exact ⟨p', c', by rw [List.getElem?_set, if_pos rfl, if_pos (by omega)], hS, hp⟩
    · rw [if_neg hd] at hq
      obtain ⟨p, c, h1, h2, h3⟩ := h.at_ d q hq
      exact ⟨p, c, by rw [List.getElem?_set, if_neg hd]; exact h1, h2, h3⟩
end
end Go.Proofs.YtfcoeikekbjgpaaGreatDoor
