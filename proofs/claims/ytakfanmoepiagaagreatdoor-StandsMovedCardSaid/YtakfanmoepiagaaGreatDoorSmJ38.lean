/- Names among stands and among names. Conditions: as each theorem says. Who is missing: what is wrong with names, by the document's text. Conditions: stands and names lie in memory. Stands that go with no people: what is wrong with them, by both texts. Conditions: the stands lie in memory. -/
import Derived.Test.YtakfanmoepiagaaGreatDoorSmMiH
import Derived.Test.YtakfanmoepiagaaGreatDoorSmSuB
set_option linter.unusedSimpArgs false
set_option linter.unusedVariables false
namespace Go.Proofs.YtakfanmoepiagaaGreatDoor
open Go Go.RowKit

/-- Where a name stands: -1 if nowhere. -/
def IdxP (S : List StandV) (nm : ByteArray) (i : Int) : Prop := (i = -1 ∧ nm ∉ namesS S) ∨ ∃ (k : Nat) (x : StandV), S[k]? = some x ∧ x.name = nm ∧ i = k
set_option maxRecDepth 100000 in
theorem soPred (nm : ByteArray) (g : Nat) (w : World) (hB : Blk w g 9 #[.string nm]) :
    PredBelow Tryz.prog 117 #[.pointer (some ⟨g, 0, none⟩)] (fun y : StandV => .agg (staC y).toArray) (fun y => y.name.toList == nm.toList) w := fun W y hb => by
  have hE : Ext w W := hb
  obtain ⟨b1, -⟩ := (hB.ext hE).walk
  have bl := (hB.ext hE).lt
  show Calls Tryz.prog 117 #[.agg #[.string y.name, .int .i64 y.row, .int .i64 y.place], .pointer (some ⟨g, 0, none⟩)] W _
  clear hB hb
  cases h1 : (y.name.toList == nm.toList)
  all_goals
    go_enter Tryz.func117, Tryz.ntmps117
    go_wp2
    go_ret
    exact ⟨by simp only [h1]; rfl, hE.alloc _⟩
set_option maxRecDepth 100000 in
theorem idxFunc_nil (c : Nat) (fv : Value) (w : World) : Calls Tryz.prog 104 #[.slice none 0 c, fv] w fun e w' => e = .returned (.int .i64 (-1)) ∧ Ext w w' := by
  go_enter Tryz.func104, Tryz.ntmps104
  go_wp2
  refine wp_loop_rounds 1 ?_
  rw [rounds_succ]
  go_wp2
  go_ret
  exact ⟨rfl, Ext.refl _⟩
set_option maxRecDepth 100000 in
set_option maxHeartbeats 1600000 in
theorem standOf_any {lp : Option Addr} {lc : Nat} {S : List StandV} {w : World} (h : Slc 3 staC w lp S.length lc S) (hnS : S.length ≤ 1000) (nm : ByteArray) :
    Calls Tryz.prog 76 #[.slice lp S.length lc, .string nm] w fun e w' => ∃ i : Int, e = .returned (.int .i64 i) ∧ IdxP S nm i ∧ Ext w w' := by
  have hE0 : Ext w (w.alloc (.cells #[.string nm] 9)) := (Ext.refl _).alloc _
  have hB0 : Blk (w.alloc (.cells #[.string nm] 9)) w.heap.size 9 #[.string nm] := Blk.new' rfl
  have hst := h.ext hE0
  have hfi : Calls Tryz.prog 104 #[.slice lp S.length lc, .func (.func 117) #[] #[.pointer (some ⟨w.heap.size, 0, none⟩)]] (w.alloc (.cells #[.string nm] 9)) fun e w' => ∃ i : Int, e = .returned (.int .i64 i) ∧ IdxP S nm i ∧ Ext (w.alloc (.cells #[.string nm] 9)) w' := by
    rcases (slcC hst).2 with ⟨rfl, e⟩ | ⟨sb, so, rfl, hsb, hEl⟩
    · subst e
      exact (idxFunc_nil lc _ _).mono fun e w' ⟨he, hE⟩ => ⟨-1, he, .inl ⟨rfl, by simp [namesS]⟩, hE⟩
    · have eg : ∀ args w, (callFunc 117 args).run Tryz.prog w = .ok (.enter 117 args) w := enters_of Tryz.func117 (by kernel_rfl) rfl
      have this := AnyQ.slices_IndexFunc Tryz.lqiStand 3 Tryz.isAgg46 Tryz.sizeOf46 staC staC_len (fun y => y.name.toList == nm.toList) 117 #[.pointer (some ⟨w.heap.size, 0, none⟩)] eg sb so S.length lc S _
        (soPred nm w.heap.size _ hB0) (Nat.le_refl _) (by omega) hsb (fun j hj i v hi => hEl j _ (by rw [List.getElem?_eq_getElem hj, getElem!_pos S j hj]) i v hi)
      rw [List.take_length] at this
      unfold Lib.idxBy at this
      refine this.mono fun e w' ⟨he, hE⟩ => ⟨_, he, ?_, hE⟩
      rcases idxOr (fun y : StandV => y.name.toList == nm.toList) default S 0 with ⟨h1, h2⟩ | ⟨k, x, hx, hpx, hk⟩
      · rw [h1]
        refine .inl ⟨rfl, fun hm => ?_⟩
        obtain ⟨b, hb, hbn⟩ := List.mem_map.1 hm
        have h3 := h2 b hb
        rw [baL.2 hbn] at h3
        cases h3
      · rw [hk, Nat.zero_add]
        exact .inr ⟨k, x, hx, baL.1 hpx, rfl⟩
  replace hfi := Lib.hid hfi
  clear hst h hB0
  go_enter Tryz.func76, Tryz.ntmps76
  go_wp2_with (go_at_call 104; (with_reducible refine Calls.mono hfi.out ?_); rintro e w1 ⟨i, rfl, hi, hb1⟩)
  go_ret
  exact ⟨i, rfl, hi, hE0.trans hb1⟩

set_option maxRecDepth 100000 in
set_option maxHeartbeats 1600000 in
theorem indexS_any (p : Option Addr) (n c : Nat) (G : List ByteArray) (nm : ByteArray) (w : World) (h : Slc 1 strC w p n c G) (hn : n ≤ 1000) :
    Calls Tryz.prog 63 #[.slice p n c, .string nm] w fun e w' => ∃ i : Int, e = .returned (.int .i64 i) ∧ (0 ≤ i ↔ nm ∈ G) ∧ Ext w w' := by
  obtain ⟨hl, hp⟩ := slcC h
  subst hl
  replace hp := Lib.hid hp
  clear h
  go_enter Tryz.func63, Tryz.ntmps63
  go_wp2
  go_loopw [8] (fun i wr => ∃ k : Nat, k ≤ G.length ∧ i = .int .i64 k ∧ nm ∉ G.take k ∧ Ext w wr) (fun i _ => G.length - (intOf i).toNat)
  case atStart => exact ⟨0, Nat.zero_le _, rfl, by simp, Ext.refl _⟩
  case round =>
    obtain ⟨k, hk, rfl, hno, hE⟩ := hrel
    by_cases hlt : k < G.length
    · obtain ⟨x, hx⟩ := getD_some (rfl : G.length = G.length) hlt
      rcases hp.out with ⟨-, e⟩ | ⟨b1, o1, rfl, hb1, hE1⟩
      · rw [e] at hx; cases hx
      have c1 := (hE1.ext hE hb1).str hx
      have l1 := Nat.lt_of_lt_of_le hb1 hE.size
      have hkI : (k : Int) < G.length := by omega
      have htk := take_snocL hx
      have hxm := List.mem_of_getElem? hx
      replace hno := Lib.hid hno
      replace htk := Lib.hid htk
      clear hx hE1
      cases hq : (nm.toList == x.toList)
      · have hne : nm ≠ x := fun e => by rw [baL.2 e] at hq; cases hq
        go_wp2
        go_roundw
        case rel => exact ⟨k + 1, by omega, by go_num, by rw [htk.out]; simp only [List.mem_append, List.mem_singleton, not_or]; exact ⟨hno.out, hne⟩, hE⟩
        case measure => simp [intOf]; omega
      · have hne : nm = x := baL.1 hq
        go_wp2
        go_ret
        exact ⟨k, rfl, ⟨fun _ => by rw [hne]; exact hxm, fun _ => by omega⟩, hE⟩
    · obtain rfl : k = G.length := by omega
      rw [List.take_length] at hno
      replace hno := Lib.hid hno
      go_wp2
      go_ret
      exact ⟨-1, rfl, ⟨fun h => by omega, fun h => absurd h hno.out⟩, hE⟩
set_option maxRecDepth 100000 in
theorem containsS_any (p : Option Addr) (n c : Nat) (G : List ByteArray) (nm : ByteArray) (w : World) (h : Slc 1 strC w p n c G) (hn : n ≤ 1000) :
    Calls Tryz.prog 65 #[.slice p n c, .string nm] w fun e w' => ∃ b : Bool, e = .returned (.bool b) ∧ (b = true ↔ nm ∈ G) ∧ Ext w w' := by
  have hi := indexS_any p n c G nm w h hn
  replace hi := Lib.hid hi
  clear h
  go_enter Tryz.func65, Tryz.ntmps65
  go_wp2_with (go_at_call 63; (with_reducible refine Calls.mono hi.out ?_); rintro e w1 ⟨i, rfl, hi2, hb1⟩)
  go_ret
  exact ⟨_, rfl, by rw [decide_eq_true_iff]; exact hi2, hb1⟩
end Go.Proofs.YtakfanmoepiagaaGreatDoor

namespace Go.Proofs.YtakfanmoepiagaaGreatDoor
open Go Go.RowKit

def inN (L : List ByteArray) (nm : ByteArray) : Bool := L.any fun y => y.toList == nm.toList
theorem inN_iff {L : List ByteArray} {nm : ByteArray} : inN L nm = true ↔ nm ∈ L := by
  unfold inN
  rw [List.any_eq_true]
  exact ⟨fun ⟨y, hy, h⟩ => baL.1 h ▸ hy, fun h => ⟨_, h, baL.2 rfl⟩⟩
theorem inN_false {L : List ByteArray} {nm : ByteArray} : inN L nm = false ↔ nm ∉ L := by
  rw [← inN_iff]; simp
def chkN (S : List StandV) (G : List ByteArray) (i : Nat) : Int := if inN (namesS S) (atL default G i) then (if inN (G.take i) (atL default G i) then 6 else 0) else 8
def missF (S : List StandV) (G : List ByteArray) : Int := scanF G.length (chkN S G)
theorem Slc.takeN {α : Type} {k : Nat} {enc : α → List Value} {w : World} {p : Option Addr} {n c : Nat} {xs : List α} (h : Slc k enc w p n c xs) {m : Nat} (hm : m ≤ n) : 0 < m → Slc k enc w p m c (xs.take m) := fun h0 => by
  obtain ⟨hS, hnc, hp0, hp⟩ := h
  refine ⟨⟨by rw [List.length_take, hS.1]; omega, by have := hS.2.1; omega, fun _ => ?_⟩, by omega, fun e => by have := hp0 e; omega, hp⟩
  obtain ⟨b, off, e, hb, hE⟩ := hS.2.2 (by omega)
  refine ⟨b, off, e, hb, fun i x hx j u hu => hE i x ?_ j u hu⟩
  rw [List.getElem?_take] at hx
  split at hx
  · exact hx
  · cases hx
theorem idx_sign {S : List StandV} {nm : ByteArray} {i : Int} (h : IdxP S nm i) : 0 ≤ i ↔ nm ∈ namesS S := by
  rcases h with ⟨rfl, h⟩ | ⟨k, x, hx, rfl, rfl⟩
  · exact ⟨fun h => by omega, fun h2 => absurd h2 h⟩
  · exact ⟨fun _ => List.mem_map.2 ⟨x, List.mem_of_getElem? hx, rfl⟩, fun _ => by omega⟩
theorem containsS_is (p : Option Addr) (n c : Nat) (G : List ByteArray) (nm : ByteArray) (w : World) (h : Slc 1 strC w p n c G) (hn : n ≤ 1000) {v : Bool} (hv : inN G nm = v) :
    Calls Tryz.prog 65 #[.slice p n c, .string nm] w fun e w' => e = .returned (.bool v) ∧ Ext w w' :=
  (containsS_any p n c G nm w h hn).mono fun e w' ⟨b, he, hb, hE⟩ => ⟨by
    have : b = inN G nm := by rw [Bool.eq_iff_iff, hb, inN_iff]
    rw [he, this, hv], hE⟩
set_option maxRecDepth 100000 in
theorem containsS_zero (p : Option Addr) (c : Nat) (nm : ByteArray) (w : World) : Calls Tryz.prog 65 #[.slice p 0 c, .string nm] w fun e w' => e = .returned (.bool false) ∧ Ext w w' := by
  have hi : ∀ u, Calls Tryz.prog 63 #[.slice p 0 c, .string nm] u fun e w' => e = .returned (.int .i64 (-1)) ∧ Ext u w' := fun u => by
    go_enter Tryz.func63, Tryz.ntmps63
    go_wp2
    refine wp_loop_rounds 1 ?_
    rw [rounds_succ]
    go_wp2
    go_ret
    exact ⟨rfl, Ext.refl _⟩
  replace hi := Lib.hid hi
  go_enter Tryz.func65, Tryz.ntmps65
  go_wp2_with (go_at_call 63; (with_reducible refine Calls.mono (hi.out _) ?_); rintro e w1 ⟨rfl, hb1⟩)
  go_ret
  exact ⟨rfl, hb1⟩
theorem containsS_take (p : Option Addr) (n c : Nat) (G : List ByteArray) (nm : ByteArray) (w : World) (h : Slc 1 strC w p n c G) (hn : n ≤ 1000) {m : Nat} (hm : m ≤ n) {v : Bool} (hv : inN (G.take m) nm = v) :
    Calls Tryz.prog 65 #[.slice p m c, .string nm] w fun e w' => e = .returned (.bool v) ∧ Ext w w' := by
  rcases Nat.eq_zero_or_pos m with h0 | h0
  · subst h0
    have : v = false := by rw [← hv]; rfl
    subst this
    exact containsS_zero p c nm w
  · exact containsS_is p m c (G.take m) nm w (h.takeN hm h0) (by omega) hv

set_option maxRecDepth 100000 in
set_option maxHeartbeats 3200000 in
theorem missing_any {lp : Option Addr} {lc : Nat} {S : List StandV} {gp : Option Addr} {gc : Nat} {G : List ByteArray} {w : World} (h : Slc 3 staC w lp S.length lc S) (hnS : S.length ≤ 1000) (hG : Slc 1 strC w gp G.length gc G) (hGl : G.length ≤ 200) :
    Calls Tryz.prog 29 #[.slice lp S.length lc, .slice gp G.length gc] w fun e w' => e = .returned (.int .i64 (missF S G)) ∧ Ext w w' := by
  have hnI : ¬ (200 : Int) < (G.length : Int) := by omega
  go_enter Tryz.func29, Tryz.ntmps29
  go_wp2
  go_loopw [12] (fun v12 wr => ∃ k : Nat, v12 = .int .i64 k ∧ k ≤ G.length ∧ Zeros (chkN S G) k ∧ Ext w wr) (fun v12 _ => G.length - (intOf v12).toNat)
  case atStart => exact ⟨0, rfl, Nat.zero_le _, (fun j hj => by omega), Ext.refl _⟩
  case round =>
    obtain ⟨k, rfl, hk, hz, hE⟩ := hrel
    by_cases hlt : k < G.length
    · obtain ⟨x, hx⟩ := getD_some (rfl : G.length = G.length) hlt
      have hso := fun u (hu : Ext wr u) => standOf_any ((h.ext hE).ext hu) hnS x
      have hat : chkN S G k = if inN (namesS S) x then (if inN (G.take k) x then 6 else 0) else 8 := by unfold chkN; rw [atL_of hx]
      have hgc := hG.2.1
      rcases (slcC hG).2 with ⟨-, e⟩ | ⟨gb, go, rfl, hgb, hgE⟩
      · rw [e] at hx; cases hx
      have c0 := (hgE.ext hE hgb).str hx
      have hbl := Nat.lt_of_lt_of_le hgb hE.size
      have hkI : (k : Int) < G.length := by omega
      replace hso := Lib.hid hso
      cases hm : inN (namesS S) x
      · have hno := inN_false.1 hm
        rw [hm] at hat
        have hsc : (8 : Int) = missF S G := scan_is hz hlt hat (by omega)
        replace hsc := Lib.hid hsc
        clear hgE hx hat hz
        replace hm := Lib.hid hm
        go_wp2_with (go_at_call 76; (with_reducible refine Calls.mono (hso.out _ (Ext.refl _)) ?_); rintro e w1 ⟨i, rfl, hi, hb1⟩; have hi0 : i < 0 := Int.not_le.1 fun h9 => hno ((idx_sign hi).1 h9))
        go_ret
        exact ⟨(by rw [← hsc.out]; try rfl), hE.trans hb1⟩
      · have hyes := inN_iff.1 hm
        rw [hm] at hat
        have hct := fun u (hu : Ext wr u) v (hv : inN (G.take k) x = v) => containsS_take (some ⟨gb, go, none⟩) G.length gc G x u ((hG.ext hE).ext hu) (by omega) hk hv
        replace hct := Lib.hid hct
        clear hgE hx
        replace hm := Lib.hid hm
        have hkc : (k : Int) ≤ gc := by omega
        cases hd : inN (G.take k) x
        · rw [hd] at hat
          have hz2 := hz.succ hat
          replace hz2 := Lib.hid hz2
          clear hz hat
          go_wp2_with (first
            | (go_at_call 76; (with_reducible refine Calls.mono (hso.out _ (Ext.refl _)) ?_); rintro e w1 ⟨i, rfl, hi, hb1⟩; have hi0 : ¬ i < 0 := Int.not_lt.2 ((idx_sign hi).2 hyes))
            | (go_at_call 65; (with_reducible refine Calls.mono (hct.out _ hb1 _ hd) ?_); rintro e w2 ⟨rfl, hb2⟩))
          go_roundw
          case rel => exact ⟨k + 1, by go_num, by omega, hz2.out, (hE.trans hb1).trans hb2⟩
          case measure => simp [intOf]; omega
        · rw [hd] at hat
          have hsc : (6 : Int) = missF S G := scan_is hz hlt hat (by omega)
          replace hsc := Lib.hid hsc
          clear hz hat
          go_wp2_with (first
            | (go_at_call 76; (with_reducible refine Calls.mono (hso.out _ (Ext.refl _)) ?_); rintro e w1 ⟨i, rfl, hi, hb1⟩; have hi0 : ¬ i < 0 := Int.not_lt.2 ((idx_sign hi).2 hyes))
            | (go_at_call 65; (with_reducible refine Calls.mono (hct.out _ hb1 _ hd) ?_); rintro e w2 ⟨rfl, hb2⟩))
          go_ret
          exact ⟨(by rw [← hsc.out]; try rfl), (hE.trans hb1).trans hb2⟩
    · obtain rfl : k = G.length := by omega
      have hsc : missF S G = 0 := scan_zero hz
      replace hsc := Lib.hid hsc
      go_wp2
      go_ret
      exact ⟨(by rw [hsc.out]; try rfl), hE⟩
end Go.Proofs.YtakfanmoepiagaaGreatDoor

namespace Go.Proofs.YtakfanmoepiagaaGreatDoor
open Go Go.RowKit

def chkL (S : List StandV) (i : Nat) : Int := if keyB (atL default S i).name then (if inB (atL default S i).row 0 9 && inB (atL default S i).place 0 29 then 0 else 1) else 5
def looseF (S : List StandV) : Int := if scanF S.length (chkL S) = 0 then (if dupB (namesS S) then 6 else 0) else scanF S.length (chkL S)
set_option maxRecDepth 100000 in
set_option maxHeartbeats 3200000 in
theorem loose_any {lp : Option Addr} {lc : Nat} {S : List StandV} {w : World} (h : Slc 3 staC w lp S.length lc S) (hnS : S.length ≤ 200) (hs : ∀ x ∈ S, x.Small) :
    Calls Tryz.prog 78 #[.slice lp S.length lc] w fun e w' => e = .returned (.int .i64 (looseF S)) ∧ Ext w w' := by
  have hF : looseF S = if scanF S.length (chkL S) = 0 then (if dupB (namesS S) then 6 else 0) else scanF S.length (chkL S) := rfl
  have htw := fun u (hu : Ext w u) => standTwice_any lp S.length lc S u (h.ext hu) (by omega) (fun x hx => (hs x hx).1)
  have hnI : ¬ (200 : Int) < (S.length : Int) := by omega
  replace hF := Lib.hid hF
  replace htw := Lib.hid htw
  go_enter Tryz.func78, Tryz.ntmps78
  go_wp2
  go_loopw [10] (fun v10 wr => ∃ k : Nat, v10 = .int .i64 k ∧ k ≤ S.length ∧ Zeros (chkL S) k ∧ Ext w wr) (fun v10 _ => S.length - (intOf v10).toNat)
  case atStart => exact ⟨0, rfl, Nat.zero_le _, (fun j hj => by omega), Ext.refl _⟩
  case round =>
    obtain ⟨k, rfl, hk, hz, hE⟩ := hrel
    by_cases hlt : k < S.length
    · obtain ⟨x, hx⟩ := getD_some (rfl : S.length = S.length) hlt
      obtain ⟨s1, s2, s3, s4, s5⟩ := hs x (List.mem_of_getElem? hx)
      have hkI : (k : Int) < S.length := by omega
      have hv : chkL S k = if keyB x.name then (if inB x.row 0 9 && inB x.place 0 29 then 0 else 1) else 5 := by unfold chkL; rw [atL_of hx]
      rcases (slcC h).2 with ⟨-, e⟩ | ⟨b, off, rfl, hb, hEl⟩
      · rw [e] at hx; cases hx
      obtain ⟨c0, c1, c2⟩ := (hEl.ext hE hb).sta hx
      have hbw := Nat.lt_of_lt_of_le hb hE.size
      have hX := Blk.new' (w := wr) (t := 46) (cs := #[.string x.name, .int .i64 x.row, .int .i64 x.place]) rfl
      replace hX := Lib.hid hX
      replace hv := Lib.hid hv
      clear hEl hx
      cases hk1 : keyB x.name
      · go_wp2_with (go_at_call 109; (with_reducible refine Calls.mono (isKey_is hk1 (by omega) _) ?_); rintro e w1 ⟨rfl, hb1⟩)
        go_ret
        exact ⟨ret_int (by rw [hF.out, ← scan_is (v := 5) hz hlt (by rw [hv.out, hk1]; rfl) (by decide)]; rfl), (hE.alloc _).trans hb1⟩
      cases hk2 : inB x.row 0 9
      · have hk2' : outB x.row 0 9 = true := by rw [outB_inB, hk2]; rfl
        go_wp2_with (first
          | (go_at_call 109; (with_reducible refine Calls.mono (isKey_is hk1 (by omega) _) ?_); rintro e w1 ⟨rfl, hb1⟩; obtain ⟨p1, q1⟩ := (hX.out.ext hb1).walk; have lt1 := (hX.out.ext hb1).lt)
          | (go_at_call 89; (with_reducible refine Calls.mono (outside_is hk2' _) ?_); rintro e w2 ⟨rfl, hb2⟩))
        go_ret
        exact ⟨ret_int (by rw [hF.out, ← scan_is (v := 1) hz hlt (by rw [hv.out, hk1, hk2]; rfl) (by decide)]; rfl), ((hE.alloc _).trans hb1).trans hb2⟩
      have hk2' : outB x.row 0 9 = false := by rw [outB_inB, hk2]; rfl
      cases hk3 : inB x.place 0 29
      · have hk3' : outB x.place 0 29 = true := by rw [outB_inB, hk3]; rfl
        go_wp2_with (first
          | (go_at_call 109; (with_reducible refine Calls.mono (isKey_is hk1 (by omega) _) ?_); rintro e w1 ⟨rfl, hb1⟩; obtain ⟨p1, q1⟩ := (hX.out.ext hb1).walk; have lt1 := (hX.out.ext hb1).lt)
          | (go_at_call 89; (with_reducible refine Calls.mono (outside_is hk2' _) ?_); rintro e w2 ⟨rfl, hb2⟩; clear p1 q1 lt1; obtain ⟨p2, q2⟩ := ((hX.out.ext hb1).ext hb2).walk; have lt2 := ((hX.out.ext hb1).ext hb2).lt)
          | (go_at_call 89; (with_reducible refine Calls.mono (outside_is hk3' _) ?_); rintro e w3 ⟨rfl, hb3⟩))
        go_ret
        exact ⟨ret_int (by rw [hF.out, ← scan_is (v := 1) hz hlt (by rw [hv.out, hk1, hk2, hk3]; rfl) (by decide)]; rfl), (((hE.alloc _).trans hb1).trans hb2).trans hb3⟩
      have hk3' : outB x.place 0 29 = false := by rw [outB_inB, hk3]; rfl
      have hz2 := hz.succ (by rw [hv.out, hk1, hk2, hk3]; rfl)
      replace hz2 := Lib.hid hz2
      clear hz
      go_wp2_with (first
        | (go_at_call 109; (with_reducible refine Calls.mono (isKey_is hk1 (by omega) _) ?_); rintro e w1 ⟨rfl, hb1⟩; obtain ⟨p1, q1⟩ := (hX.out.ext hb1).walk; have lt1 := (hX.out.ext hb1).lt)
        | (go_at_call 89; (with_reducible refine Calls.mono (outside_is hk2' _) ?_); rintro e w2 ⟨rfl, hb2⟩; clear p1 q1 lt1; obtain ⟨p2, q2⟩ := ((hX.out.ext hb1).ext hb2).walk; have lt2 := ((hX.out.ext hb1).ext hb2).lt)
        | (go_at_call 89; (with_reducible refine Calls.mono (outside_is hk3' _) ?_); rintro e w3 ⟨rfl, hb3⟩))
      go_roundw
      case rel => exact ⟨k + 1, by go_num, by omega, hz2.out, (((hE.alloc _).trans hb1).trans hb2).trans hb3⟩
      case measure => simp [intOf]; omega
    · obtain rfl : k = S.length := by omega
      have hsc : scanF S.length (chkL S) = 0 := scan_zero hz
      have hF2 : looseF S = if dupB (namesS S) then 6 else 0 := by rw [hF.out, if_pos hsc]
      have htd := htw.out _ hE
      replace htd := Lib.hid htd
      replace hF2 := Lib.hid hF2
      clear hF hsc hz
      cases hd : dupB (namesS S)
      · have hnd : (namesS S).Nodup := Classical.not_not.1 fun hn => by rw [dupB_iff.2 hn] at hd; cases hd
        go_wp2_with (go_at_call 90; (with_reducible refine Calls.mono htd.out ?_); rintro e w1 ⟨tt, rfl, htt, hb1⟩; obtain rfl : tt = false := by (cases tt; rfl; exact absurd hnd (htt.1 rfl)))
        go_ret
        exact ⟨ret_int (by rw [hF2.out, hd]; rfl), hE.trans hb1⟩
      · have hnd := dupB_iff.1 hd
        go_wp2_with (go_at_call 90; (with_reducible refine Calls.mono htd.out ?_); rintro e w1 ⟨tt, rfl, htt, hb1⟩; obtain rfl : tt = true := htt.2 hnd)
        go_ret
        exact ⟨ret_int (by rw [hF2.out, hd]; rfl), hE.trans hb1⟩
end Go.Proofs.YtakfanmoepiagaaGreatDoor
