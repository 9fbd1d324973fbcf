/- Stands that go with no people, by the document's text: the walk. Conditions: the stands lie in memory. An own map from names to stands. Conditions: as each theorem says. -/
import Derived.Test.YtakfanmoepiagaaGreatDoorSmJ38
import Derived.Test.YtakfanmoepiagaaGreatDoorSmJ3
import Derived.Test.YtakfanmoepiagaaGreatDoorSmJ2
import Derived.Maps.OwnSet
import Derived.StringKeys
set_option linter.unusedSimpArgs false
set_option linter.unusedVariables false
namespace Go.Proofs.YtakfanmoepiagaaGreatDoor
open Go Go.RowKit

set_option maxRecDepth 100000 in
set_option maxHeartbeats 3200000 in
theorem places_any {lp : Option Addr} {lc : Nat} {S : List StandV} {w : World} (h : Slc 3 staC w lp S.length lc S) (hnS : S.length ≤ 200) (hs : ∀ x ∈ S, x.Small) :
    Calls Tryz.prog 34 #[.slice lp S.length lc] w fun e w' => e = .returned (.int .i64 (looseF S)) ∧ Ext w w' := by
  have hF : looseF S = if scanF S.length (chkL S) = 0 then (if dupB (namesS S) then 6 else 0) else scanF S.length (chkL S) := rfl
  have hnI : ¬ (200 : Int) < (S.length : Int) := by omega
  replace hF := Lib.hid hF
  go_enter Tryz.func34, Tryz.ntmps34
  go_wp2
  go_loopw [3, 11] (fun v3 v11 wr => ∃ k : Nat, v11 = .int .i64 k ∧ k ≤ S.length ∧ Zeros (chkL S) k ∧ Ext w wr ∧ wr.ownsRow w.heap.size 9 1 v3 k ((namesS (S.take k)).flatMap strC)) (fun _ v11 _ => S.length - (intOf v11).toNat)
  case atStart => exact ⟨0, rfl, Nat.zero_le _, (fun j hj => by omega), Ext.refl _, World.ownsRow_nil _ _ _ _⟩
  case round =>
    obtain ⟨k, rfl, hk, hz, hE, hown⟩ := hrel
    by_cases hlt : k < S.length
    · obtain ⟨x, hx⟩ := getD_some (rfl : S.length = S.length) hlt
      obtain ⟨s1, s2, s3, s4, s5⟩ := hs x (List.mem_of_getElem? hx)
      have hkI : (k : Int) < S.length := by omega
      have hnt := namesS_take hx
      have hv : chkL S k = if keyB x.name then (if inB x.row 0 9 && inB x.place 0 29 then 0 else 1) else 5 := by unfold chkL; rw [atL_of hx]
      rcases (slcC h).2 with ⟨-, e⟩ | ⟨b, off, rfl, hb, hEl⟩
      · rw [e] at hx; cases hx
      obtain ⟨c0, c1, c2⟩ := (hEl.ext hE hb).sta hx
      have hbw := Nat.lt_of_lt_of_le hb hE.size
      have hX := Blk.new' (w := wr) (t := 46) (cs := #[.string x.name, .int .i64 x.row, .int .i64 x.place]) rfl
      replace hX := Lib.hid hX
      replace hv := Lib.hid hv
      replace hown := Lib.hid hown
      replace hnt := Lib.hid hnt
      clear hEl hx
      cases hk1 : keyB x.name
      · go_wp2_with (go_at_call 51; (with_reducible refine Calls.mono (key_is hk1 (by omega) _) ?_); rintro e w1 ⟨rfl, hb1⟩)
        go_ret
        exact ⟨ret_int (by rw [hF.out, ← scan_is (v := 5) hz hlt (by rw [hv.out, hk1]; rfl) (by decide)]; rfl), (hE.alloc _).trans hb1⟩
      cases hk2 : inB x.row 0 9
      · go_wp2_with (first
          | (go_at_call 51; (with_reducible refine Calls.mono (key_is hk1 (by omega) _) ?_); rintro e w1 ⟨rfl, hb1⟩; obtain ⟨p1, q1⟩ := (hX.out.ext hb1).walk; have lt1 := (hX.out.ext hb1).lt)
          | (go_at_call 52; (with_reducible refine Calls.mono (in_is hk2 _) ?_); rintro e w2 ⟨rfl, hb2⟩))
        go_ret
        exact ⟨ret_int (by rw [hF.out, ← scan_is (v := 1) hz hlt (by rw [hv.out, hk1, hk2]; rfl) (by decide)]; rfl), ((hE.alloc _).trans hb1).trans hb2⟩
      cases hk3 : inB x.place 0 29
      · go_wp2_with (first
          | (go_at_call 51; (with_reducible refine Calls.mono (key_is hk1 (by omega) _) ?_); rintro e w1 ⟨rfl, hb1⟩; obtain ⟨p1, q1⟩ := (hX.out.ext hb1).walk; have lt1 := (hX.out.ext hb1).lt)
          | (go_at_call 52; (with_reducible refine Calls.mono (in_is hk2 _) ?_); rintro e w2 ⟨rfl, hb2⟩; clear p1 q1 lt1; obtain ⟨p2, q2⟩ := ((hX.out.ext hb1).ext hb2).walk; have lt2 := ((hX.out.ext hb1).ext hb2).lt)
          | (go_at_call 52; (with_reducible refine Calls.mono (in_is hk3 _) ?_); rintro e w3 ⟨rfl, hb3⟩))
        go_ret
        exact ⟨ret_int (by rw [hF.out, ← scan_is (v := 1) hz hlt (by rw [hv.out, hk1, hk2, hk3]; rfl) (by decide)]; rfl), (((hE.alloc _).trans hb1).trans hb2).trans hb3⟩
      have hz2 := hz.succ (by rw [hv.out, hk1, hk2, hk3]; rfl)
      replace hz2 := Lib.hid hz2
      clear hz
      go_upto_region 11 with (first
        | (go_at_call 51; (with_reducible refine Calls.mono (key_is hk1 (by omega) _) ?_); rintro e w1 ⟨rfl, hb1⟩; obtain ⟨p1, q1⟩ := (hX.out.ext hb1).walk; have lt1 := (hX.out.ext hb1).lt)
        | (go_at_call 52; (with_reducible refine Calls.mono (in_is hk2 _) ?_); rintro e w2 ⟨rfl, hb2⟩; clear p1 q1 lt1; obtain ⟨p2, q2⟩ := ((hX.out.ext hb1).ext hb2).walk; have lt2 := ((hX.out.ext hb1).ext hb2).lt)
        | (go_at_call 52; (with_reducible refine Calls.mono (in_is hk3 _) ?_); rintro e w3 ⟨rfl, hb3⟩; clear p2 q2 lt2; obtain ⟨p3, q3⟩ := (((hX.out.ext hb1).ext hb2).ext hb3).walk; have lt3 := (((hX.out.ext hb1).ext hb2).ext hb3).lt))
      have hEa := ((Ext.alloc (Ext.refl wr) (.cells #[.string x.name, .int .i64 x.row, .int .i64 x.place] 46)).trans hb1).trans (hb2.trans hb3)
      have hoa := own_ext hEa hown.out
      have hE3 := hE.trans hEa
      have hza := hE3.size
      have ho6 := hoa.alloc (.cells #[.string x.name] 9)
      go_wp2_with (at_builtin; go_loud (refine wp_app1 _ (.tmp 31) (.tmp 34) 48 9 1 16 _ rfl rfl Tryz.underlying48 strInfo rfl (by decide) (by decide) w.heap.size _ _ _ rfl ho6 w3.heap.size (strC x.name) rfl rfl (Blk.new' rfl) (by simp [strC, Value.oneCell']) (by omega) (by simp; omega) ?_; intro v' w6 hown6 hgrow6 _))
      go_roundw
      case rel => exact ⟨k + 1, by go_num, by omega, hz2.out, (hE3.alloc _).grown hgrow6 (fun j e => (ho6.lt j e).1), by rw [hnt.out, flat_snoc]; exact hown6⟩
      case measure => simp [intOf]; omega
    · obtain rfl : k = S.length := by omega
      have hsc : scanF S.length (chkL S) = 0 := scan_zero hz
      have hF2 : looseF S = if dupB (namesS S) then 6 else 0 := by rw [hF.out, if_pos hsc]
      rw [List.take_length] at hown
      obtain ⟨qp, qc, rfl, hSl⟩ := slc_of_own (enc := strC) (fun _ => rfl) hown (by decide) (by omega)
      have htw := rtwice_any qp S.length qc (namesS S) wr hSl.1 (by omega)
      clear hF hsc hz hown hSl
      replace hF2 := Lib.hid hF2
      cases hd : dupB (namesS S)
      all_goals
        rw [hd] at htw
        replace htw := Lib.hid htw
        go_wp2_with (go_at_call 80; (with_reducible refine Calls.mono htw.out ?_); rintro e w1 ⟨rfl, hb1⟩)
        go_ret
        exact ⟨ret_int (by rw [hF2.out, hd]; rfl), hE.trans hb1⟩
end Go.Proofs.YtakfanmoepiagaaGreatDoor

namespace Go.Proofs.YtakfanmoepiagaaGreatDoor
open Go Go.RowKit Go.Maps

def staV (v : StandV) : Value := .agg #[.string v.name, .int .i64 v.row, .int .i64 v.place]
def staD (v : StandV) : DataW Unit := .agg [.lit (.string v.name.data.toList), .lit (.int .i64 v.row), .lit (.int .i64 v.place)]
def staR : Value → Option (DataW Unit × List MemPlace)
  | .agg cs => match cs.toList with
    | [.string s, .int .i64 a, .int .i64 b] => some (.agg [.lit (.string s.data.toList), .lit (.int .i64 a), .lit (.int .i64 b)], [])
    | _ => none
  | _ => none
theorem staR_mk (v : StandV) : staR (staV v) = some (staD v, []) := rfl
theorem staR_inv {u : Value} {v : StandV} {ps : List MemPlace} (h : staR u = some (staD v, ps)) : u = staV v := by
  unfold staR at h
  split at h
  · rename_i cs
    split at h
    · rename_i s a b hc
      simp only [staD, Option.some.injEq, Prod.mk.injEq, DataW.agg.injEq, List.cons.injEq, DataW.lit.injEq, Lit.int.injEq, Lit.string.injEq, true_and, and_true] at h
      obtain ⟨⟨h0, h1, h2⟩, -⟩ := h
      have h3 : s = v.name := by
        have e := Array.toList_inj.1 h0
        cases s
        cases hv : v.name
        rw [hv] at e
        simp only at e
        rw [e]
      unfold staV
      rw [← h1, ← h2, ← h3]
      congr 1
      exact Array.toList_inj.1 hc
    · cases h
  · cases h
def OwnS (w : World) (b : Nat) (m : Nat) (f : ByteArray → Option StandV) : Prop := ∃ D : DataW Unit, w.ownsMap Tryz.prog 9 staR b (Maps.size D) D ∧ Maps.Tidy D ∧ (∀ p, Maps.has D (kL p) = (f p).isSome) ∧ (∀ p v, f p = some v → ∀ z, D.atKey (kL p) z = staD v) ∧ Maps.size D ≤ m
theorem ownS_sized {P : Program} {k : TypeId} {R : Value → Option (DataW Unit × List MemPlace)} {w : World} {b n : Nat} {D : DataW Unit} (h : w.ownsMap P k R b n D) : w.ownsMap P k R b (Maps.size D) D := by
  obtain ⟨es, clock, hb, F, _, rfl⟩ := h
  exact ⟨es, clock, hb, F, by simp [Maps.size, length_sorted], rfl⟩
theorem OwnS.made (w : World) : OwnS (w.alloc (.map #[] 0)) w.heap.size 0 (fun _ => none) :=
  ⟨.map [], World.ownsMap_made w _ _ _, tidy_empty, fun _ => rfl, (fun p v h => by cases h), by simp [Maps.size]⟩
theorem OwnS.lt {w : World} {b m : Nat} {f : ByteArray → Option StandV} (h : OwnS w b m f) : b < w.heap.size := by
  obtain ⟨D, hD, -⟩ := h
  exact hD.lt
theorem OwnS.grown {w w' : World} {b m : Nat} {f : ByteArray → Option StandV} (h : OwnS w b m f) {row : Option Nat} (hg : w.grownBy w' row) (hne : some b ≠ row) : OwnS w' b m f := by
  obtain ⟨D, hD, h2⟩ := h
  exact ⟨D, hD.kept hg hne, h2⟩
theorem OwnS.ext {w w' : World} {b m : Nat} {f : ByteArray → Option StandV} (h : OwnS w b m f) (he : Ext w w') : OwnS w' b m f := by
  obtain ⟨D, hD, h2⟩ := h
  exact ⟨D, hD.kept (row := none) ⟨he.os, he.tape, he.output, he.size, fun k hk _ => he.block k hk⟩ (by simp), h2⟩
def noSta : StandV := ⟨⟨#[]⟩, 0, 0⟩
theorem zero_sta (w : World) : (zeroValue 46).run Tryz.prog w = .ok (staV noSta) w := Tryz.zeroValue46 w
theorem OwnS.look_ok {w : World} {b m : Nat} {f : ByteArray → Option StandV} (h : OwnS w b m f) {p : ByteArray} (hp : p.size ≤ 1000) :
    (Instr.lookup 120 (.map (some b)) (.string p) true).run Tryz.prog w = .ok (.tuple #[staV ((f p).getD noSta), .bool (f p).isSome]) w := by
  obtain ⟨D, hD, hT, h1, h2, h3⟩ := h
  obtain ⟨v, ps, hrun, hv⟩ := hD.look_ok (string_keyed Tryz.underlying9) Tryz.underlying120 (zero_sta w) (staR_mk noSta) (kL_of hp)
  have e : D.atKey (kL p) (staD noSta) = staD ((f p).getD noSta) := by
    cases hf : f p with
    | none => exact atKey_of_not_has (by rw [h1, hf]; rfl) _
    | some v => exact h2 p v hf _
  rw [e] at hv
  rw [hrun, staR_inv hv, h1]
theorem OwnS.put {w : World} {b m : Nat} {f : ByteArray → Option StandV} (h : OwnS w b m f) {p : ByteArray} (hp : p.size ≤ 1000) (hn : m ≤ 1000) (v : StandV) :
    ∃ w', (Instr.mapUpdate 120 (.map (some b)) (.string p) (staV v)).run Tryz.prog w = .ok () w' ∧ OwnS w' b (m + 1) (fun q => if q = p then some v else f q) ∧ w.grownBy w' (some b) := by
  obtain ⟨D, hD, hT, h1, h2, h3⟩ := h
  obtain ⟨w', hrun, hD', hg⟩ := hD.update (string_keyed Tryz.underlying9) Tryz.underlying120 (by unfold maxLen; omega) (kL_of hp) (staR_mk v)
  refine ⟨w', hrun, ⟨_, ownS_sized hD', hT.put (kL_is p) _, fun q => ?_, fun q u hq z => ?_, ?_⟩, hg⟩
  · by_cases e : q = p
    · subst e; rw [has_put_same hT.isMap (kL_is q)]; simp
    · rw [has_put_other (kL_ne e), h1 q]; simp [e]
  · by_cases e : q = p
    · subst e
      simp only [if_true] at hq
      cases hq
      exact atKey_put_same hT.isMap (kL_is q) _ _
    · simp only [if_neg e] at hq
      rw [atKey_put_other (kL_ne e)]; exact h2 q u hq z
  · rw [size_put hT]
    split <;> omega
end Go.Proofs.YtakfanmoepiagaaGreatDoor
