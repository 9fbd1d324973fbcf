/- A stand found by a name. Conditions: people, a stage and stands are in memory. -/
import Derived.Test.YtfmkmnnmckbljaaGreatDoorLsSuH
import Derived.Shelf.SlicesQ.IndexFunc
set_option linter.unusedSimpArgs false
set_option linter.unusedVariables false
namespace Go.Proofs.YtfmkmnnmckbljaaGreatDoor
open Go Go.RowKit

set_option maxRecDepth 100000 in
theorem ls1Pred (nm by_ : ByteArray) (g : Nat) (w : World) (hB : Blk w g 50 #[.string nm, .string by_]) :
    PredBelow Tryz.prog 28 #[.pointer (some ⟨g, 0, none⟩)] (fun y : StandV => .agg (staC y).toArray) (fun y => y.name.toList == nm.toList) w := fun W y hb => by
  have hE : Ext w W := hb
  obtain ⟨b1, -⟩ := (hB.ext hE).walk
  have bl := (hB.ext hE).lt
  show Calls Tryz.prog 28 #[.agg #[.string y.name, .int .i64 y.row, .int .i64 y.place], .pointer (some ⟨g, 0, none⟩)] W _
  clear hB hb
  cases h1 : (y.name.toList == nm.toList)
  all_goals
    go_enter Tryz.func28, Tryz.ntmps28
    go_wp2
    go_ret
    exact ⟨by simp only [h1]; rfl, hE.alloc _⟩
theorem ls1Find {pp : Option Addr} {pc : Nat} {P : List PersonV} {wp : Option Addr} {wcap : Nat} {wide : List Int} {hp : Option Addr} {hc : Nat} {high : List Int} {lp : Option Addr} {lc : Nat} {S : List StandV} {w : World} (h : PsM w pp pc P wp wcap wide hp hc high lp lc S) (hnd : (namesS S).Nodup) (nm by_ : ByteArray) (g : Nat)
    (hB : Blk w g 50 #[.string nm, .string by_]) (hz : ∃ b ∈ S, b.name = nm ∧ 1 ≤ b.row) :
    Calls Tryz.prog 27 #[.slice lp S.length lc, .func (.func 28) #[] #[.pointer (some ⟨g, 0, none⟩)]] w fun e w' => ∃ (k : Nat) (y : StandV), e = .returned (.int .i64 k) ∧ S[k]? = some y ∧ 1 ≤ y.row ∧ Ext w w' := by
  obtain ⟨b, hb, hbn, hbr⟩ := hz
  rcases (slcC h.sta).2 with ⟨-, e⟩ | ⟨sb, so, rfl, hsb, hEl⟩
  · rw [e] at hb; cases hb
  have hnS := h.nS
  have eg : ∀ args w, (callFunc 28 args).run Tryz.prog w = .ok (.enter 28 args) w := enters_of Tryz.func28 (by kernel_rfl) rfl
  have := AnyQ.slices_IndexFunc Tryz.lqiStand 3 Tryz.isAgg61 Tryz.sizeOf61 staC staC_len (fun y => y.name.toList == nm.toList) 28 #[.pointer (some ⟨g, 0, none⟩)] eg sb so S.length lc S w
    (ls1Pred nm by_ g w hB) (Nat.le_refl _) (by omega) hsb (fun j hj i v hi => hEl j _ (by rw [List.getElem?_eq_getElem hj, getElem!_pos S j hj]) i v hi)
  rw [List.take_length] at this
  unfold Lib.idxBy at this
  refine this.mono fun e w' ⟨he, hE⟩ => ?_
  rcases idx_or (fun y : StandV => y.name.toList == nm.toList) default S 0 with ⟨-, h2⟩ | ⟨k, x, hx, hp, hk⟩
  · have := h2 b hb
    rw [baL.2 hbn] at this
    cases this
  · rw [hk, Nat.zero_add] at he
    refine ⟨k, x, he, hx, ?_, hE⟩
    have hxn := baL.1 hp
    obtain ⟨j, hj, e⟩ := List.getElem_of_mem hb
    have hbj : S[j]? = some b := by rw [List.getElem?_eq_getElem hj, e]
    have hkl := (List.getElem?_eq_some_iff.1 hx).1
    have hjk : j = k := by
      rcases Nat.lt_trichotomy j k with h1 | h1 | h1
      · exfalso
        rw [List.nodup_iff_pairwise_ne, List.pairwise_iff_getElem] at hnd
        refine hnd j k (by unfold namesS; rw [List.length_map]; exact hj) (by unfold namesS; rw [List.length_map]; exact hkl) h1 ?_
        unfold namesS
        rw [List.getElem_map, List.getElem_map, (List.getElem?_eq_some_iff.1 hbj).2, (List.getElem?_eq_some_iff.1 hx).2, hbn, hxn]
      · exact h1
      · exfalso
        rw [List.nodup_iff_pairwise_ne, List.pairwise_iff_getElem] at hnd
        refine hnd k j (by unfold namesS; rw [List.length_map]; exact hkl) (by unfold namesS; rw [List.length_map]; exact hj) h1 ?_
        unfold namesS
        rw [List.getElem_map, List.getElem_map, (List.getElem?_eq_some_iff.1 hbj).2, (List.getElem?_eq_some_iff.1 hx).2, hbn, hxn]
    subst hjk
    rw [hbj] at hx
    cases hx
    exact hbr
end Go.Proofs.YtfmkmnnmckbljaaGreatDoor
