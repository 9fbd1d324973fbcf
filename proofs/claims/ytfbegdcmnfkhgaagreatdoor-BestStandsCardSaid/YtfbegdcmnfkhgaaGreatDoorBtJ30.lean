/- Who is hidden, by the document's text: the walk. Conditions: people, stage and stands are right. By how much rows would have to be higher, by the document's text: the walk. Conditions: people, stage and stands are right. Which part of those who stand is seen: the walks. Conditions: people, stage and stands are in memory. Hides, Seen and Lift of all arguments. Conditions: sizes. Which part of those who stand is seen, by the document's text. Conditions: people, stage and stands are right. -/
import Derived.Test.YtfbegdcmnfkhgaaGreatDoorBtStS
import Derived.Test.YtfbegdcmnfkhgaaGreatDoorBtJ22
import Derived.Test.YtfbegdcmnfkhgaaGreatDoorBtJ5
import Derived.Test.YtfbegdcmnfkhgaaGreatDoorBtStR
import Derived.Shelf.SlicesQ.IndexFunc
set_option linter.unusedSimpArgs false
set_option linter.unusedVariables false
namespace Go.Proofs.YtfbegdcmnfkhgaaGreatDoor
open Go Go.RowKit

end Go.Proofs.YtfbegdcmnfkhgaaGreatDoor

namespace Go.Proofs.YtfbegdcmnfkhgaaGreatDoor
open Go Go.RowKit

end Go.Proofs.YtfbegdcmnfkhgaaGreatDoor

namespace Go.Proofs.YtfbegdcmnfkhgaaGreatDoor
open Go Go.RowKit

def hidAny (P : List PersonV) (wide high : List Int) (S : List StandV) (b : StandV) : Bool := S.any fun a => hidesS P wide high a b
end Go.Proofs.YtfbegdcmnfkhgaaGreatDoor

namespace Go.Proofs.YtfbegdcmnfkhgaaGreatDoor
open Go Go.RowKit

theorem Elems.hid {w : World} {b off : Nat} {xs : List (ByteArray × ByteArray)} (h : Elems 2 hidC w b off xs) {i : Nat} {x : ByteArray × ByteArray} (hx : xs[i]? = some x) :
    w.cell? ⟨b, off + i * 2, none⟩ = some (.string x.1) ∧ w.cell? ⟨b, off + i * 2 + 1, none⟩ = some (.string x.2) :=
  ⟨h i x hx 0 _ rfl, h i x hx 1 _ rfl⟩

set_option maxRecDepth 100000 in
theorem truth_any (is : Bool) (w : World) : Calls Tryz.prog 86 #[.bool is] w fun e w' => e = .returned (.int .i64 (if is then 1 else 0)) ∧ w = w' := by
  cases is
  all_goals
    go_enter Tryz.func86, Tryz.ntmps86
    go_wp2
    go_ret
    exact ⟨rfl, rfl⟩

section
variable {pp : Option Addr} {pc : Nat} {P : List PersonV} {wp : Option Addr} {wcap : Nat} {wide : List Int} {hp : Option Addr} {hc : Nat} {high : List Int} {lp : Option Addr} {lc : Nat} {S : List StandV} {w : World}
theorem PsM.check (h : PsM w pp pc P wp wcap wide hp hc high lp lc S) {v : Int} (hv : standsF P wide high S = v) : ∀ u, Ext w u → Calls Tryz.prog 27 #[.slice pp P.length pc, .agg #[.slice wp wide.length wcap, .slice hp high.length hc], .slice lp S.length lc] u fun e w' => e = .returned (.int .i64 v) ∧ Ext u w' :=
  fun u hu => hv ▸ checkStands_any pp pc P wp wcap wide hp hc high lp lc S u (h.more hu)
theorem hides_good (h : PsM w pp pc P wp wcap wide hp hc high lp lc S) (hz : standsF P wide high S = 0) :
    Calls Tryz.prog 30 #[.slice pp P.length pc, .agg #[.slice wp wide.length wcap, .slice hp high.length hc], .slice lp S.length lc] w fun e w' => ∃ (q : Option Addr) (c : Nat), e = .returned (.tuple #[.slice q (hiddenL P wide high S).length c, .int .i64 0]) ∧ Slc 2 hidC w' q (hiddenL P wide high S).length c (hiddenL P wide high S) ∧ Ext w w' :=
  hidesL_ok pp pc P wp wcap wide hp hc high lp lc S w h.per h.wid h.hig h.sta (standsF_ok hz).1 (h.check hz)
end
end Go.Proofs.YtfbegdcmnfkhgaaGreatDoor

namespace Go.Proofs.YtfbegdcmnfkhgaaGreatDoor
open Go Go.RowKit

set_option maxRecDepth 100000 in
theorem hid1Pred {pp : Option Addr} {pc : Nat} {P : List PersonV} {wp : Option Addr} {wcap : Nat} {wide : List Int} {hp : Option Addr} {hc : Nat} {high : List Int} {lp : Option Addr} {lc : Nat} {S : List StandV} {w : World} (h : PsM w pp pc P wp wcap wide hp hc high lp lc S) (hok : StandsOk P wide high S) {b : StandV} (hb : b ∈ S) (g3 g4 g9 : Nat)
    (h3 : Blk w g3 26 #[.slice pp P.length pc]) (h4 : Blk w g4 29 #[.slice wp wide.length wcap, .slice hp high.length hc]) (h9 : Blk w g9 46 #[.string b.name, .int .i64 b.row, .int .i64 b.place]) :
    PredBelow Tryz.prog 87 #[.pointer (some ⟨g3, 0, none⟩), .pointer (some ⟨g4, 0, none⟩), .pointer (some ⟨g9, 0, none⟩)] (fun y : {x // x ∈ S} => .agg (staC y.1).toArray) (fun y => hidesS P wide high y.1 b) w := fun W y hW => by
  have hE : Ext w W := hW
  have hEa := hE.alloc (.cells #[.string y.1.name, .int .i64 y.1.row, .int .i64 y.1.place] 46)
  have hhd := rhides_any pp pc P wp wcap wide hp hc high lp lc S _ (h.more hEa) hok y.2 hb
  obtain ⟨a1, -⟩ := (h3.ext hE).walk
  obtain ⟨a2, -⟩ := (h4.ext hE).walk
  obtain ⟨a3, -⟩ := (h9.ext hE).walk
  have l1 := (h3.ext hE).lt
  have l2 := (h4.ext hE).lt
  have l3 := (h9.ext hE).lt
  show Calls Tryz.prog 87 #[.agg #[.string y.1.name, .int .i64 y.1.row, .int .i64 y.1.place], .pointer (some ⟨g3, 0, none⟩), .pointer (some ⟨g4, 0, none⟩), .pointer (some ⟨g9, 0, none⟩)] W _
  replace hhd := Lib.hid hhd
  clear h hok h3 h4 h9 hW
  go_enter Tryz.func87, Tryz.ntmps87
  go_wp2_with (go_at_call 88; (with_reducible refine Calls.mono hhd.out ?_); rintro e w2 ⟨rfl, hb2⟩)
  go_ret
  exact ⟨rfl, hEa.trans hb2⟩
theorem hid1Has {pp : Option Addr} {pc : Nat} {P : List PersonV} {wp : Option Addr} {wcap : Nat} {wide : List Int} {hp : Option Addr} {hc : Nat} {high : List Int} {lp : Option Addr} {lc : Nat} {S : List StandV} {w : World} (h : PsM w pp pc P wp wcap wide hp hc high lp lc S) (hok : StandsOk P wide high S) {b : StandV} (hb : b ∈ S) (g3 g4 g9 : Nat)
    (h3 : Blk w g3 26 #[.slice pp P.length pc]) (h4 : Blk w g4 29 #[.slice wp wide.length wcap, .slice hp high.length hc]) (h9 : Blk w g9 46 #[.string b.name, .int .i64 b.row, .int .i64 b.place]) :
    Calls Tryz.prog 47 #[.slice lp S.length lc, .func (.func 87) #[] #[.pointer (some ⟨g3, 0, none⟩), .pointer (some ⟨g4, 0, none⟩), .pointer (some ⟨g9, 0, none⟩)]] w fun e w' => e = .returned (.bool (hidAny P wide high S b)) ∧ Ext w w' := by
  haveI : Inhabited {x // x ∈ S} := ⟨⟨b, hb⟩⟩
  rcases (slcC h.sta).2 with ⟨-, e⟩ | ⟨sb, so, rfl, hsb, hEl⟩
  · rw [e] at hb; cases hb
  have eg : ∀ args w, (callFunc 87 args).run Tryz.prog w = .ok (.enter 87 args) w := enters_of Tryz.func87 (by kernel_rfl) rfl
  have hat : ∀ j, j < S.attach.length → S[j]? = some (S.attach[j]!).1 := fun j hj => by
    rw [getElem!_pos S.attach j hj]
    simp at hj
    rw [List.getElem?_eq_getElem hj]
    simp
  have hlen := hok.len
  have := AnyQ.slices_ContainsFunc (α := {x // x ∈ S}) Tryz.lqcStand 3 Tryz.isAgg46 Tryz.sizeOf46 (fun y => staC y.1) (fun y => staC_len y.1) (fun y => hidesS P wide high y.1 b) 87 _ eg sb so S.length lc S.attach w
    (hid1Pred h hok hb g3 g4 g9 h3 h4 h9) (by simp) (by omega) hsb (fun j hj i v hi => hEl j _ (hat j hj) i v hi)
  rw [List.take_of_length_le (by simp)] at this
  have e2 : (S.attach.any fun y => hidesS P wide high y.1 b) = hidAny P wide high S b := by
    unfold hidAny
    show S.attach.any ((fun a => hidesS P wide high a b) ∘ Subtype.val) = _
    rw [← List.any_map, List.attach_map_subtype_val]
  rw [e2] at this
  exact this

/-- How many are hidden. -/
def hidN (P : List PersonV) (wide high : List Int) (S T : List StandV) : Nat := (T.filter fun b => hidAny P wide high S b).length
theorem hidN_snoc {P : List PersonV} {wide high : List Int} {S T : List StandV} {k : Nat} {b : StandV} (h : T[k]? = some b) : hidN P wide high S (T.take (k + 1)) = hidN P wide high S (T.take k) + (if hidAny P wide high S b then 1 else 0) := by
  unfold hidN
  rw [take_snocL h, List.filter_append, List.length_append]
  cases hh : hidAny P wide high S b <;> simp [hh]
theorem hidN_le (P : List PersonV) (wide high : List Int) (S T : List StandV) : hidN P wide high S T ≤ T.length := List.length_filter_le _ _
set_option maxRecDepth 100000 in
set_option maxHeartbeats 3200000 in
theorem hiddenMany_any (pp : Option Addr) (pc : Nat) (P : List PersonV) (wp : Option Addr) (wcap : Nat) (wide : List Int) (hp : Option Addr) (hc : Nat) (high : List Int) (lp : Option Addr) (lc : Nat) (S : List StandV) (w : World) (h : PsM w pp pc P wp wcap wide hp hc high lp lc S) (hok : StandsOk P wide high S) :
    Calls Tryz.prog 46 #[.slice pp P.length pc, .agg #[.slice wp wide.length wcap, .slice hp high.length hc], .slice lp S.length lc] w fun e w' => e = .returned (.int .i64 (hidN P wide high S S)) ∧ Ext w w' := by
  have h3 : Blk ((w.alloc (.cells #[.slice pp P.length pc] 26)).alloc (.cells #[.slice wp wide.length wcap, .slice hp high.length hc] 29)) w.heap.size 26 #[.slice pp P.length pc] := (Blk.new' rfl).alloc _
  have h4 : Blk ((w.alloc (.cells #[.slice pp P.length pc] 26)).alloc (.cells #[.slice wp wide.length wcap, .slice hp high.length hc] 29)) (w.heap.size + 1) 29 #[.slice wp wide.length wcap, .slice hp high.length hc] := Blk.new' (by simp)
  have hE0 : Ext w ((w.alloc (.cells #[.slice pp P.length pc] 26)).alloc (.cells #[.slice wp wide.length wcap, .slice hp high.length hc] 29)) := ((Ext.refl _).alloc _).alloc _
  have hlen := hok.len
  replace h := Lib.hid h
  replace hok := Lib.hid hok
  go_enter Tryz.func46, Tryz.ntmps46
  go_wp2
  generalize (w.alloc (.cells #[.slice pp P.length pc] 26)).alloc (.cells #[.slice wp wide.length wcap, .slice hp high.length hc] 29) = W at *
  go_loopw [7, 12] (fun v7 v12 wr => ∃ k : Nat, v12 = .int .i64 k ∧ v7 = .int .i64 (hidN P wide high S (S.take k)) ∧ k ≤ S.length ∧ Ext W wr) (fun _ v12 _ => S.length - (intOf v12).toNat)
  case atStart => exact ⟨0, rfl, rfl, Nat.zero_le _, Ext.refl _⟩
  case round =>
    obtain ⟨k, rfl, rfl, hk, hE⟩ := hrel
    by_cases hlt : k < S.length
    · obtain ⟨b, hb⟩ := getD_some (rfl : S.length = S.length) hlt
      have hbm := List.mem_of_getElem? hb
      have hkI : (k : Int) < S.length := by omega
      have hsn := hidN_snoc (P := P) (wide := wide) (high := high) (S := S) hb
      have hle := hidN_le P wide high S (S.take k)
      rw [List.length_take] at hle
      rcases (slcC h.out.sta).2 with ⟨-, e⟩ | ⟨sb, so, rfl, hsb, hEl⟩
      · rw [e] at hb; cases hb
      have hEw := hE0.trans hE
      obtain ⟨c0, c1, c2⟩ := (hEl.ext hEw hsb).sta hb
      have hbw := Nat.lt_of_lt_of_le hsb hEw.size
      have hEa := hE.alloc (.cells #[.string b.name, .int .i64 b.row, .int .i64 b.place] 46)
      have hih := hid1Has (h.out.more (hE0.trans hEa)) hok.out hbm w.heap.size (w.heap.size + 1) wr.heap.size (h3.ext hEa) (h4.ext hEa) (Blk.new' rfl)
      generalize hidN P wide high S (S.take k) = q at *
      replace hb := Lib.hid hb
      clear hEl
      cases hh : hidAny P wide high S b
      all_goals
        rw [hh] at hih hsn
        simp only [Bool.false_eq_true, if_false, if_true] at hsn
        replace hih := Lib.hid hih
        replace hsn := Lib.hid hsn
        go_wp2_with (first
          | (go_at_call 47; (with_reducible refine Calls.mono hih.out ?_); rintro e w2 ⟨rfl, hb2⟩)
          | (go_at_call 86; (with_reducible refine Calls.mono (truth_any _ _) ?_); rintro e w3 ⟨rfl, rfl⟩))
        go_roundw
        case rel => exact ⟨k + 1, by go_num, by rw [hsn.out] <;> first | done | go_num, by omega, hEa.trans hb2⟩
        case measure => simp [intOf]; omega
    · obtain rfl : k = S.length := by omega
      rw [List.take_length]
      go_wp2
      go_ret
      exact ⟨rfl, hE0.trans hE⟩
end Go.Proofs.YtfbegdcmnfkhgaaGreatDoor
