/- Names among stands and among names. Conditions: as each theorem says. All that can stand are tried: the solver's walk. Conditions: at most four people; the places are different ones, on the stage. Stands the other way round: the program's walk. Conditions: people, a stage and stands are right. Who is missing: what is wrong with names, by the document's text. Conditions: stands and names lie in memory. The places of a stage; the document's search finds what the search that leaves off finds: plain mathematics. Conditions: as each theorem says. Rows of people by their height: plain mathematics. Conditions: as each theorem says. How many places a stage has, and whether they are enough, by both texts. Conditions: the stage is right. The best stands: the program's walk. Conditions: people and a stage lie in memory; four people at most where nothing is wrong. -/
import Derived.Test.YtdehmioobkneiaaGreatDoorTdJ38
import Derived.Test.YtdehmioobkneiaaGreatDoorTdJ34
import Derived.Shelf.SlSortCmp.NoneTotal
import Derived.Test.YtdehmioobkneiaaGreatDoorTdJ35
import Derived.Test.YtdehmioobkneiaaGreatDoorTdStR
import Derived.OwnWalk
set_option linter.unusedSimpArgs false
set_option linter.unusedVariables false
namespace Go.Proofs.YtdehmioobkneiaaGreatDoor
open Go Go.RowKit
set_option maxRecDepth 100000 in
set_option maxHeartbeats 1600000 in
theorem indexS_any (p : Option Addr) (n c : Nat) (G : List ByteArray) (nm : ByteArray) (w : World) (h : Slc 1 strC w p n c G) (hn : n ≤ 1000) :
    Calls Tryz.prog 15 #[.slice p n c, .string nm] w fun e w' => ∃ i : Int, e = .returned (.int .i64 i) ∧ (0 ≤ i ↔ nm ∈ G) ∧ Ext w w' := by
  obtain ⟨hl, hp⟩ := slcC h
  subst hl
  replace hp := Lib.hid hp; clear h
  go_enter Tryz.func15, Tryz.ntmps15
  go_wp2
  go_loopw [8] (fun i wr => ∃ k : Nat, k ≤ G.length ∧ i = .int .i64 k ∧ nm ∉ G.take k ∧ Ext w wr) (fun i _ => G.length - (intOf i).toNat)
  case atStart => exact ⟨0, Nat.zero_le _, rfl, by simp, Ext.refl _⟩
  case round =>
    obtain ⟨k, hk, rfl, hno, hE⟩ := hrel
    by_cases hlt : k < G.length
    · obtain ⟨x, hx⟩ := getD_some (rfl : G.length = G.length) hlt
      rcases hp.out with ⟨-, e⟩ | ⟨b1, o1, rfl, hb1, hE1⟩
      · rw [e] at hx; cases hx
      have c1 := (hE1.ext hE hb1).str hx
      have l1 := Nat.lt_of_lt_of_le hb1 hE.size
      have hkI : (k : Int) < G.length := by omega
      have htk := take_snocL hx
      have hxm := List.mem_of_getElem? hx
      replace hno := Lib.hid hno; replace htk := Lib.hid htk; clear hx hE1
      cases hq : (nm.toList == x.toList)
      · have hne : nm ≠ x := fun e => by rw [baL.2 e] at hq; cases hq
        go_wp2
        go_roundw
        case rel => exact ⟨k + 1, by omega, by go_num, by rw [htk.out]; simp only [List.mem_append, List.mem_singleton, not_or]; exact ⟨hno.out, hne⟩, hE⟩
        case measure => simp [intOf]; omega
      · have hne : nm = x := baL.1 hq
        go_wp2
        go_ret
        exact ⟨k, rfl, ⟨fun _ => by rw [hne]; exact hxm, fun _ => by omega⟩, hE⟩
    · obtain rfl : k = G.length := by omega
      rw [List.take_length] at hno
      replace hno := Lib.hid hno
      go_wp2
      go_ret
      exact ⟨-1, rfl, ⟨fun h => by omega, fun h => absurd h hno.out⟩, hE⟩
set_option maxRecDepth 100000 in
theorem containsS_any (p : Option Addr) (n c : Nat) (G : List ByteArray) (nm : ByteArray) (w : World) (h : Slc 1 strC w p n c G) (hn : n ≤ 1000) :
    Calls Tryz.prog 81 #[.slice p n c, .string nm] w fun e w' => ∃ b : Bool, e = .returned (.bool b) ∧ (b = true ↔ nm ∈ G) ∧ Ext w w' := by
  have hi := indexS_any p n c G nm w h hn
  replace hi := Lib.hid hi; clear h
  go_enter Tryz.func81, Tryz.ntmps81
  go_wp2_with (go_at_call 15; (with_reducible refine Calls.mono hi.out ?_); rintro e w1 ⟨i, rfl, hi2, hb1⟩)
  go_ret
  exact ⟨_, rfl, by rw [decide_eq_true_iff]; exact hi2, hb1⟩
end Go.Proofs.YtdehmioobkneiaaGreatDoor
namespace Go.Proofs.YtdehmioobkneiaaGreatDoor
open Go Go.RowKit
section
variable {w0 : World} {v gk ck : Nat} {pp : Option Addr} {pc : Nat} {P : List PersonV} {wp : Option Addr} {wcap : Nat} {wide : List Int} {hp : Option Addr} {hc : Nat} {high : List Int} {plp : Option Addr} {plc : Nat} {all : List StandV}
end
end Go.Proofs.YtdehmioobkneiaaGreatDoor
namespace Go.Proofs.YtdehmioobkneiaaGreatDoor
open Go Go.RowKit Go.Sort
end Go.Proofs.YtdehmioobkneiaaGreatDoor
namespace Go.Proofs.YtdehmioobkneiaaGreatDoor
open Go Go.RowKit
def inN (L : List ByteArray) (nm : ByteArray) : Bool := L.any fun y => y.toList == nm.toList
theorem inN_iff {L : List ByteArray} {nm : ByteArray} : inN L nm = true ↔ nm ∈ L := by
  unfold inN
  rw [List.any_eq_true]
  exact ⟨fun ⟨y, hy, h⟩ => baL.1 h ▸ hy, fun h => ⟨_, h, baL.2 rfl⟩⟩
theorem inN_false {L : List ByteArray} {nm : ByteArray} : inN L nm = false ↔ nm ∉ L := by
  rw [← inN_iff]; simp
theorem Slc.takeN {α : Type} {k : Nat} {enc : α → List Value} {w : World} {p : Option Addr} {n c : Nat} {xs : List α} (h : Slc k enc w p n c xs) {m : Nat} (hm : m ≤ n) : 0 < m → Slc k enc w p m c (xs.take m) := fun h0 => by
  obtain ⟨hS, hnc, hp0, hp⟩ := h
  refine ⟨⟨by rw [List.length_take, hS.1]; omega, by have := hS.2.1; omega, fun _ => ?_⟩, by omega, fun e => by have := hp0 e; omega, hp⟩
  obtain ⟨b, off, e, hb, hE⟩ := hS.2.2 (by omega)
  refine ⟨b, off, e, hb, fun i x hx j u hu => hE i x ?_ j u hu⟩
  rw [List.getElem?_take] at hx
  split at hx
  · exact hx
  · cases hx
theorem containsS_is (p : Option Addr) (n c : Nat) (G : List ByteArray) (nm : ByteArray) (w : World) (h : Slc 1 strC w p n c G) (hn : n ≤ 1000) {v : Bool} (hv : inN G nm = v) :
    Calls Tryz.prog 81 #[.slice p n c, .string nm] w fun e w' => e = .returned (.bool v) ∧ Ext w w' :=
  (containsS_any p n c G nm w h hn).mono fun e w' ⟨b, he, hb, hE⟩ => ⟨by
    have : b = inN G nm := by rw [Bool.eq_iff_iff, hb, inN_iff]
    rw [he, this, hv], hE⟩
set_option maxRecDepth 100000 in
theorem containsS_zero (p : Option Addr) (c : Nat) (nm : ByteArray) (w : World) : Calls Tryz.prog 81 #[.slice p 0 c, .string nm] w fun e w' => e = .returned (.bool false) ∧ Ext w w' := by
  have hi : ∀ u, Calls Tryz.prog 15 #[.slice p 0 c, .string nm] u fun e w' => e = .returned (.int .i64 (-1)) ∧ Ext u w' := fun u => by
    go_enter Tryz.func15, Tryz.ntmps15
    go_wp2
    refine wp_loop_rounds 1 ?_
    rw [rounds_succ]
    go_wp2
    go_ret
    exact ⟨rfl, Ext.refl _⟩
  replace hi := Lib.hid hi
  go_enter Tryz.func81, Tryz.ntmps81
  go_wp2_with (go_at_call 15; (with_reducible refine Calls.mono (hi.out _) ?_); rintro e w1 ⟨rfl, hb1⟩)
  go_ret
  exact ⟨rfl, hb1⟩
theorem containsS_take (p : Option Addr) (n c : Nat) (G : List ByteArray) (nm : ByteArray) (w : World) (h : Slc 1 strC w p n c G) (hn : n ≤ 1000) {m : Nat} (hm : m ≤ n) {v : Bool} (hv : inN (G.take m) nm = v) :
    Calls Tryz.prog 81 #[.slice p m c, .string nm] w fun e w' => e = .returned (.bool v) ∧ Ext w w' := by
  rcases Nat.eq_zero_or_pos m with h0 | h0
  · subst h0
    have : v = false := by rw [← hv]; rfl
    subst this
    exact containsS_zero p c nm w
  · exact containsS_is p m c (G.take m) nm w (h.takeN hm h0) (by omega) hv
end Go.Proofs.YtdehmioobkneiaaGreatDoor
namespace Go.Proofs.YtdehmioobkneiaaGreatDoor
open Go Go.RowKit
def plRow (wide : List Int) (r : Nat) : List StandV := (List.range (wide.getD r 0).toNat).map fun x : Nat => ⟨⟨#[]⟩, r, x⟩
/-- The places of the rows before r, and x places of row r. -/
def plT (wide : List Int) (r x : Nat) : List StandV := ((List.range r).flatMap fun r => plRow wide r) ++ (plRow wide r).take x
theorem plRow_len (wide : List Int) (r : Nat) : (plRow wide r).length = (wide.getD r 0).toNat := by simp [plRow]
theorem plT_row (wide : List Int) (r : Nat) : plT wide r (wide.getD r 0).toNat = plT wide (r + 1) 0 := by
  unfold plT
  rw [List.take_of_length_le (by rw [plRow_len]; exact Nat.le_refl _), List.range_succ, List.flatMap_append]
  simp
def sumT (wide : List Int) (k : Nat) : Int := (wide.take k).foldl (· + ·) 0
theorem sumT_succ {wide : List Int} {k : Nat} {v : Int} (h : wide[k]? = some v) : sumT wide (k + 1) = sumT wide k + v := by unfold sumT; rw [take_snocL h, List.foldl_append]; rfl
theorem sumT_bound {wide : List Int} (h : WideOk wide) : ∀ k, k ≤ wide.length → 0 ≤ sumT wide k ∧ sumT wide k ≤ 30 * k ∧ ((plT wide k 0).length : Int) = sumT wide k
  | 0, _ => by simp [sumT, plT]
  | k + 1, hk => by
    obtain ⟨v, hv⟩ := getD_some (rfl : wide.length = wide.length) (show k < wide.length by omega)
    obtain ⟨i1, i2, i3⟩ := sumT_bound h k (by omega)
    obtain ⟨v1, v2⟩ := h.2 v (List.mem_of_getElem? hv)
    rw [sumT_succ hv]
    refine ⟨by omega, by omega, ?_⟩
    rw [← plT_row]
    have e : wide.getD k 0 = v := by rw [List.getD_eq_getElem?_getD, hv]; rfl
    have e2 : (plT wide k v.toNat).length = (plT wide k 0).length + v.toNat := by
      unfold plT
      rw [List.length_append, List.length_append, List.take_of_length_le (by rw [plRow_len, e]; exact Nat.le_refl _), plRow_len, e]
      simp
    rw [e, e2]
    omega
section
variable {P : List PersonV} {wide high : List Int} {all : List StandV}
end
end Go.Proofs.YtdehmioobkneiaaGreatDoor
namespace Go.Proofs.YtdehmioobkneiaaGreatDoor
open Go Go.RowKit
/-- People in the middle of a row. -/
def rowP (wide : List Int) (r : Nat) (Q : List PersonV) : List StandV := (List.range Q.length).map fun i => ⟨(Q.getD i default).name, r, (wide.getD r 0 - Q.length) / 2 + i⟩
theorem rowP_len (wide : List Int) (r : Nat) (Q : List PersonV) : (rowP wide r Q).length = Q.length := by simp [rowP]
theorem rowP_at {wide : List Int} {r : Nat} {Q : List PersonV} {i : Nat} {x : PersonV} (h : Q[i]? = some x) : (rowP wide r Q)[i]? = some ⟨x.name, r, (wide.getD r 0 - Q.length) / 2 + i⟩ := by
  have hi := (List.getElem?_eq_some_iff.1 h).1
  unfold rowP
  rw [List.getElem?_map, List.getElem?_range hi]
  simp [List.getD_eq_getElem?_getD, h]
/-- How many are left ahead of row r, and how many stand in it. -/
def leftN (wide : List Int) (n : Nat) : Nat → Nat
  | 0 => n
  | r + 1 => leftN wide n r - min (wide.getD r 0).toNat (leftN wide n r)
def takeN (wide : List Int) (n r : Nat) : Nat := min (wide.getD r 0).toNat (leftN wide n r)
theorem leftN_succ (wide : List Int) (n r : Nat) : leftN wide n (r + 1) = leftN wide n r - takeN wide n r := rfl
theorem leftN_le (wide : List Int) (n : Nat) : ∀ r, leftN wide n r ≤ n
  | 0 => Nat.le_refl _
  | r + 1 => by have := leftN_le wide n r; rw [leftN_succ]; omega
theorem takeN_le (wide : List Int) (n r : Nat) : takeN wide n r ≤ leftN wide n r := Nat.min_le_right _ _
theorem takeN_wide (wide : List Int) (n r : Nat) : takeN wide n r ≤ (wide.getD r 0).toNat := Nat.min_le_left _ _
def manyL (wide : List Int) (n k : Nat) : List Int := (List.range k).map fun r => (takeN wide n r : Int)
theorem manyL_len (wide : List Int) (n k : Nat) : (manyL wide n k).length = k := by simp [manyL]
theorem manyL_succ (wide : List Int) (n k : Nat) : manyL wide n (k + 1) = manyL wide n k ++ [(takeN wide n k : Int)] := by simp [manyL, List.range_succ]
theorem manyL_at {wide : List Int} {n k r : Nat} (h : r < k) : (manyL wide n k)[r]? = some (takeN wide n r : Int) := by
  unfold manyL; rw [List.getElem?_map, List.getElem?_range h]; rfl
theorem rowP_mem {wide : List Int} {r : Nat} {Q : List PersonV} {x : StandV} (h : x ∈ rowP wide r Q) : ∃ (i : Nat) (y : PersonV), Q[i]? = some y ∧ x = ⟨y.name, r, (wide.getD r 0 - Q.length) / 2 + i⟩ := by
  unfold rowP at h
  obtain ⟨i, hi, rfl⟩ := List.mem_map.1 h
  have hi := List.mem_range.1 hi
  exact ⟨i, Q[i], List.getElem?_eq_getElem hi, by simp [hi]⟩
end Go.Proofs.YtdehmioobkneiaaGreatDoor
namespace Go.Proofs.YtdehmioobkneiaaGreatDoor
open Go Go.RowKit
def fullF (P : List PersonV) (wide : List Int) : Int := if sumT wide wide.length < P.length then 12 else 0
set_option maxRecDepth 100000 in
set_option maxHeartbeats 1600000 in
theorem placesOf_any (wp : Option Addr) (wcap : Nat) (wide : List Int) (hp : Option Addr) (hl hc : Nat) (w : World) (h : Slc 1 intC w wp wide.length wcap wide) (hwo : WideOk wide) :
    Calls Tryz.prog 79 #[.agg #[.slice wp wide.length wcap, .slice hp hl hc]] w fun e w' => e = .returned (.int .i64 (sumT wide wide.length)) ∧ Ext w w' := by
  have hE0 : Ext w (w.alloc (.cells #[.slice wp wide.length wcap, .slice hp hl hc] 48)) := (Ext.refl _).alloc _
  have hsb := sumT_bound hwo
  have hw10 := hwo.1
  replace hsb := Lib.hid hsb
  go_enter Tryz.func79, Tryz.ntmps79
  go_wp2
  go_loopw [3, 9] (fun v3 v9 wr => ∃ k : Nat, v3 = .int .i64 (sumT wide k) ∧ v9 = .int .i64 k ∧ k ≤ wide.length ∧ Ext w wr) (fun _ v9 _ => wide.length - (intOf v9).toNat)
  case atStart => exact ⟨0, rfl, rfl, Nat.zero_le _, hE0⟩
  case round =>
    obtain ⟨k, rfl, rfl, hk, hE⟩ := hrel
    by_cases hlt : k < wide.length
    · obtain ⟨x, hx⟩ := getD_some (rfl : wide.length = wide.length) hlt
      have hkI : (k : Int) < wide.length := by omega
      rcases (slcC h).2 with ⟨-, e⟩ | ⟨b, off, rfl, hb, hEl⟩
      · rw [e] at hx; cases hx
      have c0 := (hEl.ext hE hb).int hx
      have lb := Nat.lt_of_lt_of_le hb hE.size
      obtain ⟨v1, v2⟩ := hwo.2 x (List.mem_of_getElem? hx)
      have hs := sumT_succ hx
      obtain ⟨i1, i2, -⟩ := hsb.out k hk
      replace hs := Lib.hid hs; clear hEl hx
      go_wp2
      go_roundw
      case rel => exact ⟨k + 1, by rw [hs.out], by go_num, by omega, hE⟩
      case measure => simp [intOf]; omega
    · obtain rfl : k = wide.length := by omega
      go_wp2
      go_ret
      exact ⟨rfl, hE⟩
set_option maxRecDepth 100000 in
set_option maxHeartbeats 1600000 in
theorem full_any (pp : Option Addr) (pc : Nat) (P : List PersonV) (wp : Option Addr) (wcap : Nat) (wide : List Int) (hp : Option Addr) (hc : Nat) (high : List Int) (w : World) (h : PsM w pp pc P wp wcap wide hp hc high none 0 []) (hwo : ostF P wide high = 0 → WideOk wide) :
    Calls Tryz.prog 34 #[.slice pp P.length pc, .agg #[.slice wp wide.length wcap, .slice hp high.length hc]] w fun e w' => e = .returned (.int .i64 (if ostF P wide high = 0 then fullF P wide else ostF P wide high)) ∧ Ext w w' := by
  have hE0 : Ext w (w.alloc (.cells #[.slice wp wide.length wcap, .slice hp high.length hc] 48)) := (Ext.refl _).alloc _
  have hB0 : Blk (w.alloc (.cells #[.slice wp wide.length wcap, .slice hp high.length hc] 48)) w.heap.size 48 #[.slice wp wide.length wcap, .slice hp high.length hc] := Blk.new' rfl
  have hst := fun u (hu : Ext w u) => stageFault_any pp pc P wp wcap wide hp hc high none 0 [] u (h.more hu)
  generalize ostF P wide high = f at *
  replace hst := Lib.hid hst
  by_cases hf : f = 0
  rotate_left
  · rw [if_neg hf]
    go_enter Tryz.func34, Tryz.ntmps34
    go_wp2_with (go_at_call 40; (with_reducible refine Calls.mono (hst.out _ hE0) ?_); rintro e w1 ⟨rfl, hb1⟩)
    go_ret
    exact ⟨rfl, hE0.trans hb1⟩
  subst hf
  rw [if_pos rfl]
  have hpl := fun u (hu : Ext w u) => placesOf_any wp wcap wide hp high.length hc u (h.wid.ext hu) (hwo rfl)
  have hF : fullF P wide = if sumT wide wide.length < P.length then 12 else 0 := rfl
  generalize sumT wide wide.length = sm at *
  replace hpl := Lib.hid hpl; replace hF := Lib.hid hF
  by_cases hlt : sm < P.length
  all_goals
    go_enter Tryz.func34, Tryz.ntmps34
    go_wp2_with (first
      | (go_at_call 40; (with_reducible refine Calls.mono (hst.out _ hE0) ?_); rintro e w1 ⟨rfl, hb1⟩; obtain ⟨y1, -⟩ := (hB0.ext hb1).walk; have bl := (hB0.ext hb1).lt; have E1 := hE0.trans hb1)
      | (go_at_call 79; (with_reducible refine Calls.mono (hpl.out _ E1) ?_); rintro e w2 ⟨rfl, hb2⟩))
    go_ret
    exact ⟨ret_int (by rw [hF.out]; simp [hlt]), E1.trans hb2⟩
end Go.Proofs.YtdehmioobkneiaaGreatDoor
namespace Go.Proofs.YtdehmioobkneiaaGreatDoor
open Go Go.RowKit Go.Sort
section
variable {pp : Option Addr} {pc : Nat} {P : List PersonV} {wp : Option Addr} {wcap : Nat} {wide : List Int} {hp : Option Addr} {hc : Nat} {high : List Int} {w : World}
end
end Go.Proofs.YtdehmioobkneiaaGreatDoor
