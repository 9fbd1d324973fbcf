/- slices.Insert at steps: one step put into an own row of steps. Conditions: the row is the call's own and not too long, the place is within. -/
import Derived.Test.YtapjekpjekdlkaaGreatDoorRJ21
import Derived.Test.YtapjekpjekdlkaaGreatDoorRJ7
import Derived.Test.YtapjekpjekdlkaaGreatDoorRFactsB
import Derived.Lib.Overlaps
import Derived.Lib.AppendZerosOnto
import Derived.Laws.CopyRow
set_option linter.unusedSimpArgs false
set_option linter.unusedVariables false
namespace Go.Proofs.YtapjekpjekdlkaaGreatDoor
open Go Go.RowKit

theorem run_copyK {P : Program} (w : World) (dT sT ty elem : TypeId) (g o dLen dCap : Nat) (a : Addr) (sLen sCap k : Nat) (cur : Array Value) (t : TypeId) (cs : List Value)
    (hu : P.underlying dT = some (.slice elem)) (hs : (P.info? elem).map (·.size) = some k) (hg : w.heap[g]? = some (.cells cur t (0, 0))) (hn : cs.length = Nat.min sLen dLen * k)
    (hsrc : ∀ j v, cs[j]? = some v → w.cell? (a.add j) = some v) (hfit : o + cs.length ≤ cur.size) (h1 : ∀ v ∈ cs, v.oneCell' = true) :
    (Builtin.copy_ #[dT, sT] ty #[.slice (some ⟨g, o, none⟩) dLen dCap, .slice (some a) sLen sCap]).run P w =
      .ok (goInt (Nat.min sLen dLen)) (w.setRow g (cur.toList.take o ++ cs ++ cur.toList.drop (o + cs.length)).toArray) := by
  have hl := run_loadCells_list (P := P) w a cs hsrc
  have hst := run_storeCells_at P g o t cs 0 cur w hg (by simpa using hfit) h1
  cases hq : P.info? elem with
  | none => simp [hq] at hs
  | some i =>
    have hi : i.size = k := by simpa [hq] using hs
    simp [Builtin.copy_, run_underlying hu, Builtin.lenOf, Builtin.firstCells, sizeOf, typeInfo, hq, hi, ← hn, hl, hst]

theorem grown_row {w : World} {g : Nat} {cs : Array Value} : w.grownBy (w.setRow g cs) (some g) :=
  ⟨rfl, rfl, rfl, by simp [World.setRow], fun k _ hk => by
    unfold World.setRow
    simp only [Array.getElem?_modify]
    rw [if_neg fun e => hk (by rw [e])]⟩
theorem wpList_copyK {P : Program} (w : World) {ops : Array Oper} {rest : List Oper} {o : Oper} {b : Act} {Q : Exit → Act → World → Prop} (hgd : o.guard = none) (d s : Operand) (dT sT : TypeId)
    (ho : o.op = .call { callee := .builtin .copy, args := #[d, s], argTypes := #[dT, sT] }) (elem : TypeId) (g off dLen dCap : Nat) (a : Addr) (sLen sCap k : Nat) (cur : Array Value) (t : TypeId) (cs : List Value)
    (hd : b.eval d = .slice (some ⟨g, off, none⟩) dLen dCap) (hsr : b.eval s = .slice (some a) sLen sCap) (hu : P.underlying dT = some (.slice elem)) (hs : (P.info? elem).map (·.size) = some k) (hg : Blk w g t cur) (hn : cs.length = Nat.min sLen dLen * k)
    (hsrc : ∀ j v, cs[j]? = some v → w.cell? (a.add j) = some v) (hfit : off + cs.length ≤ cur.size) (h1 : ∀ v ∈ cs, v.oneCell' = true)
    (h : ∀ w', Blk w' g t (cur.toList.take off ++ cs ++ cur.toList.drop (off + cs.length)).toArray → w.grownBy w' (some g) → wpList P ops Q rest (b.put o.dst (goInt (Nat.min sLen dLen))) w') : wpList P ops Q (o :: rest) b w :=
  wpList_plain hgd fun _ hK => by
    have hr := run_copyK (P := P) w dT sT o.type elem g off dLen dCap a sLen sCap k cur t cs hu hs hg hn hsrc hfit h1
    unfold Oper.wp execOp
    simp only [ho, resolve, invoke, builtin, Sem.run_bind, Sem.run_pure, Result.andThen_ok, List.map_toArray, List.map_cons, List.map_nil, hd, hsr, hr]
    exact hK _ _ (h _ (setRow_heap w g cur _ t (0, 0) hg) grown_row)

theorem ins_room (L : List Value) {i n : Nat} (u0 u1 : Value) (hi : i < n) (hL : (n + 1) * 2 ≤ L.length) :
    (((L.take ((i + 1) * 2) ++ (L.drop (i * 2)).take ((n - i) * 2) ++ L.drop ((i + 1) * 2 + (n - i) * 2)).take (i * 2) ++ [u0, u1] ++ (L.take ((i + 1) * 2) ++ (L.drop (i * 2)).take ((n - i) * 2) ++ L.drop ((i + 1) * 2 + (n - i) * 2)).drop (i * 2 + 2)).take ((n + 1) * 2)) =
      (L.take (n * 2)).take (i * 2) ++ [u0, u1] ++ (L.take (n * 2)).drop (i * 2) := by
  have e1 : (L.take ((i + 1) * 2) ++ (L.drop (i * 2)).take ((n - i) * 2) ++ L.drop ((i + 1) * 2 + (n - i) * 2)).take (i * 2) = L.take (i * 2) := by
    rw [List.append_assoc, List.take_append_of_le_length (by rw [List.length_take]; omega), List.take_take, Nat.min_eq_left (by omega)]
  have e2 : (L.take ((i + 1) * 2) ++ (L.drop (i * 2)).take ((n - i) * 2) ++ L.drop ((i + 1) * 2 + (n - i) * 2)).drop (i * 2 + 2) = (L.drop (i * 2)).take ((n - i) * 2) ++ L.drop ((i + 1) * 2 + (n - i) * 2) := by
    rw [List.append_assoc, List.drop_append_of_le_length (by rw [List.length_take]; omega), List.drop_eq_nil_of_le (by rw [List.length_take]; omega), List.nil_append]
  rw [e1, e2, ← List.append_assoc, List.take_left' (by simp only [List.length_append, List.length_take, List.length_drop, List.length_cons, List.length_nil]; omega), List.take_take, Nat.min_eq_left (by omega), List.drop_take]
  congr 3
  omega
theorem ins_grow (A Z B : List Value) {i n : Nat} (u0 u1 : Value) (hi : i < n) (hA : A.length = i * 2) (hB : B.length = (n - i) * 2) (hZ : (n + 1 - i) * 2 ≤ Z.length) :
    ((((A ++ Z).take (i * 2) ++ [u0, u1] ++ (A ++ Z).drop (i * 2 + 2)).take ((i + 1) * 2) ++ B ++ ((A ++ Z).take (i * 2) ++ [u0, u1] ++ (A ++ Z).drop (i * 2 + 2)).drop ((i + 1) * 2 + B.length)).take ((n + 1) * 2)) = A ++ [u0, u1] ++ B := by
  have e1 : (A ++ Z).take (i * 2) = A := List.take_left' hA
  have e2 : (A ++ [u0, u1] ++ (A ++ Z).drop (i * 2 + 2)).take ((i + 1) * 2) = A ++ [u0, u1] := List.take_left' (by simp only [List.length_append, List.length_cons, List.length_nil]; omega)
  rw [e1, e2]
  exact List.take_left' (by simp only [List.length_append, List.length_cons, List.length_nil]; omega)
theorem stpInfo : (Tryz.prog.info? 41).map (fun i => (i.zero, i.size, i.bytes)) = some (some (.agg #[.int .i64 0, .slice none 0 0]), 2, 32) := by kernel_rfl
theorem stpSize : (Tryz.prog.info? 41).map (·.size) = some 2 := by kernel_rfl

theorem overlaps_no (w : World) (b vb off lb cb : Nat) {cur : Array Value} {u0 u1 : Value} (hB : Blk w b 41 cur) (hV : Blk w vb 41 #[u0, u1]) (hne : vb ≠ b) (hs : cur.size ≠ 0) :
    (callFunc 25 #[.slice (some ⟨vb, 0, none⟩) 1 1, .slice (some ⟨b, off, none⟩) lb cb]).run Tryz.prog w = .ok (.value (.bool false)) w := by
  rw [run_callFunc_extern Tryz.func25 (by kernel_rfl) (by kernel_rfl) (by kernel_rfl) (e := Extern.SlicesOverlaps.overlaps #[32, 32] #[4]) (by kernel_rfl),
    Lib.run_overlaps_apart w 32 4 41 Tryz.underlying32 2 (fun w => by simp [Tryz.sizeOf41]) ⟨vb, 0, none⟩ ⟨b, off, none⟩ 1 1 lb cb hne 41 41 2 cur.size (by simp [World.shape?, show w.heap[vb]? = _ from hV]) (by simp [World.shape?, show w.heap[b]? = _ from hB]) hs (hV.frozen 0) (hV.frozen 2)]
  rfl
set_option maxRecDepth 100000 in
set_option maxHeartbeats 3200000 in
theorem insert_room (b n c i vb : Nat) (cur : Array Value) (u0 u1 : Value) (w : World) (hi : i < n) (hn9 : n ≤ 1000) (hroom : n + 1 ≤ c) (hc : c ≤ maxLen) (hne : vb ≠ b) (hB : Blk w b 41 cur) (hsz : cur.size = c * 2) (hV : Blk w vb 41 #[u0, u1])
    (h1 : ∀ v ∈ cur.toList.take (n * 2), v.oneCell' = true) (hu0 : u0.oneCell' = true) (hu1 : u1.oneCell' = true) :
    Calls Tryz.prog 11 #[.slice (some ⟨b, 0, none⟩) n c, .int .i64 i, .slice (some ⟨vb, 0, none⟩) 1 1] w fun e w' =>
      e = .returned (.slice (some ⟨b, 0, none⟩) (n + 1) c) ∧ (∃ cur' : Array Value, Blk w' b 41 cur' ∧ cur'.size = c * 2 ∧ cur'.toList.take ((n + 1) * 2) = (cur.toList.take (n * 2)).take (i * 2) ++ [u0, u1] ++ (cur.toList.take (n * 2)).drop (i * 2)) ∧ w.grownBy w' (some b) := by
  have hL : cur.toList.length = c * 2 := by rw [Array.length_toList]; exact hsz
  have hov := fun u (hu : Ext w u) off lb cb => overlaps_no u b vb off lb cb (hB.ext hu) (hV.ext hu) hne (by omega)
  have hov0 := hov w (Ext.refl _)
  have hfin := ins_room cur.toList u0 u1 hi (by omega)
  have hz2 : ¬ ((i : Int) = (n : Int)) := by omega
  have hz3 : ¬ ((c : Int) < (n : Int) + 1) := by omega
  have hb4 : ¬ (c = i) := by omega
  have hb2 : ¬ (c = i + 1) := by omega
  have hin : i ≤ n := by omega
  have hnc : n ≤ c := by omega
  have hw1 : IntKind.i64.wrap ((i : Int) + 1) = (i : Int) + 1 := by rw [IntKind.wrap_i64]; omega
  have htn : ((i : Int) + 1).toNat = i + 1 := by omega
  replace hfin := Lib.hid hfin
  replace hL := Lib.hid hL
  replace h1 := Lib.hid h1
  replace hsz := Lib.hid hsz
  clear hov
  go_enter Tryz.func11, Tryz.ntmps11
  go_upto_region 15 with (simp only [hov0])
  refine wp_region_planS [(0, true), (1, true), (2, true), (3, true), (4, true), (5, true), (6, true), (7, true)] 8 (fun w' => Blk w' b 41 cur ∧ Blk w' vb 41 #[u0, u1] ∧ Ext w w') Ext (by kernel_rfl) (by kernel_rfl) Ext.refl (fun _ _ _ => Ext.trans) (fun _ _ h he => ⟨h.1.ext he, h.2.1.ext he, h.2.2.trans he⟩) ⟨(by (repeat (with_reducible first | assumption | exact Blk.new' (by simp) | refine Blk.drew ?_ | refine Blk.alloc ?_ _ | exact Ext.refl _ | refine Ext.drew ?_ | refine Ext.alloc ?_ _))), (by (repeat (with_reducible first | assumption | exact Blk.new' (by simp) | refine Blk.drew ?_ | refine Blk.alloc ?_ _ | exact Ext.refl _ | refine Ext.drew ?_ | refine Ext.alloc ?_ _))), (by (repeat (with_reducible first | assumption | exact Blk.new' (by simp) | refine Blk.drew ?_ | refine Blk.alloc ?_ _ | exact Ext.refl _ | refine Ext.drew ?_ | refine Ext.alloc ?_ _)))⟩ ?_
  repeat
    first
      | (refine plan_quiet rfl rfl (fun _ _ _ _ h => h) ?_
         apply Exists.intro
         refine ⟨fun w' hw' => ?_, ?_⟩
         · obtain ⟨hHq0, hHq1, hHq2⟩ := hw'
           skip
           simp [go_sem, quietTo, Ext.refl, ↓IntWalk.iteOmega, hw1, htn]
           first
             | rfl
         simp only [Act.put, List.setIfInBounds_toArray, List.set_cons_succ, List.set_cons_zero])
      | (refine plan_skip rfl rfl (fun _ _ _ _ h => h) ?_
         simp only [Act.put, List.setIfInBounds_toArray, List.set_cons_succ, List.set_cons_zero])
  refine plan_nil fun wrq herq hwrq => ?_
  clear herq
  obtain ⟨hHq0, hHq1, hHq2⟩ := hwrq
  obtain ⟨hCq0, hFq0⟩ := hHq0.walk
  obtain ⟨hCq1, hFq1⟩ := hHq1.walk
  simp only [List.drop_succ_cons, List.drop_zero, List.drop_nil]
  have hcsL : ((cur.toList.drop (i * 2)).take ((n - i) * 2)).length = (n - i) * 2 := by rw [List.length_take, List.length_drop, hL.out]; omega
  have hmn : Nat.min (n + 1 - i) (n - i) = n - i := by show min (n + 1 - i) (n - i) = n - i; omega
  have hcs1 : ∀ v ∈ (cur.toList.drop (i * 2)).take ((n - i) * 2), v.oneCell' = true := fun v hv => h1.out v (List.mem_of_mem_drop (i := i * 2) (by rw [List.drop_take]; rw [show n * 2 - i * 2 = (n - i) * 2 by omega]; exact hv))
  have hsrc : ∀ j v, ((cur.toList.drop (i * 2)).take ((n - i) * 2))[j]? = some v → wrq.cell? ((⟨b, i * 2, none⟩ : Addr).add j) = some v := fun j v hj => by
    rw [Addr.add_lit, hHq0.cell]
    rw [List.getElem?_take] at hj
    split at hj
    · rw [List.getElem?_drop] at hj; simpa using hj
    · cases hj
  refine wpList_copyK _ rfl (.tmp 73) (.tmp 76) 32 32 rfl 41 b ((i + 1) * 2) (n - i) _ ⟨b, i * 2, none⟩ (n + 1 - i) _ 2 cur 41 ((cur.toList.drop (i * 2)).take ((n - i) * 2)) rfl rfl Tryz.underlying32 stpSize hHq0 (by rw [hcsL, hmn]) hsrc (by rw [hcsL]; have := hsz.out; omega) hcs1 ?_
  intro w1 hB1 hg1
  rw [hcsL] at hB1
  have hV1 : Blk w1 vb 41 #[u0, u1] := (hg1.block vb hHq1.lt (fun e => hne (by cases e; rfl))).trans hHq1
  have hL1 : (cur.toList.take ((i + 1) * 2) ++ (cur.toList.drop (i * 2)).take ((n - i) * 2) ++ cur.toList.drop ((i + 1) * 2 + (n - i) * 2)).length = c * 2 := by
    simp only [List.length_append, hcsL, List.length_take, List.length_drop, hL.out]; omega
  have hmn2 : Nat.min 1 (n + 1 - i) = 1 := by show min 1 (n + 1 - i) = 1; omega
  replace hL1 := Lib.hid hL1
  replace hmn2 := Lib.hid hmn2
  generalize cur.toList.take ((i + 1) * 2) ++ (cur.toList.drop (i * 2)).take ((n - i) * 2) ++ cur.toList.drop ((i + 1) * 2 + (n - i) * 2) = L1 at *
  have hs2 : ∀ j v, ([u0, u1] : List Value)[j]? = some v → w1.cell? ((⟨vb, 0, none⟩ : Addr).add j) = some v := fun j v hj => by
    rw [Addr.add_lit, hV1.cell]; simpa using hj
  replace hs2 := Lib.hid hs2
  clear hsrc hcs1
  have hB2 := setRow_heap w1 b L1.toArray (L1.toArray.toList.take (i * 2) ++ [u0, u1] ++ L1.toArray.toList.drop (i * 2 + 2)).toArray 41 (0, 0) hB1
  have hg2 : w1.grownBy (w1.setRow b (L1.toArray.toList.take (i * 2) ++ [u0, u1] ++ L1.toArray.toList.drop (i * 2 + 2)).toArray) (some b) := grown_row
  have hcp2 : (Builtin.copy_ #[32, 32] 3 #[.slice (some ⟨b, i * 2, none⟩) (n + 1 - i) (c - i), .slice (some ⟨vb, 0, none⟩) 1 1]).run Tryz.prog w1 = .ok (goInt 1) (w1.setRow b (L1.toArray.toList.take (i * 2) ++ [u0, u1] ++ L1.toArray.toList.drop (i * 2 + 2)).toArray) := by
    have h9 := run_copyK (P := Tryz.prog) w1 32 32 3 41 b (i * 2) (n + 1 - i) (c - i) ⟨vb, 0, none⟩ 1 1 2 L1.toArray 41 [u0, u1] Tryz.underlying32 stpSize hB1 (by rw [hmn2.out]; rfl) hs2.out (by have := hL1.out; simp; omega) (fun v hv => by rcases List.mem_cons.1 hv with rfl | hv; exact hu0; rw [List.mem_singleton.1 hv]; exact hu1)
    rw [hmn2.out] at h9
    exact h9
  generalize w1.setRow b (L1.toArray.toList.take (i * 2) ++ [u0, u1] ++ L1.toArray.toList.drop (i * 2 + 2)).toArray = w2 at *
  go_wp2
  go_ret
  refine ⟨rfl, ⟨_, hB2, ?_, ?_⟩, ?_⟩
  · have := hL1.out; simp; omega
  · have := hfin.out; simpa using this
  · have e1 : w.grownBy w1 (some b) := ⟨hg1.os.trans hHq2.os, hg1.tape.trans hHq2.tape, hg1.output.trans hHq2.output, Nat.le_trans hHq2.size hg1.size, fun k hk hr => (hg1.block k (Nat.lt_of_lt_of_le hk hHq2.size) hr).trans (hHq2.block k hk)⟩
    exact ⟨hg2.os.trans e1.os, hg2.tape.trans e1.tape, hg2.output.trans e1.output, Nat.le_trans e1.size hg2.size, fun k hk hr => (hg2.block k (Nat.lt_of_lt_of_le hk e1.size) hr).trans (e1.block k hk hr)⟩
set_option maxRecDepth 100000 in
set_option maxHeartbeats 3200000 in
theorem insert_grow (b n c i vb : Nat) (cur : Array Value) (u0 u1 : Value) (w : World) (hi : i < n) (hnc : n ≤ c) (hroom : c < n + 1) (hc : c ≤ 1000000) (hB : Blk w b 41 cur) (hsz : cur.size = c * 2) (hV : Blk w vb 41 #[u0, u1])
    (h1 : ∀ v ∈ cur.toList.take (n * 2), v.oneCell' = true) (hu0 : u0.oneCell' = true) (hu1 : u1.oneCell' = true) :
    Calls Tryz.prog 11 #[.slice (some ⟨b, 0, none⟩) n c, .int .i64 i, .slice (some ⟨vb, 0, none⟩) 1 1] w fun e w' =>
      ∃ g G, e = .returned (.slice (some ⟨g, 0, none⟩) (n + 1) G) ∧ w.heap.size ≤ g ∧ n + 1 ≤ G ∧ G ≤ maxLen ∧ (∃ cur' : Array Value, Blk w' g 41 cur' ∧ cur'.size = G * 2 ∧ cur'.toList.take ((n + 1) * 2) = (cur.toList.take (n * 2)).take (i * 2) ++ [u0, u1] ++ (cur.toList.take (n * 2)).drop (i * 2)) ∧ Ext w w' := by
  have hL : cur.toList.length = c * 2 := by rw [Array.length_toList]; exact hsz
  have hBl := hB.lt
  have hVl := hV.lt
  obtain ⟨i0, hi0, hz0, hz1, hzb⟩ := info_parts stpInfo
  have hAl : (cur.toList.take (i * 2)).length = i * 2 := by rw [List.length_take, hL]; omega
  have hcsl : ((cur.toList.take (n * 2)).drop (i * 2)).length = (n - i) * 2 := by rw [List.length_drop, List.length_take, hL]; omega
  have hold : (Builtin.firstCells i0.size i (.slice (some ⟨b, 0, none⟩) i c)).run Tryz.prog w.drew = .ok (cur.toList.take (i * 2)).toArray w.drew := by
    rw [hz1]
    exact run_firstCells_some w.drew 2 i ⟨b, 0, none⟩ i c (cur.toList.take (i * 2)) hAl (fun j v hj => by
      rw [Addr.add_lit, hB.drew.cell]
      rw [List.getElem?_take] at hj
      split at hj
      · simpa using hj
      · cases hj)
  have hik : i + (n + 1 - i) = n + 1 := by omega
  have hrz : (Builtin.append_ #[32, 3] 32 #[.slice (some ⟨b, 0, none⟩) i c, .int .i64 ((n : Int) + 1 - (i : Int))]).run Tryz.prog w =
      .ok (.slice (some ⟨w.heap.size, 0, none⟩) (n + 1) (grownCap w (n + 1) c 41)) (w.drew.alloc (.cells ((cur.toList.take (i * 2)).toArray ++ Builtin.zeroCells (Value.agg #[.int .i64 0, .slice none 0 0]).cells (n + 1 - i) ++ Builtin.zeroCells (Value.agg #[.int .i64 0, .slice none 0 0]).cells (grownCap w (n + 1) c 41 - (n + 1))) 41)) := by
    have h := Lib.run_append_grow_zeros (P := Tryz.prog) w 32 3 32 41 i0 _ .i64 .i64 Tryz.underlying32 Tryz.underlying3 hi0 hz0 (some ⟨b, 0, none⟩) i c (cur.toList.take (i * 2)) hold (n + 1 - i) (by omega) (by omega) (by omega) (by omega) (by rw [hzb]; omega) (by rw [hzb, hik]; exact growslice_fits (by omega) (by omega))
    rw [hik] at h
    rw [show (n : Int) + 1 - (i : Int) = ((n + 1 - i : Nat) : Int) by omega]
    exact h
  have hGn : n + 1 ≤ grownCap w (n + 1) c 41 := grownCap_ge w _ _ _
  have hG63 : grownCap w (n + 1) c 41 ≤ maxLen := grownCap_le_maxLen w (n + 1) c 41 (by unfold maxLen; omega)
  have hcsB : (cur.toList.take (n * 2)).drop (i * 2) = (cur.toList.drop (i * 2)).take ((n - i) * 2) := by rw [List.drop_take, show n * 2 - i * 2 = (n - i) * 2 by omega]
  have hzc : ∀ k, (Builtin.zeroCells (Value.agg #[.int .i64 0, .slice none 0 0]).cells k).size = k * 2 := fun k => by simp [Builtin.zeroCells, Value.cells]
  obtain ⟨Zz, hZ⟩ : ∃ Zz : List Value, ((cur.toList.take (i * 2)).toArray ++ Builtin.zeroCells (Value.agg #[.int .i64 0, .slice none 0 0]).cells (n + 1 - i) ++ Builtin.zeroCells (Value.agg #[.int .i64 0, .slice none 0 0]).cells (grownCap w (n + 1) c 41 - (n + 1))) = (cur.toList.take (i * 2) ++ Zz).toArray ∧ Zz.length = (n + 1 - i) * 2 + (grownCap w (n + 1) c 41 - (n + 1)) * 2 :=
    ⟨(Builtin.zeroCells (Value.agg #[.int .i64 0, .slice none 0 0]).cells (n + 1 - i)).toList ++ (Builtin.zeroCells (Value.agg #[.int .i64 0, .slice none 0 0]).cells (grownCap w (n + 1) c 41 - (n + 1))).toList, by apply Array.ext'; simp, by rw [List.length_append, Array.length_toList, Array.length_toList, hzc, hzc]⟩
  obtain ⟨hZ, hZl⟩ := hZ
  rw [hZ] at hrz
  have hfin := ins_grow (cur.toList.take (i * 2)) Zz ((cur.toList.take (n * 2)).drop (i * 2)) (i := i) (n := n) u0 u1 hi hAl hcsl (by omega)
  generalize grownCap w (n + 1) c 41 = G at *
  have hR1 : Blk (w.drew.alloc (.cells (cur.toList.take (i * 2) ++ Zz).toArray 41)) w.heap.size 41 (cur.toList.take (i * 2) ++ Zz).toArray := Blk.new' (w := w.drew) rfl
  have hE1 : Ext w (w.drew.alloc (.cells (cur.toList.take (i * 2) ++ Zz).toArray 41)) := (Ext.refl w).drew.alloc _
  have hRl : (cur.toList.take (i * 2) ++ Zz).length = G * 2 := by rw [List.length_append, hAl, hZl]; omega
  generalize hR0 : cur.toList.take (i * 2) ++ Zz = R0 at *
  have hmn2 : Nat.min 1 (n + 1 - i) = 1 := by show min 1 (n + 1 - i) = 1; omega
  have hg : w.heap.size ≤ w.heap.size := Nat.le_refl _
  generalize w.drew.alloc (.cells R0.toArray 41) = w1 at *
  generalize hgd : w.heap.size = g at *
  have hB1 := hB.ext hE1
  have hV1 := hV.ext hE1
  have hs2 : ∀ j v, ([u0, u1] : List Value)[j]? = some v → w1.cell? ((⟨vb, 0, none⟩ : Addr).add j) = some v := fun j v hj => by
    rw [Addr.add_lit, hV1.cell]; simpa using hj
  have hR2 := setRow_heap w1 g R0.toArray (R0.toArray.toList.take (i * 2) ++ [u0, u1] ++ R0.toArray.toList.drop (i * 2 + 2)).toArray 41 (0, 0) hR1
  have hg2 : w1.grownBy (w1.setRow g (R0.toArray.toList.take (i * 2) ++ [u0, u1] ++ R0.toArray.toList.drop (i * 2 + 2)).toArray) (some g) := grown_row
  have hcp2 : (Builtin.copy_ #[32, 32] 3 #[.slice (some ⟨g, i * 2, none⟩) (n + 1 - i) (G - i), .slice (some ⟨vb, 0, none⟩) 1 1]).run Tryz.prog w1 = .ok (goInt 1) (w1.setRow g (R0.toArray.toList.take (i * 2) ++ [u0, u1] ++ R0.toArray.toList.drop (i * 2 + 2)).toArray) := by
    have h9 := run_copyK (P := Tryz.prog) w1 32 32 3 41 g (i * 2) (n + 1 - i) (G - i) ⟨vb, 0, none⟩ 1 1 2 R0.toArray 41 [u0, u1] Tryz.underlying32 stpSize hR1 (by rw [hmn2]; rfl) hs2 (by simp; omega) (fun v hv => by rcases List.mem_cons.1 hv with rfl | hv; exact hu0; rw [List.mem_singleton.1 hv]; exact hu1)
    rw [hmn2] at h9
    exact h9
  have hE2 : Ext w (w1.setRow g (R0.toArray.toList.take (i * 2) ++ [u0, u1] ++ R0.toArray.toList.drop (i * 2 + 2)).toArray) := hE1.grown hg2 fun k e => by cases e; exact Nat.le_of_eq hgd
  have hbg : b ≠ g := by omega
  have hR1l : (R0.toArray.toList.take (i * 2) ++ [u0, u1] ++ R0.toArray.toList.drop (i * 2 + 2)).length = G * 2 := by simp; omega
  replace hfin : ((((R0.toArray.toList.take (i * 2) ++ [u0, u1] ++ R0.toArray.toList.drop (i * 2 + 2)).take ((i + 1) * 2) ++ (cur.toList.take (n * 2)).drop (i * 2) ++ (R0.toArray.toList.take (i * 2) ++ [u0, u1] ++ R0.toArray.toList.drop (i * 2 + 2)).drop ((i + 1) * 2 + ((cur.toList.take (n * 2)).drop (i * 2)).length)).take ((n + 1) * 2)) = cur.toList.take (i * 2) ++ [u0, u1] ++ (cur.toList.take (n * 2)).drop (i * 2)) := by simpa using hfin
  generalize R0.toArray.toList.take (i * 2) ++ [u0, u1] ++ R0.toArray.toList.drop (i * 2 + 2) = R1 at *
  generalize w1.setRow g R1.toArray = w2 at *
  have hB2 := (hg2.block b (Nat.lt_of_lt_of_le hB.lt hE1.size) (fun e => hbg (by cases e; rfl))).trans hB1
  replace hR2 : Blk w2 g 41 R1.toArray := hR2
  replace hB2 : Blk w2 b 41 cur := hB2
  have hz2 : ¬ ((i : Int) = (n : Int)) := by omega
  have hz3 : (c : Int) < (n : Int) + 1 := by omega
  have hb4 : ¬ (c = i) := by omega
  have hGi : ¬ (G = i) := by omega
  have hGim : ¬ (G = i + 1) := by omega
  have hin : i ≤ n := by omega
  have hb3 : (i : Int) ≤ (n : Int) := by omega
  have hw1 : IntKind.i64.wrap ((i : Int) + 1) = (i : Int) + 1 := by rw [IntKind.wrap_i64]; omega
  have htn : ((i : Int) + 1).toNat = i + 1 := by omega
  replace hfin := Lib.hid hfin
  replace hL := Lib.hid hL
  replace h1 := Lib.hid h1
  replace hsz := Lib.hid hsz
  replace hR1l := Lib.hid hR1l
  replace hcsl := Lib.hid hcsl
  replace hcsB := Lib.hid hcsB
  replace hgd := Lib.hid hgd
  clear hzc hZl hAl hold hik hR0 hRl hR1 hE1 hB1 hs2 hV1 hg
  go_enter Tryz.func11, Tryz.ntmps11
  go_upto_region 11 with (at_builtin; go_loud (refine Lib.wpList_append_run _ rfl _ _ _ _ rfl _ _ rfl rfl _ _ hrz ?_))
  refine wp_region_planS [(0, true), (1, true), (2, true), (3, true), (4, true), (5, true), (6, true), (7, true)] 8 (fun w' => Blk w' g 41 R1.toArray ∧ Blk w' b 41 cur ∧ Ext w w') Ext (by kernel_rfl) (by kernel_rfl) Ext.refl (fun _ _ _ => Ext.trans) (fun _ _ h he => ⟨h.1.ext he, h.2.1.ext he, h.2.2.trans he⟩) ⟨(by (repeat (with_reducible first | assumption | exact Blk.new' (by simp) | refine Blk.drew ?_ | refine Blk.alloc ?_ _ | exact Ext.refl _ | refine Ext.drew ?_ | refine Ext.alloc ?_ _))), (by (repeat (with_reducible first | assumption | exact Blk.new' (by simp) | refine Blk.drew ?_ | refine Blk.alloc ?_ _ | exact Ext.refl _ | refine Ext.drew ?_ | refine Ext.alloc ?_ _))), (by (repeat (with_reducible first | assumption | exact Blk.new' (by simp) | refine Blk.drew ?_ | refine Blk.alloc ?_ _ | exact Ext.refl _ | refine Ext.drew ?_ | refine Ext.alloc ?_ _)))⟩ ?_
  repeat
    first
      | (refine plan_quiet rfl rfl (fun _ _ _ _ h => h) ?_
         apply Exists.intro
         refine ⟨fun w' hw' => ?_, ?_⟩
         · obtain ⟨hHq0, hHq1, hHq2⟩ := hw'
           skip
           simp [go_sem, quietTo, Ext.refl, ↓IntWalk.iteOmega, hw1, htn]
           first
             | rfl
         simp only [Act.put, List.setIfInBounds_toArray, List.set_cons_succ, List.set_cons_zero])
      | (refine plan_skip rfl rfl (fun _ _ _ _ h => h) ?_
         simp only [Act.put, List.setIfInBounds_toArray, List.set_cons_succ, List.set_cons_zero])
  refine plan_nil fun wrq herq hwrq => ?_
  clear herq
  obtain ⟨hHq0, hHq1, hHq2⟩ := hwrq
  obtain ⟨hCq0, hFq0⟩ := hHq0.walk
  obtain ⟨hCq1, hFq1⟩ := hHq1.walk
  simp only [List.drop_succ_cons, List.drop_zero, List.drop_nil]
  have hmn : Nat.min (n - i) (n - i) = n - i := by show min (n - i) (n - i) = n - i; omega
  have hcs1 : ∀ v ∈ (cur.toList.take (n * 2)).drop (i * 2), v.oneCell' = true := fun v hv => h1.out v (List.mem_of_mem_drop hv)
  have hsrc : ∀ j v, ((cur.toList.take (n * 2)).drop (i * 2))[j]? = some v → wrq.cell? ((⟨b, i * 2, none⟩ : Addr).add j) = some v := fun j v hj => by
    rw [Addr.add_lit, hHq1.cell]
    rw [List.getElem?_drop, List.getElem?_take] at hj
    split at hj
    · simpa using hj
    · cases hj
  refine wpList_copyK _ rfl (.tmp 50) (.tmp 53) 32 32 rfl 41 g ((i + 1) * 2) (n - i) _ ⟨b, i * 2, none⟩ (n - i) _ 2 R1.toArray 41 ((cur.toList.take (n * 2)).drop (i * 2)) rfl rfl Tryz.underlying32 stpSize hHq0 (by rw [hcsl.out, hmn]) hsrc (by rw [hcsl.out]; have := hR1l.out; simp; omega) hcs1 ?_
  intro w3 hB3 hg3
  have hE3 : Ext w w3 := hHq2.grown hg3 fun k e => by cases e; exact Nat.le_of_eq hgd.out
  clear hsrc hcs1
  go_wp2
  go_ret
  have hfin' := hfin.out
  have hR1' := hR1l.out
  have hcsl' := hcsl.out
  refine ⟨g, G, rfl, Nat.le_refl _, hGn, hG63, ⟨_, hB3, ?_, ?_⟩, hE3⟩
  · simp; omega
  · rw [show (cur.toList.take (n * 2)).take (i * 2) = cur.toList.take (i * 2) by rw [List.take_take, Nat.min_eq_left (by omega)]]
    simpa using hfin'
/-- One step put into an own row. -/
theorem insert_any {w : World} {base b n c i vb : Nat} {xs : List Value} {u0 u1 : Value} (hown : w.ownsRow base 41 2 (.slice (some ⟨b, 0, none⟩) n c) n xs) (hn9 : n ≤ 1000) (hbw : base ≤ w.heap.size) (hi : i < n) (hne : vb ≠ b) (hV : Blk w vb 41 #[u0, u1]) (h1 : ∀ v ∈ xs, v.oneCell' = true) (hu0 : u0.oneCell' = true) (hu1 : u1.oneCell' = true) :
    Calls Tryz.prog 11 #[.slice (some ⟨b, 0, none⟩) n c, .int .i64 i, .slice (some ⟨vb, 0, none⟩) 1 1] w fun e w' =>
      ∃ g G, e = .returned (.slice (some ⟨g, 0, none⟩) (n + 1) G) ∧ w'.ownsRow base 41 2 (.slice (some ⟨g, 0, none⟩) (n + 1) G) (n + 1) (xs.take (i * 2) ++ [u0, u1] ++ xs.drop (i * 2)) ∧ w.grownBy w' (some b) ∧ (w.heap.size ≤ g ∨ g = b) := by
  obtain ⟨hxl, ⟨h, -⟩ | ⟨g, cap, cur, h, hg, hB, hnc, hcm, hsz, htk⟩⟩ := hown
  · cases h
  cases h
  have hlen : (xs.take (i * 2) ++ [u0, u1] ++ xs.drop (i * 2)).length = (n + 1) * 2 := by simp only [List.length_append, List.length_take, List.length_drop, List.length_cons, List.length_nil]; omega
  subst htk
  by_cases hroom : n + 1 ≤ c
  · refine (insert_room b n c i vb cur u0 u1 w hi hn9 hroom hcm hne hB hsz hV h1 hu0 hu1).mono fun e w' h => ?_
    obtain ⟨rfl, ⟨cur', hB', hs', ht'⟩, hgr⟩ := h
    exact ⟨b, c, rfl, ⟨hlen, .inr ⟨b, c, cur', rfl, hg, hB', hroom, hcm, hs', ht'⟩⟩, hgr, .inr rfl⟩
  · refine (insert_grow b n c i vb cur u0 u1 w hi hnc (by omega) (by omega) hB hsz hV h1 hu0 hu1).mono fun e w' h => ?_
    obtain ⟨g, G, rfl, hgw, hGn, hGm, ⟨cur', hB', hs', ht'⟩, hE⟩ := h
    exact ⟨g, G, rfl, ⟨hlen, .inr ⟨g, G, cur', rfl, Nat.le_trans hbw hgw, hB', hGn, hGm, hs', ht'⟩⟩, ⟨hE.os, hE.tape, hE.output, hE.size, fun k hk _ => hE.block k hk⟩, .inl hgw⟩
end Go.Proofs.YtapjekpjekdlkaaGreatDoor
