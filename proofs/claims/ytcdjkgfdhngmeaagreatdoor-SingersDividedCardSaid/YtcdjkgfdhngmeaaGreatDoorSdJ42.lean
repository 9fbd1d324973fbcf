/- The document's faults of a division; a truth as a number; the plain fold of its search. Conditions: sizes. The memory of the document's search for divisions. Conditions: as each theorem says. A division that the document's search tries: all singers have a part. Conditions: as the theorem says. -/
import Derived.Test.YtcdjkgfdhngmeaaGreatDoorSdDvN
import Derived.Test.YtcdjkgfdhngmeaaGreatDoorSdJ10
set_option linter.unusedSimpArgs false
set_option linter.unusedVariables false
namespace Go.Proofs.YtcdjkgfdhngmeaaGreatDoor
open Go Go.RowKit

set_option maxRecDepth 100000 in
theorem truth_any (b : Bool) (w : World) : Calls Tryz.prog 60 #[.bool b] w fun e w' => e = .returned (.int .i64 (if b then 1 else 0)) ∧ Ext w w' := by
  cases b
  all_goals
    go_enter Tryz.func60, Tryz.ntmps60
    go_wp2
    go_ret
    exact ⟨rfl, Ext.refl _⟩
/-- One singer more: the search tries the parts one after the other. -/
theorem fold_more {σ : Type} (step : σ → List Nat → σ) (n : Nat) (r : List Int) (C : List (List Int)) (g : List Nat) (st : σ) :
    (enumL n (r :: C)).foldl (fun st g' => step st (g ++ g')) st = (List.range n).foldl (fun st p => if r.getD p (-1) < 0 then st else (enumL n C).foldl (fun st g' => step st (g ++ [p] ++ g')) st) st := by
  simp only [enumL]
  rw [List.foldl_flatMap]
  congr 1
  funext st p
  split
  · rfl
  · rw [List.foldl_map]
    simp only [List.append_assoc, List.singleton_append]
theorem fold_snoc {σ : Type} (f : σ → Nat → σ) (n : Nat) (st : σ) : (List.range (n + 1)).foldl f st = f ((List.range n).foldl f st) n := by
  rw [List.range_succ, List.foldl_append]; rfl
/-- What the document says is wrong with a division of right voices and parts. -/
def divF (V : List VoiceV) (P : List PartV) (t : Int) : Int := if momB t then (if (singersL V t).length ≤ 24 ∧ P.length ≤ 4 then 0 else 2) else 1
theorem errV_div (V : List VoiceV) (P : List PartV) (t : Int) (h1 : voicesF V = 0) (h2 : partsF P = 0) : errV V P t = divF V P t := by
  have hb : bothF V P = 0 := by unfold bothF; rw [if_pos h1, h2]
  unfold errV errL divF
  rw [if_pos hb]
  cases momB t
  · rfl
  · simp only [if_true]
set_option maxRecDepth 100000 in
set_option maxHeartbeats 1600000 in
theorem divideFault_any {w : World} {vp pp : Option Addr} {vc pc : Nat} {V : List VoiceV} {P : List PartV} (h : VpM w vp vc V pp pc P) (t : Int) :
    Calls Tryz.prog 10 #[.slice vp V.length vc, .slice pp P.length pc, .int .i64 t] w fun e w' => e = .returned (.int .i64 (divF V P t)) ∧ Ext w w' := by
  have hm := fun u => momF_any t u
  have hso := fun u (hu : Ext w u) => singersOf_any vp V.length vc V t u (h.voi.ext hu).1 h.sV h.nV
  unfold divF
  cases hb : momB t
  · simp only [hb] at hm
    replace hm := Lib.hid hm
    clear hso h
    go_enter Tryz.func10, Tryz.ntmps10
    go_wp2_with (go_at_call 24; (with_reducible refine Calls.mono (hm.out _) ?_); rintro e w1 ⟨rfl, hb1⟩; simp only [Bool.false_eq_true, if_false])
    go_ret
    exact ⟨rfl, hb1⟩
  · simp only [hb] at hm
    generalize singersL V t = S at *
    replace hm := Lib.hid hm
    replace hso := Lib.hid hso
    clear h hb
    simp only [if_true]
    by_cases h1 : S.length ≤ 24
    · by_cases h2 : P.length ≤ 4
      · rw [if_pos ⟨h1, h2⟩]
        have h3 : ¬ (24 : Int) < S.length := by omega
        have h4 : ¬ (4 : Int) < P.length := by omega
        go_enter Tryz.func10, Tryz.ntmps10
        go_wp2_with (first
          | (go_at_call 24; (with_reducible refine Calls.mono (hm.out _) ?_); rintro e w1 ⟨rfl, hb1⟩; simp only [if_true])
          | (go_at_call 33; (with_reducible refine Calls.mono (hso.out _ hb1) ?_); rintro e w2 ⟨q, d, rfl, ho2, hb2⟩))
        go_ret
        exact ⟨rfl, hb1.trans hb2⟩
      · rw [if_neg (fun h => h2 h.2)]
        have h3 : ¬ (24 : Int) < S.length := by omega
        have h4 : (4 : Int) < P.length := by omega
        go_enter Tryz.func10, Tryz.ntmps10
        go_wp2_with (first
          | (go_at_call 24; (with_reducible refine Calls.mono (hm.out _) ?_); rintro e w1 ⟨rfl, hb1⟩; simp only [if_true])
          | (go_at_call 33; (with_reducible refine Calls.mono (hso.out _ hb1) ?_); rintro e w2 ⟨q, d, rfl, ho2, hb2⟩))
        go_ret
        exact ⟨rfl, hb1.trans hb2⟩
    · rw [if_neg (fun h => h1 h.1)]
      have h3 : (24 : Int) < S.length := by omega
      go_enter Tryz.func10, Tryz.ntmps10
      go_wp2_with (first
        | (go_at_call 24; (with_reducible refine Calls.mono (hm.out _) ?_); rintro e w1 ⟨rfl, hb1⟩; simp only [if_true])
        | (go_at_call 33; (with_reducible refine Calls.mono (hso.out _ hb1) ?_); rintro e w2 ⟨q, d, rfl, ho2, hb2⟩))
      go_ret
      exact ⟨rfl, hb1.trans hb2⟩
end Go.Proofs.YtcdjkgfdhngmeaaGreatDoor

namespace Go.Proofs.YtcdjkgfdhngmeaaGreatDoor
open Go Go.RowKit

/-- All that was there stands, but for two cells and rows of rows made since. -/
def KeepD (z bm bb : Nat) (w w' : World) : Prop := w'.os = w.os ∧ w'.tape = w.tape ∧ w'.output = w.output ∧ w.heap.size ≤ w'.heap.size ∧ ∀ j, j < w.heap.size → j ≠ bm → j ≠ bb → (j < z ∨ ∀ cs, ¬ Blk w j 22 cs) → w'.heap[j]? = w.heap[j]?
section
variable {z bm bb : Nat} {u v w : World}
theorem KeepD.refl (w : World) : KeepD z bm bb w w := ⟨rfl, rfl, rfl, Nat.le_refl _, fun _ _ _ _ _ => rfl⟩
theorem KeepD.trans (h : KeepD z bm bb u v) (k : KeepD z bm bb v w) : KeepD z bm bb u w :=
  ⟨k.1.trans h.1, k.2.1.trans h.2.1, k.2.2.1.trans h.2.2.1, Nat.le_trans h.2.2.2.1 k.2.2.2.1, fun j hj h1 h2 h3 => by
    have e := h.2.2.2.2 j hj h1 h2 h3
    refine (k.2.2.2.2 j (Nat.lt_of_lt_of_le hj h.2.2.2.1) h1 h2 (h3.imp id fun h4 cs hB => h4 cs ?_)).trans e
    unfold Blk at hB ⊢
    rw [← e]; exact hB⟩
theorem Ext.keepD (h : Ext u v) : KeepD z bm bb u v := ⟨h.os, h.tape, h.output, h.size, fun j hj _ _ _ => h.block j hj⟩
theorem KeepD.set (w : World) {p : Addr} (hp : p.block = bm ∨ p.block = bb) (x : Value) : KeepD z bm bb w (w.setCell p x) :=
  ⟨rfl, rfl, rfl, by simp, fun j _ h1 h2 _ => Below.heap_setCell w p x j (by rcases hp with h | h <;> omega)⟩
theorem KeepD.app {k n : Nat} {x : Value} {xs : List Value} (ho : u.ownsRow z 22 k x n xs) (hg : u.grownBy v x.ownBlock) : KeepD z bm bb u v :=
  ⟨hg.os, hg.tape, hg.output, hg.size, fun j hj _ _ h3 => hg.block j hj fun e => by
    rcases ho.2 with ⟨rfl, _⟩ | ⟨b, cap, cur, rfl, h4, h5, _⟩
    · simp [Value.ownBlock] at e
    · have e2 : j = b := by simpa [Value.ownBlock] using e
      subst e2
      rcases h3 with h3 | h3
      · omega
      · exact h3 cur h5⟩
theorem KeepD.back {w0 : World} (h : Ext w0 u) (hz : w0.heap.size ≤ z) (hm : w0.heap.size ≤ bm) (hb : w0.heap.size ≤ bb) (k : KeepD z bm bb u v) : Ext w0 v :=
  ⟨k.1.trans h.os, k.2.1.trans h.tape, k.2.2.1.trans h.output, Nat.le_trans h.size k.2.2.2.1, fun j hj => (k.2.2.2.2 j (Nat.lt_of_lt_of_le hj h.size) (by omega) (by omega) (.inl (by omega))).trans (h.block j hj)⟩
theorem KeepD.blk (k : KeepD z bm bb u v) {g t : Nat} {cs : Array Value} (h : Blk u g t cs) (h1 : g ≠ bm) (h2 : g ≠ bb) (h3 : t ≠ 22) : Blk v g t cs :=
  (k.2.2.2.2 g h.lt h1 h2 (.inr fun cs' hB => by
    unfold Blk at h hB
    rw [h] at hB
    simp at hB
    exact h3 hB.2)).trans h
/-- A row of numbers of the call's own stands. -/
theorem KeepD.own (k : KeepD z bm bb u v) {m n : Nat} {x : Value} {xs : List Value} (h : u.ownsRow z 3 m x n xs) (hm : bm < z) (hb : bb < z) : v.ownsRow z 3 m x n xs :=
  ⟨h.1, h.2.imp id fun ⟨g, cap, cur, x1, x2, x3, x4⟩ => ⟨g, cap, cur, x1, x2, k.blk x3 (by omega) (by omega) (by decide), x4⟩⟩
end
/-- The variables of the search: the greatest sum so far, and the divisions with it. -/
structure TryD (w0 : World) (z bw bc bm bb : Nat) (cw cc : Value) (st : List (List Nat) × Int) (w : World) : Prop where
  ext : Ext w0 w
  who : Blk w bw 39 #[cw]
  fn : Blk w bc 107 #[cc]
  most : Blk w bm 3 #[.int .i64 st.2]
  best : ∃ v, Blk w bb 81 #[v] ∧ OwnRows 22 3 natC w z v st.1
  low : w0.heap.size ≤ bm ∧ w0.heap.size ≤ bb ∧ w0.heap.size ≤ z
  lt : bw < z ∧ bc < z ∧ bm < z ∧ bb < z
  size : z ≤ w.heap.size
section
variable {w0 w w' : World} {z bw bc bm bb : Nat} {cw cc : Value} {st : List (List Nat) × Int}
theorem TryD.more (h : TryD w0 z bw bc bm bb cw cc st w) (he : Ext w w') : TryD w0 z bw bc bm bb cw cc st w' :=
  ⟨h.ext.trans he, h.who.ext he, h.fn.ext he, h.most.ext he, let ⟨v, a, b⟩ := h.best; ⟨v, a.ext he, b.ext he⟩, h.low, h.lt, Nat.le_trans h.size he.size⟩
end
end Go.Proofs.YtcdjkgfdhngmeaaGreatDoor

namespace Go.Proofs.YtcdjkgfdhngmeaaGreatDoor
open Go Go.RowKit

def valP (P : List PartV) (g : List Nat) (p : Nat) : Bool := inB (cntG g p) (leastP P p) (mostP P p)
theorem valid_all {P : List PartV} {g : List Nat} (hP : P.length ≤ 4) : validG P [0, 0, 0, 0] g = (List.range P.length).all (valP P g) := by
  unfold validG
  rw [Bool.eq_iff_iff, List.all_eq_true, List.all_eq_true]
  have h0 : ∀ p, p < P.length → ([0, 0, 0, 0] : List Nat).getD p 0 = 0 := fun p hp => by
    have : p = 0 ∨ p = 1 ∨ p = 2 ∨ p = 3 := by omega
    rcases this with rfl | rfl | rfl | rfl <;> rfl
  constructor
  · intro h p hp
    have := h p hp
    rw [h0 p (List.mem_range.1 hp), Nat.zero_add] at this
    simp only [Bool.and_eq_true, decide_eq_true_eq] at this
    exact inB_iff.2 this
  · intro h p hp
    have := inB_iff.1 (h p hp)
    rw [h0 p (List.mem_range.1 hp), Nat.zero_add]
    simp only [Bool.and_eq_true, decide_eq_true_eq]
    exact this
theorem cnt_take {g : List Nat} {j k x : Nat} (h : g[j]? = some x) : cntG (g.take (j + 1)) k = cntG (g.take j) k + if x = k then 1 else 0 := by
  rw [take_snocL h]
  unfold cntG
  rw [List.filter_append, List.length_append]
  by_cases e : x = k
  · simp [e]
  · simp [e]
theorem cnt_le (g : List Nat) (k : Nat) : cntG g k ≤ g.length := List.length_filter_le ..
set_option maxRecDepth 100000 in
set_option maxHeartbeats 6400000 in
theorem try_parts {w0 w : World} {z bw bl bt bp bc bm bb : Nat} {cw cc : Value} {P : List PartV} {pp : Option Addr} {pc : Nat} {st : List (List Nat) × Int} (h : TryD w0 z bw bc bm bb cw cc st w) (hp : Blk w0 bp 28 #[.slice pp P.length pc]) (hpar : Slc 5 partC w0 pp P.length pc P) (hsP : ∀ x ∈ P, x.Small) (hP4 : P.length ≤ 4)
    {S : List ByteArray} {sp : Option Addr} {sc : Nat} (hcw : cw = .slice sp S.length sc) {g : List Nat} {gp : Option Addr} {gc : Nat} (hg : Slc 1 natC w gp g.length gc g) (hgl : g.length = S.length) (hS : S.length ≤ 200) (hgx : ∀ x ∈ g, x ≤ 1000) (s : Int) (hno : (List.range P.length).all (valP P g) = false) :
    Calls Tryz.prog 56 #[.slice gp g.length gc, .int .i64 s, .pointer (some ⟨bw, 0, none⟩), .pointer (some ⟨bl, 0, none⟩), .pointer (some ⟨bt, 0, none⟩), .pointer (some ⟨bp, 0, none⟩), .pointer (some ⟨bc, 0, none⟩), .pointer (some ⟨bm, 0, none⟩), .pointer (some ⟨bb, 0, none⟩)] w fun e w' => e = .returned (.tuple #[]) ∧ Ext w w' := by
  have hpw := hp.ext h.ext
  have hparw := hpar.ext h.ext
  have hwho := h.who
  subst hcw
  obtain ⟨z1, -⟩ := hwho.walk
  have z1l := hwho.lt
  obtain ⟨z2, -⟩ := hpw.walk
  have z2l := hpw.lt
  have hlI : ¬ (g.length : Int) < S.length := by omega
  obtain ⟨q, hqP, hqv⟩ : ∃ q, q < P.length ∧ valP P g q = false := by
    rw [List.all_eq_false] at hno
    obtain ⟨q, hq, e⟩ := hno
    exact ⟨q, List.mem_range.1 hq, by simpa using e⟩
  clear h hp hpar hno
  replace hqv := Lib.hid hqv
  go_enter Tryz.func56, Tryz.ntmps56
  go_wp2
  go_loopw [63] (fun v63 wr => ∃ k : Nat, v63 = .int .i64 k ∧ k ≤ q ∧ Ext w wr) (fun v63 _ => P.length - (intOf v63).toNat)
  case atStart => exact ⟨0, rfl, Nat.zero_le _, Ext.refl _⟩
  case round =>
    clear z1 z2
    obtain ⟨k, rfl, hk, hE⟩ := hrel
    obtain ⟨x, hx⟩ := getD_some (rfl : P.length = P.length) (show k < P.length by omega)
    obtain ⟨s1, ⟨s2, s3⟩, ⟨s4, s5⟩, s6, s7⟩ := hsP x (List.mem_of_getElem? hx)
    have hkI : (k : Int) < P.length := by omega
    obtain ⟨-, ⟨_, e9⟩ | ⟨pb, poff, rfl, hpb, hpE⟩⟩ := slcC (hparw.ext hE)
    · rw [e9] at hx; cases hx
    obtain ⟨c0, c1, c2, c3, c4⟩ := hpE.part hx
    have hX : Blk (wr.alloc (.cells #[.string x.name, .int .i64 x.lo, .int .i64 x.hi, .int .i64 x.least, .int .i64 x.most] 63)) wr.heap.size 63 #[.string x.name, .int .i64 x.lo, .int .i64 x.hi, .int .i64 x.least, .int .i64 x.most] := Blk.new' rfl
    have hEx : Ext wr (wr.alloc (.cells #[.string x.name, .int .i64 x.lo, .int .i64 x.hi, .int .i64 x.least, .int .i64 x.most] 63)) := (Ext.refl _).alloc _
    have hvp : valP P g k = inB (cntG g k) x.least x.most := by
      unfold valP leastP mostP
      rw [List.getD_eq_getElem?_getD, hx]; rfl
    have hE1 := hE.trans hEx
    replace hvp := Lib.hid hvp
    replace hx := Lib.hid hx
    clear hpE
    go_upto_region 12 with fail
    generalize wr.alloc (.cells #[.string x.name, .int .i64 x.lo, .int .i64 x.hi, .int .i64 x.least, .int .i64 x.most] 63) = W3 at *
    generalize wr.heap.size = gx at *
    clear c0 c1 c2 c3 c4 hpb hE hEx
    go_wp2
    go_loopw [70, 18] (fun v70 v18 wr => ∃ j : Nat, v70 = .int .i64 j ∧ v18 = .int .i64 (cntG (g.take j) k : Nat) ∧ j ≤ g.length ∧ Ext W3 wr) (fun v70 _ _ => g.length - (intOf v70).toNat)
    case atStart => exact ⟨0, rfl, rfl, Nat.zero_le _, Ext.refl _⟩
    case round =>
      obtain ⟨j, rfl, rfl, hj, hE⟩ := hrel
      by_cases hlt : j < g.length
      · obtain ⟨y, hy⟩ := getD_some (rfl : g.length = g.length) hlt
        have hy1 := hgx y (List.mem_of_getElem? hy)
        have hct := cnt_take (k := k) hy
        have hcl := cnt_le (g.take j) k
        rw [List.length_take] at hcl
        obtain ⟨-, ⟨_, e9⟩ | ⟨gb, goff, rfl, hgb, hgE⟩⟩ := slcC ((hg.ext hE1).ext hE)
        · rw [e9] at hy; cases hy
        have e1 := hgE j y hy 0 _ rfl
        simp only [Nat.mul_one, Nat.add_zero] at e1
        have hjI : (j : Int) < g.length := by omega
        replace hy := Lib.hid hy
        have htr := fun (b : Bool) u => truth_any b u
        generalize cntG (g.take j) k = m at *
        by_cases hyk : y = k
        · have hyB : ((y : Int) == (k : Int)) = true := by rw [hyk]; simp
          have hct2 : cntG (g.take (j + 1)) k = m + 1 := by rw [hct, if_pos hyk]
          have ht2 := fun u => htr true u
          replace hct2 := Lib.hid hct2
          replace ht2 := Lib.hid ht2
          clear htr hct
          subst hyk
          go_wp2_with (go_at_call 60; (with_reducible refine Calls.mono (ht2.out _) ?_); rintro e w5 ⟨rfl, hb5⟩; simp only [if_true])
          go_roundw
          case rel => exact ⟨j + 1, by go_num, by rw [hct2.out]; go_num, by omega, hE.trans hb5⟩
          case measure => simp [intOf]; omega
        · have hyB : ((y : Int) == (k : Int)) = false := beq_false_of_ne (by omega)
          have hyk2 : ¬ (y : Int) = (k : Int) := by omega
          have hct2 : cntG (g.take (j + 1)) k = m := by rw [hct, if_neg hyk, Nat.add_zero]
          have ht2 := fun u => htr false u
          replace hct2 := Lib.hid hct2
          replace ht2 := Lib.hid ht2
          clear htr hct
          go_wp2_with (go_at_call 60; (with_reducible refine Calls.mono (ht2.out _) ?_); rintro e w5 ⟨rfl, hb5⟩; simp only [Bool.false_eq_true, if_false])
          go_roundw
          case rel => exact ⟨j + 1, by go_num, by rw [hct2.out], by omega, hE.trans hb5⟩
          case measure => simp [intOf]; omega
      · obtain rfl : j = g.length := by omega
        rw [List.take_length] at *
        have hX2 := hX.ext hE
        obtain ⟨y1, -⟩ := hX2.walk
        have hXl := hX2.lt
        have hcl := cnt_le g k
        have hin := in_any (n := (cntG g k : Nat)) (lo := x.least) (hi := x.most) (w := wr)
        rw [← hvp.out] at hin
        have hEf := hE1.trans hE
        generalize cntG g k = m at *
        cases hv : valP P g k
        · rw [hv] at hin
          replace hin := Lib.hid hin
          clear hX hX2
          go_wp2_with (go_at_call 32; (with_reducible refine Calls.mono hin.out ?_); rintro e w5 ⟨rfl, rfl⟩)
          try simp only [Exit.inBlock, Exit.then]
          refine bodyPost_ret (results_none rfl _ _ _) rfl ?_
          exact ⟨rfl, hEf⟩
        · rw [hv] at hin
          have hkq : k ≠ q := fun e => by
            rw [e, hqv.out] at hv
            cases hv
          replace hin := Lib.hid hin
          clear hX hX2
          go_wp2_with (go_at_call 32; (with_reducible refine Calls.mono hin.out ?_); rintro e w5 ⟨rfl, rfl⟩)
          go_roundw
          case rel => exact ⟨k + 1, by go_num, by omega, hEf⟩
          case measure => simp [intOf]; omega
end Go.Proofs.YtcdjkgfdhngmeaaGreatDoor
