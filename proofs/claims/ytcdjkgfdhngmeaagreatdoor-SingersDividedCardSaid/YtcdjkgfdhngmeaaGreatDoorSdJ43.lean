/- A division that the document's search keeps, or not. Conditions: as the theorem says. The document's search for divisions, walked: the end of the recursion. Conditions: its variables lie in memory. -/
import Derived.Test.YtcdjkgfdhngmeaaGreatDoorSdJ42
set_option linter.unusedSimpArgs false
set_option linter.unusedVariables false
namespace Go.Proofs.YtcdjkgfdhngmeaaGreatDoor
open Go Go.RowKit

set_option maxRecDepth 100000 in
set_option maxHeartbeats 12800000 in
theorem try_leaf {w0 w : World} {z bw bl bt bp bc bm bb : Nat} {cw cc : Value} {P : List PartV} {pp : Option Addr} {pc : Nat} {st : List (List Nat) × Int} (h : TryD w0 z bw bc bm bb cw cc st w) (hp : Blk w0 bp 28 #[.slice pp P.length pc]) (hpar : Slc 5 partC w0 pp P.length pc P) (hsP : ∀ x ∈ P, x.Small) (hP4 : P.length ≤ 4)
    {S : List ByteArray} {sp : Option Addr} {sc : Nat} (hcw : cw = .slice sp S.length sc) {g : List Nat} {gp : Option Addr} {gc : Nat} (hg : Slc 1 natC w gp g.length gc g) (hgl : g.length = S.length) (hS : S.length ≤ 200) (hgx : ∀ x ∈ g, x ≤ 1000) (hgo : w.ownsRow z 3 1 (.slice gp g.length gc) g.length (g.flatMap natC)) (hbig : st.1.length ≤ 100000000) (s : Int) (hs : -1000000 ≤ s ∧ s ≤ 1000000) (hyes : (List.range P.length).all (valP P g) = true) :
    Calls Tryz.prog 56 #[.slice gp g.length gc, .int .i64 s, .pointer (some ⟨bw, 0, none⟩), .pointer (some ⟨bl, 0, none⟩), .pointer (some ⟨bt, 0, none⟩), .pointer (some ⟨bp, 0, none⟩), .pointer (some ⟨bc, 0, none⟩), .pointer (some ⟨bm, 0, none⟩), .pointer (some ⟨bb, 0, none⟩)] w fun e w' => e = .returned (.tuple #[]) ∧ KeepD z bm bb w w' ∧ TryD w0 z bw bc bm bb (.slice sp S.length sc) cc (if st.2 < s then ([g], s) else if s = st.2 then (st.1 ++ [g], st.2) else st) w' := by
  have hpw := hp.ext h.ext
  have hparw := hpar.ext h.ext
  have hwho := h.who
  subst hcw
  obtain ⟨z1, -⟩ := hwho.walk
  have z1l := hwho.lt
  obtain ⟨z2, -⟩ := hpw.walk
  have z2l := hpw.lt
  have hlI : ¬ (g.length : Int) < S.length := by omega
  have hg200 : g.length ≤ 200 := by omega
  replace hgl := Lib.hid hgl
  obtain ⟨L, M⟩ := st
  simp only at hbig ⊢
  obtain ⟨R, hRq⟩ : ∃ R, (if M < s then ([g], s) else if s = M then (L ++ [g], M) else (L, M)) = R := ⟨_, rfl⟩
  rw [hRq]
  replace hRq := Lib.hid hRq
  have hall : ∀ k, k < P.length → valP P g k = true := fun k hk => List.all_eq_true.1 hyes k (List.mem_range.2 hk)
  replace hall := Lib.hid hall
  replace hgo := Lib.hid hgo
  replace h := Lib.hid h
  clear hp hpar hyes
  go_enter Tryz.func56, Tryz.ntmps56
  go_wp2
  go_loopw [63] (fun v63 wr => ∃ k : Nat, v63 = .int .i64 k ∧ k ≤ P.length ∧ Ext w wr) (fun v63 _ => P.length - (intOf v63).toNat)
  case atStart => exact ⟨0, rfl, Nat.zero_le _, Ext.refl _⟩
  case round =>
    clear z1 z2
    obtain ⟨k, rfl, hk, hE⟩ := hrel
    by_cases hkP : k < P.length
    · obtain ⟨x, hx⟩ := getD_some (rfl : P.length = P.length) hkP
      obtain ⟨s1, ⟨s2, s3⟩, ⟨s4, s5⟩, s6, s7⟩ := hsP x (List.mem_of_getElem? hx)
      have hkI : (k : Int) < P.length := by omega
      obtain ⟨-, ⟨_, e9⟩ | ⟨pb, poff, rfl, hpb, hpE⟩⟩ := slcC (hparw.ext hE)
      · rw [e9] at hx; cases hx
      obtain ⟨c0, c1, c2, c3, c4⟩ := hpE.part hx
      have hX : Blk (wr.alloc (.cells #[.string x.name, .int .i64 x.lo, .int .i64 x.hi, .int .i64 x.least, .int .i64 x.most] 63)) wr.heap.size 63 #[.string x.name, .int .i64 x.lo, .int .i64 x.hi, .int .i64 x.least, .int .i64 x.most] := Blk.new' rfl
      have hEx : Ext wr (wr.alloc (.cells #[.string x.name, .int .i64 x.lo, .int .i64 x.hi, .int .i64 x.least, .int .i64 x.most] 63)) := (Ext.refl _).alloc _
      have hvp : valP P g k = inB (cntG g k) x.least x.most := by
        unfold valP leastP mostP
        rw [List.getD_eq_getElem?_getD, hx]; rfl
      have hE1 := hE.trans hEx
      replace hvp := Lib.hid hvp
      replace hx := Lib.hid hx
      clear hpE
      go_upto_region 12 with fail
      generalize wr.alloc (.cells #[.string x.name, .int .i64 x.lo, .int .i64 x.hi, .int .i64 x.least, .int .i64 x.most] 63) = W3 at *
      generalize wr.heap.size = gx at *
      clear c0 c1 c2 c3 c4 hpb hE hEx
      go_wp2
      go_loopw [70, 18] (fun v70 v18 wr => ∃ j : Nat, v70 = .int .i64 j ∧ v18 = .int .i64 (cntG (g.take j) k : Nat) ∧ j ≤ g.length ∧ Ext W3 wr) (fun v70 _ _ => g.length - (intOf v70).toNat)
      case atStart => exact ⟨0, rfl, rfl, Nat.zero_le _, Ext.refl _⟩
      case round =>
        obtain ⟨j, rfl, rfl, hj, hE⟩ := hrel
        by_cases hlt : j < g.length
        · obtain ⟨y, hy⟩ := getD_some (rfl : g.length = g.length) hlt
          have hy1 := hgx y (List.mem_of_getElem? hy)
          have hct := cnt_take (k := k) hy
          have hcl := cnt_le (g.take j) k
          rw [List.length_take] at hcl
          obtain ⟨-, ⟨_, e9⟩ | ⟨gb, goff, rfl, hgb, hgE⟩⟩ := slcC ((hg.ext hE1).ext hE)
          · rw [e9] at hy; cases hy
          have e1 := hgE j y hy 0 _ rfl
          simp only [Nat.mul_one, Nat.add_zero] at e1
          have hjI : (j : Int) < g.length := by omega
          replace hy := Lib.hid hy
          have htr := fun (b : Bool) u => truth_any b u
          generalize cntG (g.take j) k = m at *
          by_cases hyk : y = k
          · have hyB : ((y : Int) == (k : Int)) = true := by rw [hyk]; simp
            have hct2 : cntG (g.take (j + 1)) k = m + 1 := by rw [hct, if_pos hyk]
            have ht2 := fun u => htr true u
            replace hct2 := Lib.hid hct2
            replace ht2 := Lib.hid ht2
            clear htr hct
            subst hyk
            go_wp2_with (go_at_call 60; (with_reducible refine Calls.mono (ht2.out _) ?_); rintro e w5 ⟨rfl, hb5⟩; simp only [if_true])
            go_roundw
            case rel => exact ⟨j + 1, by go_num, by rw [hct2.out]; go_num, by omega, hE.trans hb5⟩
            case measure => simp [intOf]; omega
          · have hyB : ((y : Int) == (k : Int)) = false := beq_false_of_ne (by omega)
            have hyk2 : ¬ (y : Int) = (k : Int) := by omega
            have hct2 : cntG (g.take (j + 1)) k = m := by rw [hct, if_neg hyk, Nat.add_zero]
            have ht2 := fun u => htr false u
            replace hct2 := Lib.hid hct2
            replace ht2 := Lib.hid ht2
            clear htr hct
            go_wp2_with (go_at_call 60; (with_reducible refine Calls.mono (ht2.out _) ?_); rintro e w5 ⟨rfl, hb5⟩; simp only [Bool.false_eq_true, if_false])
            go_roundw
            case rel => exact ⟨j + 1, by go_num, by rw [hct2.out], by omega, hE.trans hb5⟩
            case measure => simp [intOf]; omega
        · obtain rfl : j = g.length := by omega
          rw [List.take_length] at *
          have hX2 := hX.ext hE
          obtain ⟨y1, -⟩ := hX2.walk
          have hXl := hX2.lt
          have hcl := cnt_le g k
          have hin := in_any (n := (cntG g k : Nat)) (lo := x.least) (hi := x.most) (w := wr)
          rw [← hvp.out] at hin
          have hEf := hE1.trans hE
          generalize cntG g k = m at *
          have hv := hall.out k hkP
          rw [hv] at hin
          replace hin := Lib.hid hin
          clear hX hX2
          go_wp2_with (go_at_call 32; (with_reducible refine Calls.mono hin.out ?_); rintro e w5 ⟨rfl, rfl⟩)
          go_roundw
          case rel => exact ⟨k + 1, by go_num, by omega, hEf⟩
          case measure => simp [intOf]; omega
    · obtain rfl : k = P.length := by omega
      have hD := h.out.more hE
      have hgo2 := own_ext hE hgo.out
      obtain ⟨v, hB, hR⟩ := hD.best
      have hM := hD.most
      obtain ⟨b1, b2⟩ := hB.walk
      obtain ⟨m1, m2⟩ := hM.walk
      have b3 := hB.lt
      have m3 := hM.lt
      have hkI : ¬ ((P.length : Nat) : Int) < P.length := by omega
      have hne : bm ≠ bb := blk_ne hM hB (by decide)
      have hne2 : bb ≠ bm := fun e => hne e.symm
      simp only at hM
      have hKE : KeepD z bm bb w wr := Ext.keepD hE
      clear hR
      by_cases h1 : M < s
      · obtain ⟨L1, hL1⟩ : ∃ l : List (List Nat), l = [] := ⟨[], rfl⟩
        have hRv : R = (L1 ++ [g], s) := by rw [hL1, ← hRq.out, if_pos h1]; rfl
        replace hRv := Lib.hid hRv
        clear hall
        go_upto_region 22 with fail
        have hK1 : KeepD z bm bb wr ((wr.setCell ⟨bb, 0, none⟩ (.slice none 0 0)).setCell ⟨bm, 0, none⟩ (.int .i64 s)) := (KeepD.set wr (p := ⟨bb, 0, none⟩) (.inr rfl) _).trans (KeepD.set _ (p := ⟨bm, 0, none⟩) (.inl rfl) _)
        have hB1 : Blk ((wr.setCell ⟨bb, 0, none⟩ (.slice none 0 0)).setCell ⟨bm, 0, none⟩ (.int .i64 s)) bb 81 #[.slice none 0 0] := ((hB.set_ 0 (.slice none 0 0)).cast (by simp)).far (p := ⟨bm, 0, none⟩) hne2 _
        have hM1 : Blk ((wr.setCell ⟨bb, 0, none⟩ (.slice none 0 0)).setCell ⟨bm, 0, none⟩ (.int .i64 s)) bm 3 #[.int .i64 s] := ((hM.far (p := ⟨bb, 0, none⟩) hne _).set_ 0 (.int .i64 s)).cast (by simp)
        have hT : TryD w0 z bw bc bm bb (.slice sp S.length sc) cc (L1, s) ((wr.setCell ⟨bb, 0, none⟩ (.slice none 0 0)).setCell ⟨bm, 0, none⟩ (.int .i64 s)) := by rw [hL1]; exact ⟨KeepD.back hD.ext hD.low.2.2 hD.low.1 hD.low.2.1 hK1, hK1.blk hD.who (blk_ne hD.who hM (by decide)) (blk_ne hD.who hB (by decide)) (by decide), hK1.blk hD.fn (blk_ne hD.fn hM (by decide)) (blk_ne hD.fn hB (by decide)) (by decide), hM1, ⟨_, hB1, OwnRows.nil⟩, hD.low, hD.lt, Nat.le_trans hD.size hK1.2.2.2.1⟩
        have hgoW := hK1.own hgo2 hD.lt.2.2.1 hD.lt.2.2.2
        have hKW := hKE.trans hK1
        have hll : L1.length ≤ 100000000 := by rw [hL1]; simp
        clear hL1
        clear hB hM b1 b2 m1 m2 b3 m3 hD hgo2 hK1 hB1 hM1 hKE v
        generalize (wr.setCell ⟨bb, 0, none⟩ (.slice none 0 0)).setCell ⟨bm, 0, none⟩ (.int .i64 s) = W at *
        obtain ⟨v, hB, vs, hvs, hrows⟩ := hT.best
        simp only at hvs hrows
        have hMo := hT.most
        simp only at hMo
        obtain ⟨b1, b2⟩ := hB.walk
        obtain ⟨m1, m2⟩ := hMo.walk
        have b3 := hB.lt
        have m3 := hMo.lt
        have hzW := hT.size
        have hE6 : Ext W (W.alloc (.cells #[.slice gp g.length gc] 22)) := (Ext.refl _).alloc _
        have hvs6 := own_ext hE6 hvs
        have hgo6 := own_ext hE6 hgoW
        have hB6 := hB.ext hE6
        have hM6 := hMo.ext hE6
        have hrows6 : ∀ (j : Nat) (r : List Nat), L1[j]? = some r → ∃ u, vs[j]? = some u ∧ (W.alloc (.cells #[.slice gp g.length gc] 22)).ownsRow z 3 1 u r.length (r.flatMap natC) := fun j r hr => let ⟨u, a, b⟩ := hrows j r hr; ⟨u, a, own_ext hE6 b⟩
        replace hrows6 := Lib.hid hrows6
        replace hT := Lib.hid hT
        replace hKW := Lib.hid hKW
        clear hrows hvs hgoW hB hMo
        go_wp2_with (at_builtin; go_loud (refine wp_app1 _ (.tmp 96) (.tmp 98) 81 22 1 24 _ rfl rfl Tryz.underlying81 intsInfo rfl (by decide) (by decide) z _ L1.length _ rfl hvs6 W.heap.size [.slice gp g.length gc] rfl rfl (Blk.new' rfl) (by simp [Value.oneCell']) (by omega) (by simp; omega) ?_; intro v8 w8 hown8 hgrow8 _; obtain ⟨q8, c8, rfl, -, -⟩ := hown8.form (by omega); have hB8 : Blk w8 bb 81 #[v] := (hgrow8.block bb hB6.lt fun e => own_no hvs6 hB6 (by decide) e.symm).trans hB6; have hM8 : Blk w8 bm 3 #[.int .i64 s] := (hgrow8.block bm hM6.lt fun e => own_no hvs6 hM6 (by decide) e.symm).trans hM6; obtain ⟨y1, y2⟩ := hB8.walk; have y3 := hB8.lt))
        go_end0
        have hK8 : KeepD z bm bb W w8 := (Ext.keepD hE6).trans (KeepD.app hvs6 hgrow8)
        have hK9 := hK8.trans (KeepD.set w8 (p := ⟨bb, 0, none⟩) (.inr rfl) (.slice (some ⟨q8, 0, none⟩) (L1.length + 1) c8))
        have hOR : OwnRows 22 3 natC w8 z (.slice (some ⟨q8, 0, none⟩) (L1.length + 1) c8) (L1 ++ [g]) := OwnRows.app (C := L1) ⟨vs, hvs6, hrows6.out⟩ (by decide) hrows6.out hvs6 hgo6 hown8 hgrow8
        obtain ⟨l1, l2, l3, l4⟩ := hT.out.lt
        exact ⟨rfl, hKW.out.trans hK9, by rw [hRv.out]; exact ⟨KeepD.back hT.out.ext hT.out.low.2.2 hT.out.low.1 hT.out.low.2.1 hK9, hK9.blk hT.out.who (blk_ne hT.out.who hT.out.most (by decide)) (fun e => by obtain ⟨v', hb', -⟩ := hT.out.best; exact blk_ne hT.out.who hb' (by decide) e) (by decide), hK9.blk hT.out.fn (blk_ne hT.out.fn hT.out.most (by decide)) (fun e => by obtain ⟨v', hb', -⟩ := hT.out.best; exact blk_ne hT.out.fn hb' (by decide) e) (by decide), hM8.far (p := ⟨bb, 0, none⟩) hne _, ⟨(.slice (some ⟨q8, 0, none⟩) (L1.length + 1) c8), (hB8.set_ 0 (.slice (some ⟨q8, 0, none⟩) (L1.length + 1) c8)).cast (by simp), hOR.grown (grown_set w8 ⟨bb, 0, none⟩ (.slice (some ⟨q8, 0, none⟩) (L1.length + 1) c8)) l4⟩, hT.out.low, hT.out.lt, Nat.le_trans hT.out.size hK9.2.2.2.1⟩⟩
      · by_cases h2 : s = M
        · have hRv : R = (L ++ [g], s) := by rw [← hRq.out, if_neg h1, if_pos h2, h2]
          subst h2
          replace hRv := Lib.hid hRv
          have hT := hD
          have hgoW := hgo2
          have hKW := hKE
          have hll := hbig
          have hs0 : ¬ s < s := by omega
          clear hB hM b1 b2 m1 m2 b3 m3 hD hgo2 hKE v hall
          generalize wr = W at *
          generalize L = L1 at *
          obtain ⟨v, hB, vs, hvs, hrows⟩ := hT.best
          simp only at hvs hrows
          have hMo := hT.most
          simp only at hMo
          obtain ⟨b1, b2⟩ := hB.walk
          obtain ⟨m1, m2⟩ := hMo.walk
          have b3 := hB.lt
          have m3 := hMo.lt
          have hzW := hT.size
          have hE6 : Ext W (W.alloc (.cells #[.slice gp g.length gc] 22)) := (Ext.refl _).alloc _
          have hvs6 := own_ext hE6 hvs
          have hgo6 := own_ext hE6 hgoW
          have hB6 := hB.ext hE6
          have hM6 := hMo.ext hE6
          have hrows6 : ∀ (j : Nat) (r : List Nat), L1[j]? = some r → ∃ u, vs[j]? = some u ∧ (W.alloc (.cells #[.slice gp g.length gc] 22)).ownsRow z 3 1 u r.length (r.flatMap natC) := fun j r hr => let ⟨u, a, b⟩ := hrows j r hr; ⟨u, a, own_ext hE6 b⟩
          replace hrows6 := Lib.hid hrows6
          replace hT := Lib.hid hT
          replace hKW := Lib.hid hKW
          clear hrows hvs hgoW hB hMo
          go_wp2_with (at_builtin; go_loud (refine wp_app1 _ (.tmp 96) (.tmp 98) 81 22 1 24 _ rfl rfl Tryz.underlying81 intsInfo rfl (by decide) (by decide) z _ L1.length _ rfl hvs6 W.heap.size [.slice gp g.length gc] rfl rfl (Blk.new' rfl) (by simp [Value.oneCell']) (by omega) (by simp; omega) ?_; intro v8 w8 hown8 hgrow8 _; obtain ⟨q8, c8, rfl, -, -⟩ := hown8.form (by omega); have hB8 : Blk w8 bb 81 #[v] := (hgrow8.block bb hB6.lt fun e => own_no hvs6 hB6 (by decide) e.symm).trans hB6; have hM8 : Blk w8 bm 3 #[.int .i64 s] := (hgrow8.block bm hM6.lt fun e => own_no hvs6 hM6 (by decide) e.symm).trans hM6; obtain ⟨y1, y2⟩ := hB8.walk; have y3 := hB8.lt))
          go_end0
          have hK8 : KeepD z bm bb W w8 := (Ext.keepD hE6).trans (KeepD.app hvs6 hgrow8)
          have hK9 := hK8.trans (KeepD.set w8 (p := ⟨bb, 0, none⟩) (.inr rfl) (.slice (some ⟨q8, 0, none⟩) (L1.length + 1) c8))
          have hOR : OwnRows 22 3 natC w8 z (.slice (some ⟨q8, 0, none⟩) (L1.length + 1) c8) (L1 ++ [g]) := OwnRows.app (C := L1) ⟨vs, hvs6, hrows6.out⟩ (by decide) hrows6.out hvs6 hgo6 hown8 hgrow8
          obtain ⟨l1, l2, l3, l4⟩ := hT.out.lt
          exact ⟨rfl, hKW.out.trans hK9, by rw [hRv.out]; exact ⟨KeepD.back hT.out.ext hT.out.low.2.2 hT.out.low.1 hT.out.low.2.1 hK9, hK9.blk hT.out.who (blk_ne hT.out.who hT.out.most (by decide)) (fun e => by obtain ⟨v', hb', -⟩ := hT.out.best; exact blk_ne hT.out.who hb' (by decide) e) (by decide), hK9.blk hT.out.fn (blk_ne hT.out.fn hT.out.most (by decide)) (fun e => by obtain ⟨v', hb', -⟩ := hT.out.best; exact blk_ne hT.out.fn hb' (by decide) e) (by decide), hM8.far (p := ⟨bb, 0, none⟩) hne _, ⟨(.slice (some ⟨q8, 0, none⟩) (L1.length + 1) c8), (hB8.set_ 0 (.slice (some ⟨q8, 0, none⟩) (L1.length + 1) c8)).cast (by simp), hOR.grown (grown_set w8 ⟨bb, 0, none⟩ (.slice (some ⟨q8, 0, none⟩) (L1.length + 1) c8)) l4⟩, hT.out.low, hT.out.lt, Nat.le_trans hT.out.size hK9.2.2.2.1⟩⟩
        · have hRv : R = (L, M) := by rw [← hRq.out, if_neg h1, if_neg h2]
          replace hRv := Lib.hid hRv
          have hsB : (s == M) = false := beq_false_of_ne h2
          have h3 : ¬ M < s := h1
          replace hD := Lib.hid hD
          clear hB hM hall
          go_wp2
          go_end0
          exact ⟨rfl, hKE, by rw [hRv.out]; exact hD.out⟩
end Go.Proofs.YtcdjkgfdhngmeaaGreatDoor

namespace Go.Proofs.YtcdjkgfdhngmeaaGreatDoor
open Go Go.RowKit

theorem clone_int {α : Type} {enc : α → List Value} (val : α → Int) (henc : ∀ x, enc x = [.int .i64 (val x)]) (p : Option Addr) (n c : Nat) (xs : List α) (w : World) (h : Slc 1 enc w p n c xs) (hn : n ≤ 1000) :
    Calls Tryz.prog 59 #[.slice p n c] w fun e w' => ∃ p' c', e = .returned (.slice p' n c') ∧ w'.ownsRow w.heap.size 3 1 (.slice p' n c') n (xs.flatMap enc) ∧ Ext w w' := by
  have hfl : ∀ l : List α, (l.map val).map (Value.int .i64) = l.flatMap enc := fun l => by
    induction l with
    | nil => rfl
    | cons x l ih => rw [List.flatMap_cons, ← ih, henc]; rfl
  obtain ⟨hl, ⟨rfl, rfl⟩ | ⟨b, off, rfl, hb, hE⟩⟩ := slcC h
  · subst hl
    refine (Tryz.slices_Clone_int_nil 0 c w).mono fun e w' ⟨he, hw⟩ => ?_
    subst hw
    exact ⟨none, 0, he, World.ownsRow_nil _ _ _ _, Ext.refl _⟩
  · refine (Tryz.slices_Clone_int b off n c (xs.map val) w (by rw [List.length_map]; omega) (by omega) (fun j hj => ?_)).mono fun e w' ⟨v', he, ho, hne, hb'⟩ => ?_
    · rw [List.length_map] at hj
      have hx : xs[j]? = some xs[j] := List.getElem?_eq_getElem hj
      have := hE j _ hx 0 (.int .i64 (val xs[j])) (by rw [henc]; rfl)
      rw [List.getD_eq_getElem?_getD, List.getElem?_map, hx]
      simpa using this
    · rw [List.take_of_length_le (by rw [List.length_map]; omega), hfl] at ho
      rcases ho.2 with ⟨h1, _⟩ | ⟨g, cap, cur, h1, _⟩
      · exact absurd h1 hne
      · subst h1
        exact ⟨_, _, he, ho, hb'⟩

/-- What the search leaves, when some singers have a part. -/
def foldG (P : List PartV) (C : List (List Int)) (i : Nat) (g : List Nat) (st : List (List Nat) × Int) : List (List Nat) × Int :=
  (enumL P.length (C.drop i)).foldl (fun st g' => stepB P C [0, 0, 0, 0] st (g ++ g')) st
theorem foldG_more {P : List PartV} {C : List (List Int)} {i : Nat} (hi : i < C.length) (g : List Nat) (st : List (List Nat) × Int) :
    foldG P C i g st = (List.range P.length).foldl (fun st p => if (C.getD i []).getD p (-1) < 0 then st else foldG P C (i + 1) (g ++ [p]) st) st := by
  unfold foldG
  rw [drop_at hi, fold_more]
theorem sumG_nil (C : List (List Int)) : sumG C [] = 0 := by cases C <;> rfl
theorem sumG_snoc : ∀ (C : List (List Int)) (g : List Nat) (k : Nat), g.length < C.length → sumG C (g ++ [k]) = sumG C g + (C.getD g.length []).getD k (-1)
  | r :: C, [], k, _ => by
    show r.getD k (-1) + sumG C [] = 0 + r.getD k (-1)
    rw [sumG_nil]; omega
  | r :: C, p :: g, k, h => by
    have ih := sumG_snoc C g k (by simpa using h)
    show r.getD p (-1) + sumG C (g ++ [k]) = r.getD p (-1) + sumG C g + (C.getD g.length []).getD k (-1)
    rw [ih]; omega
theorem stepB_len (P : List PartV) (C : List (List Int)) (N : List Nat) (st : List (List Nat) × Int) (g : List Nat) : (stepB P C N st g).1.length ≤ st.1.length + 1 := by
  unfold stepB
  split
  · split
    · simp
    · split
      · simp
      · omega
  · omega
theorem fold_len (P : List PartV) (C : List (List Int)) (N g : List Nat) : ∀ (l : List (List Nat)) (st : List (List Nat) × Int), (l.foldl (fun st g' => stepB P C N st (g ++ g')) st).1.length ≤ st.1.length + l.length
  | [], st => Nat.le_refl _
  | x :: l, st => by
    rw [List.foldl_cons]
    have h1 := fold_len P C N g l (stepB P C N st (g ++ x))
    have h2 := stepB_len P C N st (g ++ x)
    rw [List.length_cons]; omega
theorem flat_le {α β : Type} {f : α → List β} {k : Nat} : ∀ {l : List α}, (∀ a ∈ l, (f a).length ≤ k) → (l.flatMap f).length ≤ l.length * k
  | [], _ => by simp
  | a :: l, h => by
    have h1 := h a (List.mem_cons_self ..)
    have h2 := flat_le (f := f) (k := k) (l := l) fun b hb => h b (List.mem_cons_of_mem _ hb)
    rw [List.flatMap_cons, List.length_append, List.length_cons, Nat.add_mul]; omega
theorem enum_len {n : Nat} (hn : n ≤ 4) : ∀ C : List (List Int), (enumL n C).length ≤ 4 ^ C.length
  | [] => Nat.le_refl _
  | r :: C => by
    have ih := enum_len hn C
    simp only [enumL]
    refine Nat.le_trans (flat_le (k := 4 ^ C.length) fun p _ => ?_) ?_
    · split
      · simp
      · rw [List.length_map]; exact ih
    · rw [List.length_range, List.length_cons, Nat.pow_succ, Nat.mul_comm]
      exact Nat.mul_le_mul_left _ hn
theorem foldG_len {P : List PartV} (hP : P.length ≤ 4) (C : List (List Int)) (i : Nat) (g : List Nat) (st : List (List Nat) × Int) : (foldG P C i g st).1.length ≤ st.1.length + 4 ^ (C.length - i) := by
  have h1 := fold_len P C [0, 0, 0, 0] g (enumL P.length (C.drop i)) st
  have h2 := enum_len hP (C.drop i)
  rw [List.length_drop] at h2
  exact Nat.le_trans h1 (Nat.add_le_add_left h2 _)
def TryRes (w0 : World) (z bw bc bm bb : Nat) (cw cc : Value) (st : List (List Nat) × Int) (w : World) (e : Ending) (w' : World) : Prop :=
  e = .returned (.tuple #[]) ∧ KeepD z bm bb w w' ∧ TryD w0 z bw bc bm bb cw cc st w'
theorem try_end {w0 w : World} {z bw bl bt bp bc bm bb : Nat} {cc : Value} {P : List PartV} {pp : Option Addr} {pc : Nat} {C : List (List Int)} {st : List (List Nat) × Int} {S : List ByteArray} {sp : Option Addr} {sc : Nat} (h : TryD w0 z bw bc bm bb (.slice sp S.length sc) cc st w) (hp : Blk w0 bp 28 #[.slice pp P.length pc]) (hpar : Slc 5 partC w0 pp P.length pc P) (hsP : ∀ x ∈ P, x.Small) (hP4 : P.length ≤ 4)
    {g : List Nat} {gp : Option Addr} {gc : Nat} (hCS : C.length = S.length) (hgl : g.length = C.length) (hS : S.length ≤ 200) (hgx : ∀ x ∈ g, x ≤ 1000) (hgo : w.ownsRow z 3 1 (.slice gp g.length gc) g.length (g.flatMap natC)) (hbig : st.1.length ≤ 100000000) (hs : -1000000 ≤ sumG C g ∧ sumG C g ≤ 1000000) :
    Calls Tryz.prog 56 #[.slice gp g.length gc, .int .i64 (sumG C g), .pointer (some ⟨bw, 0, none⟩), .pointer (some ⟨bl, 0, none⟩), .pointer (some ⟨bt, 0, none⟩), .pointer (some ⟨bp, 0, none⟩), .pointer (some ⟨bc, 0, none⟩), .pointer (some ⟨bm, 0, none⟩), .pointer (some ⟨bb, 0, none⟩)] w (TryRes w0 z bw bc bm bb (.slice sp S.length sc) cc (foldG P C C.length g st) w) := by
  obtain ⟨q, d, e9, hg⟩ := slc_of_own (enc := natC) (fun _ => rfl) hgo (by decide) (by omega)
  cases e9
  have hst : foldG P C C.length g st = stepB P C [0, 0, 0, 0] st g := by
    unfold foldG
    rw [List.drop_length]
    simp only [enumL, List.foldl_cons, List.foldl_nil, List.append_nil]
  rw [hst]
  unfold stepB
  rw [valid_all hP4]
  cases hv : (List.range P.length).all (valP P g)
  · refine (try_parts (bl := bl) (bt := bt) h hp hpar hsP hP4 rfl hg (by omega) hS hgx (sumG C g) hv).mono fun e w' hh => ⟨hh.1, Ext.keepD hh.2, ?_⟩
    simp only [Bool.false_eq_true, if_false]
    exact h.more hh.2
  · refine (try_leaf (bl := bl) (bt := bt) h hp hpar hsP hP4 rfl hg (by omega) hS hgx hgo hbig (sumG C g) hs hv).mono fun e w' hh => ⟨hh.1, hh.2.1, ?_⟩
    simp only [if_true]
    exact hh.2.2
end Go.Proofs.YtcdjkgfdhngmeaaGreatDoor
