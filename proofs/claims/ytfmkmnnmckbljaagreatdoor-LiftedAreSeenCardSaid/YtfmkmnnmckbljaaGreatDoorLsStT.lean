/- Who is hidden, by the document's text: the walk. Conditions: people, stage and stands are right. -/
import Derived.Test.YtfmkmnnmckbljaaGreatDoorLsStS
set_option linter.unusedSimpArgs false
set_option linter.unusedVariables false
namespace Go.Proofs.YtfmkmnnmckbljaaGreatDoor
open Go Go.RowKit

theorem own_noT {w : World} {base k n g : Nat} {t e : TypeId} {v : Value} {xs : List Value} {cs : Array Value} (ho : w.ownsRow base e k v n xs) (h : Blk w g t cs) (ht : t ≠ e) : v.ownBlock ≠ some g := by
  intro hv
  rcases ho.2 with ⟨rfl, -⟩ | ⟨g', cap, cur, rfl, -, hg, -⟩
  · simp [Value.ownBlock] at hv
  · simp [Value.ownBlock] at hv
    subst hv
    unfold Blk at h
    rw [hg] at h
    cases h
    exact ht rfl
theorem Blk.appT {b c : World} {base g : Nat} {t e : TypeId} {k n : Nat} {v : Value} {xs : List Value} {cs : Array Value} (h : Blk b g t cs) (ho : b.ownsRow base e k v n xs) (ht : t ≠ e) (hg : b.grownBy c v.ownBlock) : Blk c g t cs :=
  (hg.block g h.lt fun e => own_noT ho h ht e.symm).trans h

set_option maxRecDepth 100000 in
set_option maxHeartbeats 3200000 in
theorem rhidden_any (pp : Option Addr) (pc : Nat) (P : List PersonV) (wp : Option Addr) (wc : Nat) (wide : List Int) (hp : Option Addr) (hc : Nat) (high : List Int) (lp : Option Addr) (lc : Nat) (S : List StandV) (w : World) (h : PsM w pp pc P wp wc wide hp hc high lp lc S) (hok : StandsOk P wide high S) :
    Calls Tryz.prog 17 #[.slice pp P.length pc, .agg #[.slice wp wide.length wc, .slice hp high.length hc], .slice lp S.length lc] w fun e w' => ∃ (q : Option Addr) (c : Nat), e = .returned (.slice q (hiddenL P wide high S).length c) ∧ Slc 2 hidC w' q (hiddenL P wide high S).length c (hiddenL P wide high S) ∧ Ext w w' := by
  have hX : Blk (w.alloc (.cells #[.slice wp wide.length wc, .slice hp high.length hc] 28)) w.heap.size 28 #[.slice wp wide.length wc, .slice hp high.length hc] := Blk.new' rfl
  have hE0 : Ext w (w.alloc (.cells #[.slice wp wide.length wc, .slice hp high.length hc] 28)) := (Ext.refl _).alloc _
  have hlen := hok.len
  replace h := Lib.hid h
  replace hok := Lib.hid hok
  go_enter Tryz.func17, Tryz.ntmps17
  go_wp2
  generalize w.alloc (.cells #[.slice wp wide.length wc, .slice hp high.length hc] 28) = W at *
  go_loopw [7, 14] (fun v7 v14 wr => ∃ (k n : Nat) (v : Value), v7 = v ∧ v14 = .int .i64 k ∧ k ≤ S.length ∧ wr.ownsRow W.heap.size 50 2 v n ((hidTo P wide high S k).flatMap hidC) ∧ n = (hidTo P wide high S k).length ∧ Ext W wr) (fun _ v14 _ => S.length - (intOf v14).toNat)
  case atStart => exact ⟨0, 0, _, rfl, rfl, Nat.zero_le _, World.ownsRow_nil _ _ _ _, rfl, Ext.refl _⟩
  case round =>
    obtain ⟨k, n, v, rfl, rfl, hk, hown, rfl, hE⟩ := hrel
    by_cases hlt : k < S.length
    · obtain ⟨b, hb⟩ := getD_some (rfl : S.length = S.length) hlt
      have hkI : (k : Int) < S.length := by omega
      have hbnd := hidTo_len P wide high S k hk
      have hbnd2 : k * S.length ≤ 200 * 200 := Nat.mul_le_mul (by omega) (by omega)
      have hsu := hidTo_succ (P := P) (wide := wide) (high := high) hb
      rcases (slcC h.out.sta).2 with ⟨-, e⟩ | ⟨sb, so, rfl, hsb, hEl⟩
      · rw [e] at hb; cases hb
      have hEw := hE0.trans hE
      obtain ⟨c0, c1, c2⟩ := (hEl.ext hEw hsb).sta hb
      have hbw := Nat.lt_of_lt_of_le hsb hEw.size
      have hY := Blk.new' (w := wr) (t := 61) (cs := #[.string b.name, .int .i64 b.row, .int .i64 b.place]) rfl
      have hE2 := hE.alloc (.cells #[.string b.name, .int .i64 b.row, .int .i64 b.place] 61)
      have hown2 := hown.alloc (.cells #[.string b.name, .int .i64 b.row, .int .i64 b.place] 61)
      replace hown2 := Lib.hid hown2
      replace hb := Lib.hid hb
      replace hsu := Lib.hid hsu
      replace hEl := Lib.hid hEl
      clear hown
      go_wp2
      try rw [show decide ((k : Int) < (S.length : Int)) = true from decide_eq_true hkI]
      clear c0 c1 c2
      generalize wr.alloc (.cells #[.string b.name, .int .i64 b.row, .int .i64 b.place] 61) = W2 at *
      generalize wr.heap.size = gb at *
      go_loopw [7, 20] (fun v7 v20 wq => ∃ (i n : Nat) (v : Value), v7 = v ∧ v20 = .int .i64 i ∧ i ≤ S.length ∧ wq.ownsRow W.heap.size 50 2 v n ((hidTo P wide high S k ++ hidB P wide high (S.take i) b).flatMap hidC) ∧ n = (hidTo P wide high S k ++ hidB P wide high (S.take i) b).length ∧ Ext W wq ∧ Blk wq gb 61 #[.string b.name, .int .i64 b.row, .int .i64 b.place]) (fun _ v20 _ => S.length - (intOf v20).toNat)
      case atStart => exact ⟨0, _, _, rfl, rfl, Nat.zero_le _, by simpa [hidB] using hown2.out, by simp [hidB], hE2, hY⟩
      case round =>
        clear hown2 hE2 hY
        obtain ⟨i, n, v, rfl, rfl, hi, hown, rfl, hE2, hY⟩ := hrel
        by_cases hil : i < S.length
        · obtain ⟨a, ha⟩ := getD_some (rfl : S.length = S.length) hil
          have hiI : (i : Int) < S.length := by omega
          have hEq := hE0.trans hE2
          obtain ⟨c0, c1, c2⟩ := (hEl.out.ext hEq hsb).sta ha
          have hbq := Nat.lt_of_lt_of_le hsb hEq.size
          have hE3 := hE2.alloc (.cells #[.string a.name, .int .i64 a.row, .int .i64 a.place] 61)
          have hY3 := hY.alloc (.cells #[.string a.name, .int .i64 a.row, .int .i64 a.place] 61)
          have hZ := Blk.new' (w := wr) (t := 61) (cs := #[.string a.name, .int .i64 a.row, .int .i64 a.place]) rfl
          have hX3 := hX.ext hE3
          have hhd := rhides_any pp pc P wp wc wide hp hc high _ lc S _ (h.out.more (hE0.trans hE3)) hok.out (List.mem_of_getElem? ha) (List.mem_of_getElem? hb.out)
          have hsn := hidB_snoc (P := P) (wide := wide) (high := high) (b := b) ha
          have hbl := hidB_len P wide high (S.take i) b
          have htl : (S.take i).length ≤ 200 := by rw [List.length_take]; omega
          obtain ⟨x1, -⟩ := hX3.walk
          obtain ⟨y1, -⟩ := hY3.walk
          have ly := hY.lt
          have lx := hX.lt
          have hWw := hE2.size
          cases hh : hidesS P wide high a b
          · rw [hh] at hhd hsn
            simp only [Bool.false_eq_true, if_false] at hsn
            replace hhd := Lib.hid hhd
            replace hsn := Lib.hid hsn
            replace hown := Lib.hid hown
            replace ha := Lib.hid ha
            go_wp2_with (go_at_call 46; (with_reducible refine Calls.mono hhd.out ?_); rintro e w2 ⟨rfl, hb2⟩)
            go_roundw
            case rel => exact ⟨i + 1, _, _, rfl, by go_num, by omega, by rw [hsn.out]; exact own_ext hb2 (hown.out.alloc _), by rw [hsn.out], hE3.trans hb2, hY3.ext hb2⟩
            case measure => simp [intOf]; omega
          · rw [hh] at hhd hsn
            simp only [if_true] at hsn
            replace hhd := Lib.hid hhd
            replace hsn := Lib.hid hsn
            replace hown := Lib.hid hown
            replace ha := Lib.hid ha
            go_wp2_with (first
              | (go_at_call 46; (with_reducible refine Calls.mono hhd.out ?_); rintro e w2 ⟨rfl, hb2⟩; have hY4 := hY3.ext hb2; have hZ4 := hZ.ext hb2; obtain ⟨y4, -⟩ := hY4.walk; obtain ⟨z4, -⟩ := hZ4.walk; have hE4 := hE3.trans hb2; have ho4 := own_ext hb2 (hown.out.alloc _); have hs4 := hE4.size)
              | (at_builtin; go_loud (refine wp_app1 _ (.tmp 29) (.tmp 35) 36 50 2 32 _ rfl rfl Tryz.underlying36 hidInfo rfl (by decide) (by decide) W.heap.size _ _ _ rfl (ho4.alloc _) w2.heap.size (hidC (b.name, a.name)) rfl rfl (Blk.new' rfl) (hid_one _) (by rw [List.length_append]; omega) (by simp; omega) ?_; intro v' w6 hown6 hgrow6 _)))
            go_roundw
            case rel => exact ⟨i + 1, _, v', rfl, by go_num, by omega, by rw [hsn.out, ← List.append_assoc, flat_snoc]; exact hown6, by rw [hsn.out, ← List.append_assoc, List.length_append (bs := [_])]; rfl, (hE4.alloc _).grown hgrow6 fun j e => (ho4.lt j e).1, (hY4.alloc _).appT (ho4.alloc _) (by decide) hgrow6⟩
            case measure => simp [intOf]; omega
        · obtain rfl : i = S.length := by omega
          rw [List.take_length] at hown
          rw [← hsu.out] at hown
          replace hown := Lib.hid hown
          go_wp2
          go_roundw
          case rel => exact ⟨k + 1, _, _, rfl, by go_num, by omega, hown.out, rfl, hE2⟩
          case measure => simp [intOf]; omega
    · obtain rfl : k = S.length := by omega
      have hbnd := hidTo_len P wide high S S.length (Nat.le_refl _)
      have hbnd2 : S.length * S.length ≤ 200 * 200 := Nat.mul_le_mul hlen hlen
      rw [hidTo_all] at hown hbnd
      obtain ⟨q, c, rfl, hSl⟩ := slc_of_own hidC_len hown (by decide) (by omega)
      replace hSl := Lib.hid hSl
      clear hown
      go_wp2
      go_ret
      exact ⟨q, c, rfl, hSl.out, hE0.trans hE⟩
end Go.Proofs.YtfmkmnnmckbljaaGreatDoor
