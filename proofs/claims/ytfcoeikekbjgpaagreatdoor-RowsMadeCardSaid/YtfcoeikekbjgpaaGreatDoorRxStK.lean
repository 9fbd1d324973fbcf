/- Who is hidden, listed. Conditions: people, stage and stands are right (what CheckStands answers is a hypothesis here). -/
import Derived.Test.YtfcoeikekbjgpaaGreatDoorRxStJ
set_option linter.unusedSimpArgs false
set_option linter.unusedVariables false
namespace Go.Proofs.YtfcoeikekbjgpaaGreatDoor
open Go Go.RowKit

structure StandsOk (P : List PersonV) (wide high : List Int) (S : List StandV) : Prop where
  po : PeopleOk P
  wo : WideOk wide
  ho : HighOk high
  wh : high.length = wide.length
  len : S.length ≤ 200
  on : ∀ x ∈ S, OnStage wide x
  all : AllPeople P S

set_option maxRecDepth 100000 in
theorem choirOf_ok (pp : Option Addr) (pc : Nat) (P : List PersonV) (wp : Option Addr) (wc : Nat) (wide : List Int) (hp : Option Addr) (hc : Nat) (high : List Int) (lp : Option Addr) (lc : Nat) (S : List StandV) (w : World) (h1 : Slc 3 perC w pp P.length pc P) (h2 : Slc 1 intC w wp wide.length wc wide) (h3 : Slc 1 intC w hp high.length hc high) (h4 : Slc 3 staC w lp S.length lc S)
    (hck : ∀ u, Ext w u → Calls Tryz.prog 62 #[.slice pp P.length pc, .agg #[.slice wp wide.length wc, .slice hp high.length hc], .slice lp S.length lc] u fun e w' => e = .returned (.int .i64 0) ∧ Ext u w') :
    Calls Tryz.prog 60 #[.slice pp P.length pc, .agg #[.slice wp wide.length wc, .slice hp high.length hc], .slice lp S.length lc] w fun e w' => ∃ g, e = .returned (.tuple #[.pointer (some ⟨g, 0, none⟩), .int .i64 0]) ∧ w.heap.size ≤ g ∧ Ext w w' ∧ ChM w' g pp pc P wp wc wide hp hc high lp lc S := by
  have hX : Blk (w.alloc (.cells #[.slice wp wide.length wc, .slice hp high.length hc] 29)) w.heap.size 29 #[.slice wp wide.length wc, .slice hp high.length hc] := Blk.new' rfl
  have hE0 : Ext w (w.alloc (.cells #[.slice wp wide.length wc, .slice hp high.length hc] 29)) := (Ext.refl _).alloc _
  have hck2 := hck _ hE0
  replace hck2 := Lib.hid hck2
  replace h1 := Lib.hid h1
  replace h2 := Lib.hid h2
  replace h3 := Lib.hid h3
  replace h4 := Lib.hid h4
  clear hck
  go_enter Tryz.func60, Tryz.ntmps60
  go_wp2_with (go_at_call 62; (with_reducible refine Calls.mono hck2.out ?_); rintro e w1 ⟨rfl, hb1⟩; obtain ⟨y1, -⟩ := (hX.ext hb1).walk; have ly := (hX.ext hb1).lt)
  go_ret2
  have hE1 := (hE0.trans hb1).alloc (.cells #[.slice pp P.length pc, .slice wp wide.length wc, .slice hp high.length hc, .slice lp S.length lc] 130)
  exact ⟨w1.heap.size, rfl, (hE0.trans hb1).size, hE1, Blk.new' rfl, h1.out.ext hE1, h2.out.ext hE1, h3.out.ext hE1, h4.out.ext hE1⟩

def hidC (x : ByteArray × ByteArray) : List Value := [.string x.1, .string x.2]
theorem hidC_len (x : ByteArray × ByteArray) : (hidC x).length = 2 := rfl
theorem hid_one (x : ByteArray × ByteArray) : ∀ u ∈ hidC x, u.oneCell' = true := by simp [hidC, Value.oneCell']
theorem hidInfo : (Tryz.prog.info? 84).map (fun i => (i.zero, i.size, i.bytes)) = some (some (.agg #[.string ⟨#[]⟩, .string ⟨#[]⟩]), 2, 32) := by kernel_rfl
/-- Those whom one of the first i hides, of b. -/
def hidB (P : List PersonV) (wide high : List Int) (T : List StandV) (b : StandV) : List (ByteArray × ByteArray) := (T.filter fun a => hidesS P wide high a b).map fun a => (b.name, a.name)
theorem hidB_snoc {P : List PersonV} {wide high : List Int} {S : List StandV} {b a : StandV} {i : Nat} (h : S[i]? = some a) : hidB P wide high (S.take (i + 1)) b = if hidesS P wide high a b then hidB P wide high (S.take i) b ++ [(b.name, a.name)] else hidB P wide high (S.take i) b := by
  unfold hidB
  rw [take_snocL h, List.filter_append]
  cases hh : hidesS P wide high a b <;> simp [hh]
def hidTo (P : List PersonV) (wide high : List Int) (S : List StandV) (k : Nat) : List (ByteArray × ByteArray) := (S.take k).flatMap fun b => hidB P wide high S b
theorem hidTo_succ {P : List PersonV} {wide high : List Int} {S : List StandV} {b : StandV} {k : Nat} (h : S[k]? = some b) : hidTo P wide high S (k + 1) = hidTo P wide high S k ++ hidB P wide high S b := by
  unfold hidTo
  rw [take_snocL h, List.flatMap_append]
  simp
theorem hidTo_all (P : List PersonV) (wide high : List Int) (S : List StandV) : hidTo P wide high S S.length = hiddenL P wide high S := by
  unfold hidTo hiddenL
  rw [List.take_length]
  rfl
theorem hidB_len (P : List PersonV) (wide high : List Int) (T : List StandV) (b : StandV) : (hidB P wide high T b).length ≤ T.length := by
  unfold hidB
  rw [List.length_map]
  exact List.length_filter_le _ _
theorem hidTo_len (P : List PersonV) (wide high : List Int) (S : List StandV) : ∀ k, k ≤ S.length → (hidTo P wide high S k).length ≤ k * S.length
  | 0, _ => by simp [hidTo]
  | k + 1, h => by
    have ih := hidTo_len P wide high S k (by omega)
    obtain ⟨b, hb⟩ := getD_some (rfl : S.length = S.length) (show k < S.length by omega)
    rw [hidTo_succ hb, List.length_append, Nat.add_mul, Nat.one_mul]
    have := hidB_len P wide high S b
    omega

set_option maxRecDepth 100000 in
set_option maxHeartbeats 3200000 in
theorem hidesL_ok (pp : Option Addr) (pc : Nat) (P : List PersonV) (wp : Option Addr) (wc : Nat) (wide : List Int) (hp : Option Addr) (hc : Nat) (high : List Int) (lp : Option Addr) (lc : Nat) (S : List StandV) (w : World) (h1 : Slc 3 perC w pp P.length pc P) (h2 : Slc 1 intC w wp wide.length wc wide) (h3 : Slc 1 intC w hp high.length hc high) (h4 : Slc 3 staC w lp S.length lc S) (hok : StandsOk P wide high S)
    (hck : ∀ u, Ext w u → Calls Tryz.prog 62 #[.slice pp P.length pc, .agg #[.slice wp wide.length wc, .slice hp high.length hc], .slice lp S.length lc] u fun e w' => e = .returned (.int .i64 0) ∧ Ext u w') :
    Calls Tryz.prog 46 #[.slice pp P.length pc, .agg #[.slice wp wide.length wc, .slice hp high.length hc], .slice lp S.length lc] w fun e w' => ∃ (q : Option Addr) (c : Nat), e = .returned (.tuple #[.slice q (hiddenL P wide high S).length c, .int .i64 0]) ∧ Slc 2 hidC w' q (hiddenL P wide high S).length c (hiddenL P wide high S) ∧ Ext w w' := by
  have hX : Blk (w.alloc (.cells #[.slice wp wide.length wc, .slice hp high.length hc] 29)) w.heap.size 29 #[.slice wp wide.length wc, .slice hp high.length hc] := Blk.new' rfl
  have hE0 : Ext w (w.alloc (.cells #[.slice wp wide.length wc, .slice hp high.length hc] 29)) := (Ext.refl _).alloc _
  have hco := choirOf_ok pp pc P wp wc wide hp hc high lp lc S _ (h1.ext hE0) (h2.ext hE0) (h3.ext hE0) (h4.ext hE0) fun u hu => hck u (hE0.trans hu)
  have hlen := hok.len
  replace hco := Lib.hid hco
  replace hok := Lib.hid hok
  clear hck h1 h2 h3 h4
  go_enter Tryz.func46, Tryz.ntmps46
  go_wp2_with (go_at_call 60; (with_reducible refine Calls.mono hco.out ?_); rintro e w1 ⟨g, rfl, hg, hb1, hM⟩)
  have hE1 := hE0.trans hb1
  clear hco
  go_loopw [10, 25] (fun v10 v25 wr => ∃ (k n : Nat) (v : Value), v10 = v ∧ v25 = .int .i64 k ∧ k ≤ S.length ∧ wr.ownsRow w1.heap.size 84 2 v n ((hidTo P wide high S k).flatMap hidC) ∧ n = (hidTo P wide high S k).length ∧ Ext w1 wr) (fun _ v25 _ => S.length - (intOf v25).toNat)
  case atStart => exact ⟨0, 0, _, rfl, rfl, Nat.zero_le _, World.ownsRow_nil _ _ _ _, rfl, Ext.refl _⟩
  case round =>
    obtain ⟨k, n, v, rfl, rfl, hk, hown, rfl, hE⟩ := hrel
    by_cases hlt : k < S.length
    · obtain ⟨b, hb⟩ := getD_some (rfl : S.length = S.length) hlt
      have hkI : (k : Int) < S.length := by omega
      have hbnd := hidTo_len P wide high S k hk
      have hbnd2 : k * S.length ≤ 200 * 200 := Nat.mul_le_mul (by omega) (by omega)
      have hsu := hidTo_succ (P := P) (wide := wide) (high := high) hb
      replace hown := Lib.hid hown
      replace hb := Lib.hid hb
      replace hsu := Lib.hid hsu
      go_wp2
      try rw [show decide ((k : Int) < (S.length : Int)) = true from decide_eq_true hkI]
      go_loopw [10, 30] (fun v10 v30 wq => ∃ (i n : Nat) (v : Value), v10 = v ∧ v30 = .int .i64 i ∧ i ≤ S.length ∧ wq.ownsRow w1.heap.size 84 2 v n ((hidTo P wide high S k ++ hidB P wide high (S.take i) b).flatMap hidC) ∧ n = (hidTo P wide high S k ++ hidB P wide high (S.take i) b).length ∧ Ext w1 wq) (fun _ v30 _ => S.length - (intOf v30).toNat)
      case atStart => exact ⟨0, _, _, rfl, rfl, Nat.zero_le _, by simpa [hidB] using hown.out, by simp [hidB], hE⟩
      case round =>
        clear hown hE
        obtain ⟨i, n, v, rfl, rfl, hi, hown, rfl, hE⟩ := hrel
        by_cases hil : i < S.length
        · obtain ⟨a, ha⟩ := getD_some (rfl : S.length = S.length) hil
          have hiI : (i : Int) < S.length := by omega
          have hMr := hM.more hE
          have hhd := hides_any g pp pc P wp wc wide hp hc high lp lc S wr hMr hok.out.po hok.out.wo hok.out.ho hok.out.wh (by omega) hok.out.on hok.out.all ha hb.out
          have hsn := hidB_snoc (P := P) (wide := wide) (high := high) (b := b) ha
          have hbl := hidB_len P wide high (S.take i) b
          have htl : (S.take i).length ≤ 200 := by rw [List.length_take]; omega
          cases hh : hidesS P wide high a b
          · rw [hh] at hhd hsn
            simp only [Bool.false_eq_true, if_false] at hsn
            replace hhd := Lib.hid hhd
            replace hsn := Lib.hid hsn
            replace hown := Lib.hid hown
            go_wp2_with (go_at_call 84; (with_reducible refine Calls.mono hhd.out ?_); rintro e w2 ⟨rfl, hb2⟩)
            go_roundw
            case rel => exact ⟨i + 1, _, _, rfl, by go_num, by omega, by rw [hsn.out]; exact own_ext hb2 hown.out, by rw [hsn.out], hE.trans hb2⟩
            case measure => simp [intOf]; omega
          · rw [hh] at hhd hsn
            simp only [if_true] at hsn
            rcases (slcC hMr.sta).2 with ⟨-, e⟩ | ⟨sb, so, hsb, hsbw, hEl⟩
            · rw [e] at ha; cases ha
            have c0 := (hEl.sta ha).1
            have d0 := (hEl.sta hb.out).1
            subst hsb
            replace hhd := Lib.hid hhd
            replace hsn := Lib.hid hsn
            replace hown := Lib.hid hown
            replace ha := Lib.hid ha
            clear hMr hEl
            go_upto_region 12 with (go_at_call 84; (with_reducible refine Calls.mono hhd.out ?_); rintro e w2 ⟨rfl, hb2⟩)
            refine wp_region_facts [] [([], false, false), ([], false, false), ([], false, false), ([1, 2], false, false), ([1, 2, 3], false, false), ([1, 2, 3, 4], false, false), ([], false, false), ([], false, false), ([6, 7], false, false), ([6, 7, 8], false, false), ([6, 7, 8, 9], false, false), ([1, 2, 3, 4, 5, 6, 7, 8, 9, 10], false, false), ([1, 2, 3, 4, 5, 6, 7, 8, 9, 10, 11], false, true)] (Ext) Ext (fun _ => True) (by kernel_rfl) (by kernel_rfl) Ext.refl (fun _ _ _ => Ext.trans) (fun _ _ h => h) (fun _ _ h => h.size) (fun _ _ h _ => h) trivial ?_
            dsimp only [List.length_cons, List.length_nil, List.drop_succ_cons, List.drop_zero, List.drop_nil]
            refine fac_quiet 0 rfl rfl rfl (fun _ _ h _ => h) rfl rfl ?_
            apply Exists.intro
            refine ⟨fun sv w' hw' hfa => ?_, ?_⟩
            · refine ⟨rfl, ?_⟩
              simp only [putsL]
              change quietTo _ _ _ _ (Sem.run _ (execOp (Act.eval _) _) _)
              try simp only [Act.put, List.setIfInBounds_toArray, List.set_cons_succ, List.set_cons_zero]
              simp [go_sem, quietTo, Ext.refl]
              all_goals first
                | rfl
            refine fac_quiet 1 rfl rfl rfl (fun _ _ h _ => h) rfl rfl ?_
            apply Exists.intro
            refine ⟨fun sv w' hw' hfa => ?_, ?_⟩
            · refine ⟨rfl, ?_⟩
              simp only [putsL]
              change quietTo _ _ _ _ (Sem.run _ (execOp (Act.eval _) _) _)
              try simp only [Act.put, List.setIfInBounds_toArray, List.set_cons_succ, List.set_cons_zero]
              simp [go_sem, quietTo, Ext.refl]
              all_goals first
                | rfl
            refine fac_quiet 2 rfl rfl rfl (fun _ _ h _ => h) rfl rfl ?_
            apply Exists.intro
            refine ⟨fun sv w' hw' hfa => ?_, ?_⟩
            · refine ⟨rfl, ?_⟩
              simp only [putsL]
              change quietTo _ _ _ _ (Sem.run _ (execOp (Act.eval _) _) _)
              try simp only [Act.put, List.setIfInBounds_toArray, List.set_cons_succ, List.set_cons_zero]
              simp [go_sem, quietTo, Ext.refl]
              all_goals first
                | rfl
            refine fac_quiet 3 rfl rfl rfl (fun _ _ h _ => h) rfl rfl ?_
            apply Exists.intro
            refine ⟨fun sv w' hw' hfa => ?_, ?_⟩
            · obtain ⟨f1, f2, -⟩ := hfa
              replace f1 : sv 1 = _ := f1
              try dsimp only at f1
              replace f2 : sv 2 = _ := f2
              try dsimp only at f2
              have hk9 := (Ext.refl w2).drew.trans hw'; obtain ⟨hc9, hff, hz9⟩ := (hb2.trans hk9).walk; have v1 := (hc9 _ _ hsbw).trans c0; have v2 := (hc9 _ _ hsbw).trans d0
              refine ⟨rfl, ?_⟩
              simp only [putsL]
              change quietTo _ _ _ _ (Sem.run _ (execOp (Act.eval (Act.put (Act.put _ (some 39) (sv 2)) (some 38) (sv 1))) _) _)
              try simp only [Act.put, List.setIfInBounds_toArray, List.set_cons_succ, List.set_cons_zero]
              simp [go_sem, quietTo, Ext.refl, ↓IntWalk.iteOmega, f1, f2, hkI]
              all_goals try simp (disch := omega) only [IntWalk.i64_in]
              all_goals first
                | rfl
            refine fac_quiet 4 rfl rfl rfl (fun _ _ h _ => h) rfl rfl ?_
            apply Exists.intro
            refine ⟨fun sv w' hw' hfa => ?_, ?_⟩
            · obtain ⟨_, _, f3, -⟩ := hfa
              replace f3 : sv 3 = _ := f3
              try dsimp only at f3
              refine ⟨rfl, ?_⟩
              simp only [putsL]
              change quietTo _ _ _ _ (Sem.run _ (execOp (Act.eval (Act.put (Act.put (Act.put _ (some 40) (sv 3)) (some 39) (sv 2)) (some 38) (sv 1))) _) _)
              try simp only [Act.put, List.setIfInBounds_toArray, List.set_cons_succ, List.set_cons_zero]
              simp [go_sem, quietTo, Ext.refl, f3]
              all_goals first
                | rfl
            refine fac_quiet 5 rfl rfl rfl (fun _ _ h _ => h) rfl rfl ?_
            apply Exists.intro
            refine ⟨fun sv w' hw' hfa => ?_, ?_⟩
            · obtain ⟨_, _, _, f4, -⟩ := hfa
              replace f4 : sv 4 = _ := f4
              try dsimp only at f4
              have hk9 := (Ext.refl w2).drew.trans hw'; obtain ⟨hc9, hff, hz9⟩ := (hb2.trans hk9).walk; have v1 := (hc9 _ _ hsbw).trans c0; have v2 := (hc9 _ _ hsbw).trans d0
              refine ⟨rfl, ?_⟩
              simp only [putsL]
              change quietTo _ _ _ _ (Sem.run _ (execOp (Act.eval (Act.put (Act.put (Act.put (Act.put _ (some 41) (sv 4)) (some 40) (sv 3)) (some 39) (sv 2)) (some 38) (sv 1))) _) _)
              try simp only [Act.put, List.setIfInBounds_toArray, List.set_cons_succ, List.set_cons_zero]
              simp [go_sem, quietTo, Ext.refl, ↓IntWalk.iteOmega, f4, v2]
              all_goals try simp (disch := omega) only [IntWalk.i64_in]
              all_goals first
                | rfl
            refine fac_quiet 6 rfl rfl rfl (fun _ _ h _ => h) rfl rfl ?_
            apply Exists.intro
            refine ⟨fun sv w' hw' hfa => ?_, ?_⟩
            · refine ⟨rfl, ?_⟩
              simp only [putsL]
              change quietTo _ _ _ _ (Sem.run _ (execOp (Act.eval _) _) _)
              try simp only [Act.put, List.setIfInBounds_toArray, List.set_cons_succ, List.set_cons_zero]
              simp [go_sem, quietTo, Ext.refl]
              all_goals first
                | rfl
            refine fac_quiet 7 rfl rfl rfl (fun _ _ h _ => h) rfl rfl ?_
            apply Exists.intro
            refine ⟨fun sv w' hw' hfa => ?_, ?_⟩
            · refine ⟨rfl, ?_⟩
              simp only [putsL]
              change quietTo _ _ _ _ (Sem.run _ (execOp (Act.eval _) _) _)
              try simp only [Act.put, List.setIfInBounds_toArray, List.set_cons_succ, List.set_cons_zero]
              simp [go_sem, quietTo, Ext.refl]
              all_goals first
                | rfl
            refine fac_quiet 8 rfl rfl rfl (fun _ _ h _ => h) rfl rfl ?_
            apply Exists.intro
            refine ⟨fun sv w' hw' hfa => ?_, ?_⟩
            · obtain ⟨f6, f7, -⟩ := hfa
              replace f6 : sv 6 = _ := f6
              try dsimp only at f6
              replace f7 : sv 7 = _ := f7
              try dsimp only at f7
              have hk9 := (Ext.refl w2).drew.trans hw'; obtain ⟨hc9, hff, hz9⟩ := (hb2.trans hk9).walk; have v1 := (hc9 _ _ hsbw).trans c0; have v2 := (hc9 _ _ hsbw).trans d0
              refine ⟨rfl, ?_⟩
              simp only [putsL]
              change quietTo _ _ _ _ (Sem.run _ (execOp (Act.eval (Act.put (Act.put _ (some 44) (sv 7)) (some 43) (sv 6))) _) _)
              try simp only [Act.put, List.setIfInBounds_toArray, List.set_cons_succ, List.set_cons_zero]
              simp [go_sem, quietTo, Ext.refl, ↓IntWalk.iteOmega, f6, f7, hiI]
              all_goals try simp (disch := omega) only [IntWalk.i64_in]
              all_goals first
                | rfl
            refine fac_quiet 9 rfl rfl rfl (fun _ _ h _ => h) rfl rfl ?_
            apply Exists.intro
            refine ⟨fun sv w' hw' hfa => ?_, ?_⟩
            · obtain ⟨_, _, f8, -⟩ := hfa
              replace f8 : sv 8 = _ := f8
              try dsimp only at f8
              refine ⟨rfl, ?_⟩
              simp only [putsL]
              change quietTo _ _ _ _ (Sem.run _ (execOp (Act.eval (Act.put (Act.put (Act.put _ (some 45) (sv 8)) (some 44) (sv 7)) (some 43) (sv 6))) _) _)
              try simp only [Act.put, List.setIfInBounds_toArray, List.set_cons_succ, List.set_cons_zero]
              simp [go_sem, quietTo, Ext.refl, f8]
              all_goals first
                | rfl
            refine fac_quiet 10 rfl rfl rfl (fun _ _ h _ => h) rfl rfl ?_
            apply Exists.intro
            refine ⟨fun sv w' hw' hfa => ?_, ?_⟩
            · obtain ⟨_, _, _, f9, -⟩ := hfa
              replace f9 : sv 9 = _ := f9
              try dsimp only at f9
              have hk9 := (Ext.refl w2).drew.trans hw'; obtain ⟨hc9, hff, hz9⟩ := (hb2.trans hk9).walk; have v1 := (hc9 _ _ hsbw).trans c0; have v2 := (hc9 _ _ hsbw).trans d0
              refine ⟨rfl, ?_⟩
              simp only [putsL]
              change quietTo _ _ _ _ (Sem.run _ (execOp (Act.eval (Act.put (Act.put (Act.put (Act.put _ (some 46) (sv 9)) (some 45) (sv 8)) (some 44) (sv 7)) (some 43) (sv 6))) _) _)
              try simp only [Act.put, List.setIfInBounds_toArray, List.set_cons_succ, List.set_cons_zero]
              simp [go_sem, quietTo, Ext.refl, ↓IntWalk.iteOmega, f9, v1]
              all_goals try simp (disch := omega) only [IntWalk.i64_in]
              all_goals first
                | rfl
            refine fac_quiet 11 rfl rfl rfl (fun _ _ h _ => h) rfl rfl ?_
            apply Exists.intro
            refine ⟨fun sv w' hw' hfa => ?_, ?_⟩
            · obtain ⟨_, _, _, _, f5, _, _, _, _, f10, -⟩ := hfa
              replace f5 : sv 5 = _ := f5
              try dsimp only at f5
              replace f10 : sv 10 = _ := f10
              try dsimp only at f10
              refine ⟨rfl, ?_⟩
              simp only [putsL]
              change quietTo _ _ _ _ (Sem.run _ (execOp (Act.eval (Act.put (Act.put (Act.put (Act.put (Act.put (Act.put (Act.put (Act.put (Act.put (Act.put _ (some 47) (sv 10)) (some 46) (sv 9)) (some 45) (sv 8)) (some 44) (sv 7)) (some 43) (sv 6)) (some 42) (sv 5)) (some 41) (sv 4)) (some 40) (sv 3)) (some 39) (sv 2)) (some 38) (sv 1))) _) _)
              try simp only [Act.put, List.setIfInBounds_toArray, List.set_cons_succ, List.set_cons_zero]
              simp [go_sem, quietTo, Ext.refl, f5, f10]
              all_goals first
                | rfl
            refine fac_row 12 rfl rfl rfl (fun _ _ h _ => h) (fun _ _ h => h.size) (fun _ _ _ _ _ he _ hb => hb.ext he) ?_
            apply Exists.intro
            apply Exists.intro
            apply Exists.intro
            apply Exists.intro
            refine ⟨fun sv w' hw' hfa => ?_, ?_⟩
            · obtain ⟨_, _, _, _, _, _, _, _, _, _, f11, -⟩ := hfa
              replace f11 : sv 11 = _ := f11
              try dsimp only at f11
              refine ⟨rfl, ?_⟩
              simp only [putsL]
              change rowTo _ _ _ _ _ (Sem.run _ (execOp (Act.eval (Act.put (Act.put (Act.put (Act.put (Act.put (Act.put (Act.put (Act.put (Act.put (Act.put (Act.put _ (some 48) (sv 11)) (some 47) (sv 10)) (some 46) (sv 9)) (some 45) (sv 8)) (some 44) (sv 7)) (some 43) (sv 6)) (some 42) (sv 5)) (some 41) (sv 4)) (some 40) (sv 3)) (some 39) (sv 2)) (some 38) (sv 1))) _) _)
              try simp only [Act.put, List.setIfInBounds_toArray, List.set_cons_succ, List.set_cons_zero]
              simp [go_sem, rowTo, Ext.refl, f11]
              all_goals try simp (disch := omega) only [IntWalk.i64_in]
              all_goals first
                | rfl
                | exact ⟨rfl, rfl⟩
                | exact ⟨⟨rfl, rfl⟩, rfl⟩
            refine fac_nil fun xq wrq herq hfrq hcrq holdq hapq => ?_
            obtain ⟨f0, f1, f2, f3, f4, f5, f6, f7, f8, f9, f10, f11, f12, -⟩ := hfrq
            replace f0 : xq 0 = _ := f0
            try dsimp only at f0
            replace f1 : xq 1 = _ := f1
            try dsimp only at f1
            replace f2 : xq 2 = _ := f2
            try dsimp only at f2
            replace f3 : xq 3 = _ := f3
            try dsimp only at f3
            replace f4 : xq 4 = _ := f4
            try dsimp only at f4
            replace f5 : xq 5 = _ := f5
            try dsimp only at f5
            replace f6 : xq 6 = _ := f6
            try dsimp only at f6
            replace f7 : xq 7 = _ := f7
            try dsimp only at f7
            replace f8 : xq 8 = _ := f8
            try dsimp only at f8
            replace f9 : xq 9 = _ := f9
            try dsimp only at f9
            replace f10 : xq 10 = _ := f10
            try dsimp only at f10
            replace f11 : xq 11 = _ := f11
            try dsimp only at f11
            obtain ⟨g12, f12, l12, b12⟩ := f12
            replace f12 : xq 12 = _ := f12
            obtain ⟨p12, q12⟩ := b12.walk
            change wpList _ _ _ _ (Act.put (Act.put (Act.put (Act.put (Act.put (Act.put (Act.put (Act.put (Act.put (Act.put (Act.put (Act.put (Act.put _ (some 37) (xq 0)) (some 38) (xq 1)) (some 39) (xq 2)) (some 40) (xq 3)) (some 41) (xq 4)) (some 42) (xq 5)) (some 43) (xq 6)) (some 44) (xq 7)) (some 45) (xq 8)) (some 46) (xq 9)) (some 47) (xq 10)) (some 48) (xq 11)) (some 49) (xq 12)) _
            simp only [putsL, Nat.reduceAdd, List.drop_succ_cons, List.drop_zero, List.drop_nil, Act.put, List.setIfInBounds_toArray, List.set_cons_succ, List.set_cons_zero]
            try simp only [f0, f1, f2, f3, f4, f5, f6, f7, f8, f9, f10, f11, f12]
            clear f0 f1 f2 f3 f4 f5 f6 f7 f8 f9 f10 f11
            clear holdq hapq
            have hkq := hb2.trans ((Ext.refl w2).drew.trans herq)
            have hoq := own_ext hkq hown.out
            have hszq := (hE.trans hkq).size
            go_wp2_with (at_builtin; go_loud (refine wp_app1 _ (.tmp 37) (.tmp 49) 79 84 2 32 _ rfl rfl Tryz.underlying79 hidInfo rfl (by decide) (by decide) w1.heap.size _ _ _ rfl hoq _ (hidC (b.name, a.name)) rfl rfl b12 (hid_one _) (by rw [List.length_append]; omega) (by omega) ?_; intro v' w6 hown6 hgrow6 _))
            go_roundw
            case rel => exact ⟨i + 1, _, v', rfl, by go_num, by omega, by rw [hsn.out, ← List.append_assoc, flat_snoc]; exact hown6, by rw [hsn.out, ← List.append_assoc, List.length_append (bs := [_])]; rfl, (hE.trans hkq).grown hgrow6 fun j e => (hoq.lt j e).1⟩
            case measure => simp [intOf]; omega
        · obtain rfl : i = S.length := by omega
          rw [List.take_length] at hown
          rw [← hsu.out] at hown
          replace hown := Lib.hid hown
          go_wp2
          go_roundw
          case rel => exact ⟨k + 1, _, _, rfl, by go_num, by omega, hown.out, rfl, hE⟩
          case measure => simp [intOf]; omega
    · obtain rfl : k = S.length := by omega
      have hbnd := hidTo_len P wide high S S.length (Nat.le_refl _)
      have hbnd2 : S.length * S.length ≤ 200 * 200 := Nat.mul_le_mul hlen hlen
      rw [hidTo_all] at hown hbnd
      obtain ⟨q, c, rfl, hSl⟩ := slc_of_own hidC_len hown (by decide) (by omega)
      replace hSl := Lib.hid hSl
      clear hown
      go_wp2
      go_ret2
      exact ⟨q, c, rfl, hSl.out, hE1.trans hE⟩
end Go.Proofs.YtfcoeikekbjgpaaGreatDoor
