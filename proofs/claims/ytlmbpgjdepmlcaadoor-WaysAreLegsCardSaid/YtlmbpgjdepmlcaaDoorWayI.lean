/- The shortest way between two places. Conditions: the legs are right, the places are keys. -/
import Derived.Test.YtlmbpgjdepmlcaaDoorWayJ
import Derived.Test.YtlmbpgjdepmlcaaDoorWayN
import Derived.Test.YtlmbpgjdepmlcaaDoorWayB
import Derived.Test.YtlmbpgjdepmlcaaDoorApp
namespace Go.Proofs.YtlmbpgjdepmlcaaDoor
open Go Go.RowKit

/-- What the map of ways to t is. -/
def WaysOf (L : List LegV) (t : ByteArray) (f : St) : Prop := (L.any (onLeg t) = true ∧ Inv L t f ∧ Settled L f L.length) ∨ (L.any (onLeg t) = false ∧ f = fun _ => none)

/-- What Shortest answers, by the map of ways. -/
def ShortRes (L : List LegV) (a t : ByteArray) (f : St) (e : Ending) (w' : World) : Prop := ((f a = none ∧ e = .returned (.tuple #[.int .i64 0, .slice none 0 0, .bool false, .int .i64 0])) ∨
      ∃ (v : Int × Int) (q : Option Addr) (k cc : Nat) (ps : List ByteArray) (xs : List LegV), f a = some v ∧ e = .returned (.tuple #[.int .i64 v.1, .slice q k cc, .bool true, .int .i64 0]) ∧ Slc 1 strC w' q k cc ps ∧ Chain L ps xs ∧ minutesL xs = v.1 ∧ (xs.length : Int) = v.2 ∧ ps[0]? = some a ∧ ps[xs.length]? = some t)

/-- A row of the call's own is no block of another type. -/
theorem own_ne {w : World} {base k n g : Nat} {t e : TypeId} {v : Value} {xs : List Value} {cs : Array Value} (ho : w.ownsRow base e k v n xs) (h : Blk w g t cs) (ht : t ≠ e) : v.ownBlock ≠ some g := by
  rcases ho.2 with ⟨rfl, _⟩ | ⟨b, cap, cur, rfl, _, h3, _⟩
  · simp [Value.ownBlock]
  · intro e1
    have e2 : b = g := by simpa [Value.ownBlock] using e1
    subst e2
    unfold Blk at h
    rw [h3] at h
    simp at h
    exact ht h.2.symm
theorem Blk.appN {b c : World} {base g k n : Nat} {t e : TypeId} {v : Value} {xs : List Value} {cs : Array Value} (h : Blk b g t cs) (ho : b.ownsRow base e k v n xs) (ht : t ≠ e) (hg : b.grownBy c v.ownBlock) : Blk c g t cs :=
  (hg.block g h.lt fun e1 => own_ne ho h ht e1.symm).trans h
theorem grownBy_set (w : World) (p : Addr) (u : Value) : w.grownBy (w.setCell p u) (some p.block) :=
  ⟨rfl, rfl, rfl, by simp [World.setCell], fun k _ h => Below.heap_setCell w p u k fun e => h (e ▸ rfl)⟩

set_option maxRecDepth 100000 in
set_option maxHeartbeats 6400000 in
theorem shortest_any (p : Option Addr) (n c : Nat) (L : List LegV) (a t : ByteArray) (w : World) (hS : Slc 3 legC w p n c L) (hz : legsF L = 0) (hs : ∀ x ∈ L, x.Small) (ha : keyB a = true) (ht : keyB t = true) (ha2 : a.size ≤ 1000) (ht2 : t.size ≤ 1000) :
    Calls Tryd.prog 10 #[.slice p n c, .string a, .string t] w fun e w' => ∃ f : St, WaysOf L t f ∧ Ext w w' ∧ ShortRes L a t f e w' := by
  obtain ⟨hL, hL2⟩ := legsF_ok hz
  have hln := hL.len
  have hck := checkLegs_any p n c L w hS.1 hs (by rw [← hS.1.1]; omega)
  rw [hz] at hck
  have hk1 := fun u => isKey_is ha (by omega) u
  have hk2 := fun u => isKey_is ht (by omega) u
  replace hk1 := Lib.hid hk1
  replace hk2 := Lib.hid hk2
  replace hL2 := Lib.hid hL2
  go_enter Tryd.func10, Tryd.ntmps10
  go_upto_region 6 with (first
    | (go_at_call 37; (with_reducible refine Calls.mono hck ?_); rintro e w1 ⟨rfl, hb1⟩)
    | (go_at_call 38; (with_reducible refine Calls.mono (hk1.out _) ?_); rintro e w2 ⟨rfl, hb2⟩)
    | (go_at_call 38; (with_reducible refine Calls.mono (hk2.out _) ?_); rintro e w3 ⟨rfl, hb3⟩))
  have hE3 := (hb1.trans hb2).trans hb3
  have hway := waysTo_any p n c L t w3 (hS.ext hE3) hL hs ht2
  clear hck hb1 hb2 hb3 hk1 hk2
  go_upto_region 7 with (go_at_call 39; (with_reducible refine Calls.mono hway ?_); rintro e w4 ⟨mb, f, rfl, hmb, hO, hb4, hcase⟩)
  have hE4 := hE3.trans hb4
  have hl := (hO.ext ((Ext.refl w4).alloc (.cells #[.map (some mb)] 77))).look_ok (p := a) ha2
  cases hfa : f a with
  | none =>
    rw [hfa] at hl
    replace hl : (Instr.lookup 77 (.map (some mb)) (.string a) true).run Tryd.prog (w4.alloc (.cells #[.map (some mb)] 77)) = .ok (.tuple #[.agg #[.int .i64 0, .int .i64 0], .bool false]) (w4.alloc (.cells #[.map (some mb)] 77)) := hl
    go_wp2_with (refine wpList_look rfl _ _ 77 true rfl (.map (some mb)) (.string a) _ rfl rfl hl ?_)
    go_light
    exact bodyPost_ret (v := .tuple #[.int .i64 0, .slice none 0 0, .bool false, .int .i64 0]) (by simp [results, Tryd.results10, go_sem]) rfl ⟨f, hcase, (hE4.alloc _).alloc _, .inl ⟨hfa, rfl⟩⟩
  | some v =>
    obtain ⟨v1, v2⟩ := v
    rw [hfa] at hl
    replace hl : (Instr.lookup 77 (.map (some mb)) (.string a) true).run Tryd.prog (w4.alloc (.cells #[.map (some mb)] 77)) = .ok (.tuple #[.agg #[.int .i64 v1, .int .i64 v2], .bool true]) (w4.alloc (.cells #[.map (some mb)] 77)) := hl
    go_wp2_with (refine wpList_look rfl _ _ 77 true rfl (.map (some mb)) (.string a) _ rfl rfl hl ?_)
    obtain ⟨W, hW⟩ : ∃ W, W = (((((w4.alloc (.cells #[.map (some mb)] 77)).alloc (.cells #[.int .i64 v1, .int .i64 v2] 80)).alloc (.cells #[.string a] 9)).alloc (.cells #[.slice (some ⟨w4.heap.size + 1 + 1, 0, none⟩) 1 1] 32)).alloc (.cells #[.int .i64 v1, .int .i64 v2] 80)) := ⟨_, rfl⟩
    have hM : Blk W w4.heap.size 77 #[.map (some mb)] := hW ▸ ((((Blk.new' rfl).alloc _).alloc _).alloc _).alloc _
    have hR : Blk W (w4.heap.size + 1) 80 #[.int .i64 v1, .int .i64 v2] := hW ▸ (((Blk.new' (by simp)).alloc _).alloc _).alloc _
    have hown : W.ownsRow (w4.heap.size + 1 + 1) 9 1 (.slice (some ⟨w4.heap.size + 1 + 1, 0, none⟩) 1 1) 1 (List.flatMap strC [a]) := by
      have := (World.ownsRow_lit (base := w4.heap.size + 1 + 1) (e := 9) (size := 1) ((w4.alloc (.cells #[.map (some mb)] 77)).alloc (.cells #[.int .i64 v1, .int .i64 v2] 80)) #[.string a] 1 (by simp) (by decide) rfl)
      simp only [World.size_alloc] at this
      exact hW ▸ (this.alloc _).alloc _
    have hP : Blk W (w4.heap.size + 1 + 1 + 1) 32 #[.slice (some ⟨w4.heap.size + 1 + 1, 0, none⟩) 1 1] := hW ▸ (Blk.new' (by simp)).alloc _
    have hV : Blk W (w4.heap.size + 1 + 1 + 1 + 1) 80 #[.int .i64 v1, .int .i64 v2] := hW ▸ Blk.new' (by simp)
    have hOW : OwnW W mb (placesL L) f := hW ▸ hO.ext ((((((Ext.refl w4).alloc _).alloc _).alloc _).alloc _).alloc _)
    have hEW : Ext w W := hW ▸ (((((hE4.alloc _).alloc _).alloc _).alloc _).alloc _)
    change Code.wp _ _ _ _ (((((w4.alloc (.cells #[.map (some mb)] 77)).alloc (.cells #[.int .i64 v1, .int .i64 v2] 80)).alloc (.cells #[.string a] 9)).alloc (.cells #[.slice (some ⟨w4.heap.size + 1 + 1, 0, none⟩) 1 1] 32)).alloc (.cells #[.int .i64 v1, .int .i64 v2] 80))
    rw [← hW]
    have h4 := hE4.size
    have hmg := hO.lt
    clear hl hO hE4 hW hway
    generalize hm4 : w4.heap.size = g at *
    have hgW : g + 1 + 1 + 1 + 1 < W.heap.size := hV.lt
    clear hm4
    go_loopg [15] v2.toNat (fun gn v15 wr => ∃ (V1 : Nat) (u : Int × Int) (ps : List ByteArray) (xs : List LegV) (val : Value) (k : Nat) (last : ByteArray), v15 = .pointer (some ⟨V1, 0, none⟩) ∧ Blk wr V1 80 #[.int .i64 u.1, .int .i64 u.2] ∧ V1 ≠ g + 1 + 1 + 1 ∧ g + 1 < V1 ∧ Blk wr (g + 1 + 1 + 1) 32 #[val] ∧ wr.ownsRow (g + 1 + 1) 9 1 val k (ps.flatMap strC) ∧ val.ownBlock ≠ some (g + 1 + 1 + 1) ∧ Blk wr g 77 #[.map (some mb)] ∧ Blk wr (g + 1) 80 #[.int .i64 v1, .int .i64 v2] ∧ OwnW wr mb (placesL L) f ∧ Ext w wr ∧ Chain L ps xs ∧ minutesL xs + u.1 = v1 ∧ (xs.length : Int) + u.2 = v2 ∧ f last = some u ∧ ps[xs.length]? = some last ∧ ps[0]? = some a ∧ gn = u.2.toNat)
    case atStart => exact ⟨_, (v1, v2), [a], [], _, 1, a, rfl, hV, by omega, by omega, hP, hown, by simp [Value.ownBlock], hM, hR, hOW, hEW, Chain.start L a, by simp [minutesL], by simp, hfa, rfl, rfl, rfl⟩
    case round =>
      clear hV hP hown hM hR hOW hEW
      obtain ⟨V1, ⟨u1, u2⟩, ps, xs, val, k, last, rfl, hV, hV1, hV2, hP, hown, hne, hM, hR, hO, hE, hC, hm1, hm2, hlast, hps, hp0, rfl⟩ := hrel
      have hIS : Inv L t f ∧ Settled L f L.length := by
        rcases hcase with ⟨_, h1, h2⟩ | ⟨_, h1⟩
        · exact ⟨h1, h2⟩
        · rw [h1] at hfa; cases hfa
      obtain ⟨hI, hSt⟩ := hIS
      have hst := steps_le hL hI hSt hlast
      have hst0 := steps_le hL hI hSt hfa
      have hkk : k = xs.length + 1 := by
        have h1 := hown.1
        have h2 : (ps.flatMap strC).length = ps.length := by
          clear hps hp0 hC hown h1
          induction ps with
          | nil => rfl
          | cons z l ih => rw [List.flatMap_cons, List.length_append, ih]; simp [strC]; omega
        rw [h2, hC.1] at h1
        omega
      simp only at hm1 hm2 hst
      by_cases hu : 0 < u2
      · obtain ⟨x, hxL, hxf, r, hr, hbw⟩ := settled_leg hL hI hSt hlast hu
        have hfine : ∀ x ∈ L, x.Fine := fun x hx => ⟨(hs x hx).1, (hs x hx).2.1, (hL.one x hx).1, (hL.one x hx).2⟩
        have hbd : ∀ q r, f q = some r → 0 ≤ r.2 ∧ r.2 ≤ r.1 ∧ r.1 ≤ 80000000001 := fun q r hq => by
          have h1 := hI.bound hL (m := r.1) (k := r.2) hq
          have h2 : bigB L ≤ 80000000001 := by unfold bigB; rw [places_len]; omega
          omega
        obtain ⟨hn, ⟨-, rfl⟩ | ⟨b, off, rfl, hb, hEl⟩⟩ := slc_cases hS
        · cases hxL
        · subst hn
          obtain ⟨pb, mc, rfl, hpb, hcl⟩ : ∃ pb mc, val = .slice (some ⟨pb, 0, none⟩) (xs.length + 1) mc ∧ pb < wr.heap.size ∧ wr.cell? ⟨pb, xs.length, none⟩ = some (.string last) := by
            have hown' := hown
            rcases hown.2 with ⟨_, h2⟩ | ⟨pb, cap, cur, rfl, h2, h3, h4⟩
            · omega
            · rw [hkk] at hown' ⊢
              refine ⟨pb, cap, rfl, (Array.getElem?_eq_some_iff.1 h3).1, ?_⟩
              have := own_cell (enc := strC) (fun _ => rfl) hown' hps 0 (v := .string last) rfl (by omega)
              simpa using this
          have hM0 := hM.cell 0
          have hP0 := hP.cell 0
          have hV0 := hV.cell 0
          have hV9 := hV.cell 1
          have lM := hM.lt
          have lP := hP.lt
          have lV := hV.lt
          have hidx := legIdx_any (fitB f last (u1, u2)) 40 #[.pointer (some ⟨g, 0, none⟩), .pointer (some ⟨g + 1 + 1 + 1, 0, none⟩), .pointer (some ⟨V1, 0, none⟩)] (enters_of Tryd.func40 (by kernel_rfl) rfl) b off L.length c L wr hfine
            (fun W y hy hW => by
              obtain ⟨hc, _, hz9⟩ := hW.walk
              exact short1_any y f (placesL L) g (g + 1 + 1 + 1) V1 mb pb xs.length mc last (u1, u2) W hy (hO.ext hW) hbd (by omega) (by omega) (by omega) (by omega) (by omega) ((hc _ _ lM).trans hM0) ((hc _ _ lP).trans (by rw [hP0, ← hkk]; rfl)) ((hc _ _ hpb).trans hcl) ((hc _ _ lV).trans hV0) ((hc _ _ lV).trans hV9))
            rfl (by omega) (Nat.lt_of_lt_of_le hb hE.size) (hEl.ext hE hb)
          have hfit : fitB f last (u1, u2) x = true := by
            unfold fitB
            rw [hr, hxf]
            have e1 : r.1 + x.m = u1 := congrArg Prod.fst hbw
            have e2 : r.2 + 1 = u2 := congrArg Prod.snd hbw
            simp [e1, e2]
          replace hcl := Lib.hid hcl
          replace hC := Lib.hid hC
          replace hfine := Lib.hid hfine
          replace hbd := Lib.hid hbd
          clear hM0 hP0 hV0 hV9
          obtain ⟨y1, -⟩ := hV.walk
          go_upto_region 14 with (go_at_call 11; (with_reducible refine Calls.mono hidx ?_); rintro e w5 ⟨i, rfl, hb5, hor⟩)
          obtain ⟨j, x', hj, hfx, rfl⟩ : ∃ (j : Nat) (x' : LegV), L[j]? = some x' ∧ fitB f last (u1, u2) x' = true ∧ i = (j : Int) := by
            rcases hor with ⟨_, h2⟩ | h2
            · rw [h2 x hxL] at hfit; cases hfit
            · exact h2
          clear hor hfit hidx hxf hr hbw hxL
          obtain ⟨r', hr', hxf', hs1, hs2⟩ : ∃ r', f x'.to = some r' ∧ x'.fr = last ∧ r'.1 + x'.m = u1 ∧ r'.2 + 1 = u2 := by
            unfold fitB at hfx
            cases hf' : f x'.to with
            | none => rw [hf'] at hfx; simp at hfx
            | some r' =>
              rw [hf'] at hfx
              simp only [Option.isSome_some, Option.getD_some, Bool.true_and, Bool.and_eq_true, decide_eq_true_eq] at hfx
              exact ⟨r', rfl, bytes_beq.1 hfx.1, hfx.2.1, hfx.2.2⟩
          have hjl := (List.getElem?_eq_some_iff.1 hj).1
          have hj1 : (j : Int) < L.length := by omega
          have hE5 := hE.trans hb5
          have hbw := Nat.lt_of_lt_of_le hb hE5.size
          obtain ⟨e0, e1, e2⟩ := (hEl.ext hE5 hb).leg hj
          have hP5 := hP.ext hb5
          have hM5 := hM.ext hb5
          have hO5 := hO.ext hb5
          clear e0 e2
          refine wp_region_facts [] [([], false, false), ([], false, false), ([], false, false), ([1, 2], false, false), ([1, 2, 3], false, false), ([1, 2, 3, 4], false, false), ([1, 2, 3, 4, 5], false, true)] (Ext) Ext (fun _ => True) (by kernel_rfl) (by kernel_rfl) Ext.refl (fun _ _ _ => Ext.trans) (fun _ _ h => h) (fun _ _ h => h.size) (fun _ _ h _ => h) trivial ?_
          dsimp only [List.length_cons, List.length_nil, List.drop_succ_cons, List.drop_zero, List.drop_nil]
          refine fac_quiet 0 rfl rfl rfl (fun _ _ h _ => h) rfl rfl ?_
          apply Exists.intro
          refine ⟨fun sv w' hw' hfa => ?_, ?_⟩
          · have hk9 := (Ext.refl w5).drew.trans hw'; obtain ⟨hc, hff, hz9⟩ := hk9.walk; obtain ⟨y2, -⟩ := (hP5.ext hk9).walk; have y3 := (hc _ _ hbw).trans e1
            refine ⟨rfl, ?_⟩
            simp only [putsL]
            change quietTo _ _ _ _ (Sem.run _ (execOp (Act.eval _) _) _)
            try simp only [Act.put, List.setIfInBounds_toArray, List.set_cons_succ, List.set_cons_zero]
            simp [go_sem, quietTo, Ext.refl, ↓IntWalk.iteOmega, y2]
            all_goals try simp (disch := omega) only [IntWalk.i64_in]
            all_goals first
              | rfl
          refine fac_quiet 1 rfl rfl rfl (fun _ _ h _ => h) rfl rfl ?_
          apply Exists.intro
          refine ⟨fun sv w' hw' hfa => ?_, ?_⟩
          · have hk9 := (Ext.refl w5).drew.trans hw'; obtain ⟨hc, hff, hz9⟩ := hk9.walk; obtain ⟨y2, -⟩ := (hP5.ext hk9).walk; have y3 := (hc _ _ hbw).trans e1
            refine ⟨rfl, ?_⟩
            simp only [putsL]
            change quietTo _ _ _ _ (Sem.run _ (execOp (Act.eval _) _) _)
            try simp only [Act.put, List.setIfInBounds_toArray, List.set_cons_succ, List.set_cons_zero]
            simp [go_sem, quietTo, Ext.refl]
            all_goals try simp (disch := omega) only [IntWalk.i64_in]
            all_goals first
              | rfl
          refine fac_quiet 2 rfl rfl rfl (fun _ _ h _ => h) rfl rfl ?_
          apply Exists.intro
          refine ⟨fun sv w' hw' hfa => ?_, ?_⟩
          · have hk9 := (Ext.refl w5).drew.trans hw'; obtain ⟨hc, hff, hz9⟩ := hk9.walk; obtain ⟨y2, -⟩ := (hP5.ext hk9).walk; have y3 := (hc _ _ hbw).trans e1
            refine ⟨rfl, ?_⟩
            simp only [putsL]
            change quietTo _ _ _ _ (Sem.run _ (execOp (Act.eval _) _) _)
            try simp only [Act.put, List.setIfInBounds_toArray, List.set_cons_succ, List.set_cons_zero]
            simp [go_sem, quietTo, Ext.refl]
            all_goals try simp (disch := omega) only [IntWalk.i64_in]
            all_goals first
              | rfl
          refine fac_quiet 3 rfl rfl rfl (fun _ _ h _ => h) rfl rfl ?_
          apply Exists.intro
          refine ⟨fun sv w' hw' hfa => ?_, ?_⟩
          · obtain ⟨f1, f2, -⟩ := hfa
            replace f1 : sv 1 = _ := f1
            try dsimp only at f1
            replace f2 : sv 2 = _ := f2
            try dsimp only at f2
            have hk9 := (Ext.refl w5).drew.trans hw'; obtain ⟨hc, hff, hz9⟩ := hk9.walk; obtain ⟨y2, -⟩ := (hP5.ext hk9).walk; have y3 := (hc _ _ hbw).trans e1
            refine ⟨rfl, ?_⟩
            simp only [putsL]
            change quietTo _ _ _ _ (Sem.run _ (execOp (Act.eval (Act.put (Act.put _ (some 52) (sv 2)) (some 51) (sv 1))) _) _)
            try simp only [Act.put, List.setIfInBounds_toArray, List.set_cons_succ, List.set_cons_zero]
            simp [go_sem, quietTo, Ext.refl, ↓IntWalk.iteOmega, f1, f2, hj1]
            all_goals try simp (disch := omega) only [IntWalk.i64_in]
            all_goals first
              | rfl
          refine fac_quiet 4 rfl rfl rfl (fun _ _ h _ => h) rfl rfl ?_
          apply Exists.intro
          refine ⟨fun sv w' hw' hfa => ?_, ?_⟩
          · obtain ⟨f1, f2, f3, -⟩ := hfa
            replace f1 : sv 1 = _ := f1
            try dsimp only at f1
            replace f2 : sv 2 = _ := f2
            try dsimp only at f2
            replace f3 : sv 3 = _ := f3
            try dsimp only at f3
            have hk9 := (Ext.refl w5).drew.trans hw'; obtain ⟨hc, hff, hz9⟩ := hk9.walk; obtain ⟨y2, -⟩ := (hP5.ext hk9).walk; have y3 := (hc _ _ hbw).trans e1
            refine ⟨rfl, ?_⟩
            simp only [putsL]
            change quietTo _ _ _ _ (Sem.run _ (execOp (Act.eval (Act.put (Act.put (Act.put _ (some 53) (sv 3)) (some 52) (sv 2)) (some 51) (sv 1))) _) _)
            try simp only [Act.put, List.setIfInBounds_toArray, List.set_cons_succ, List.set_cons_zero]
            simp [go_sem, quietTo, Ext.refl, f3]
            all_goals try simp (disch := omega) only [IntWalk.i64_in]
            all_goals first
              | rfl
          refine fac_quiet 5 rfl rfl rfl (fun _ _ h _ => h) rfl rfl ?_
          apply Exists.intro
          refine ⟨fun sv w' hw' hfa => ?_, ?_⟩
          · obtain ⟨f1, f2, f3, f4, -⟩ := hfa
            replace f1 : sv 1 = _ := f1
            try dsimp only at f1
            replace f2 : sv 2 = _ := f2
            try dsimp only at f2
            replace f3 : sv 3 = _ := f3
            try dsimp only at f3
            replace f4 : sv 4 = _ := f4
            try dsimp only at f4
            have hk9 := (Ext.refl w5).drew.trans hw'; obtain ⟨hc, hff, hz9⟩ := hk9.walk; obtain ⟨y2, -⟩ := (hP5.ext hk9).walk; have y3 := (hc _ _ hbw).trans e1
            refine ⟨rfl, ?_⟩
            simp only [putsL]
            change quietTo _ _ _ _ (Sem.run _ (execOp (Act.eval (Act.put (Act.put (Act.put (Act.put _ (some 54) (sv 4)) (some 53) (sv 3)) (some 52) (sv 2)) (some 51) (sv 1))) _) _)
            try simp only [Act.put, List.setIfInBounds_toArray, List.set_cons_succ, List.set_cons_zero]
            simp [go_sem, quietTo, Ext.refl, ↓IntWalk.iteOmega, f4, y3]
            all_goals try simp (disch := omega) only [IntWalk.i64_in]
            all_goals first
              | rfl
          refine fac_row 6 rfl rfl rfl (fun _ _ h _ => h) (fun _ _ h => h.size) (fun _ _ _ _ _ he _ hb => hb.ext he) ?_
          apply Exists.intro
          apply Exists.intro
          apply Exists.intro
          apply Exists.intro
          refine ⟨fun sv w' hw' hfa => ?_, ?_⟩
          · obtain ⟨f1, f2, f3, f4, f5, -⟩ := hfa
            replace f1 : sv 1 = _ := f1
            try dsimp only at f1
            replace f2 : sv 2 = _ := f2
            try dsimp only at f2
            replace f3 : sv 3 = _ := f3
            try dsimp only at f3
            replace f4 : sv 4 = _ := f4
            try dsimp only at f4
            replace f5 : sv 5 = _ := f5
            try dsimp only at f5
            have hk9 := (Ext.refl w5).drew.trans hw'; obtain ⟨hc, hff, hz9⟩ := hk9.walk; obtain ⟨y2, -⟩ := (hP5.ext hk9).walk; have y3 := (hc _ _ hbw).trans e1
            refine ⟨rfl, ?_⟩
            simp only [putsL]
            change rowTo _ _ _ _ _ (Sem.run _ (execOp (Act.eval (Act.put (Act.put (Act.put (Act.put (Act.put _ (some 55) (sv 5)) (some 54) (sv 4)) (some 53) (sv 3)) (some 52) (sv 2)) (some 51) (sv 1))) _) _)
            try simp only [Act.put, List.setIfInBounds_toArray, List.set_cons_succ, List.set_cons_zero]
            simp [go_sem, rowTo, Ext.refl, f5]
            all_goals try simp (disch := omega) only [IntWalk.i64_in]
            all_goals first
              | rfl
              | exact ⟨rfl, rfl⟩
              | exact ⟨⟨rfl, rfl⟩, rfl⟩
          refine fac_nil fun xq wrq herq hfrq hcrq holdq hapq => ?_
          obtain ⟨f0, f1, f2, f3, f4, f5, f6, -⟩ := hfrq
          replace f0 : xq 0 = _ := f0
          try dsimp only at f0
          replace f1 : xq 1 = _ := f1
          try dsimp only at f1
          replace f2 : xq 2 = _ := f2
          try dsimp only at f2
          replace f3 : xq 3 = _ := f3
          try dsimp only at f3
          replace f4 : xq 4 = _ := f4
          try dsimp only at f4
          replace f5 : xq 5 = _ := f5
          try dsimp only at f5
          obtain ⟨g6, f6, l6, b6⟩ := f6
          replace f6 : xq 6 = _ := f6
          obtain ⟨p6, q6⟩ := b6.walk
          change wpList _ _ _ _ (Act.put (Act.put (Act.put (Act.put (Act.put (Act.put (Act.put _ (some 50) (xq 0)) (some 51) (xq 1)) (some 52) (xq 2)) (some 53) (xq 3)) (some 54) (xq 4)) (some 55) (xq 5)) (some 56) (xq 6)) _
          simp only [putsL, Nat.reduceAdd, List.drop_succ_cons, List.drop_zero, List.drop_nil, Act.put, List.setIfInBounds_toArray, List.set_cons_succ, List.set_cons_zero]
          try simp only [f0, f1, f2, f3, f4, f5, f6]
          clear f0 f1 f2 f3 f4 f5
          clear holdq hapq
          have hk9 := (Ext.refl w5).drew.trans herq
          have hown9 := hown.kept (row := none) ⟨(hb5.trans hk9).os, (hb5.trans hk9).tape, (hb5.trans hk9).output, (hb5.trans hk9).size, fun q hq _ => (hb5.trans hk9).block q hq⟩ (Classical.em _)
          subst hkk
          have hP9 := hP5.ext hk9
          have hV9 := (hV.ext hb5).ext hk9
          have hM9 := hM5.ext hk9
          have hR9 := (hR.ext hb5).ext hk9
          have hE9 := hE5.trans hk9
          have hO9 := hO5.ext hk9
          have hne9 := own_ne hown9 hP9 (by decide)
          go_upto_region 15 with (at_builtin; go_loud (refine wp_app1 _ (.tmp 50) (.tmp 56) 32 9 1 16 (.string ⟨#[]⟩) rfl rfl Tryd.underlying32 (by kernel_rfl) rfl (by decide) (by decide) (g + 1 + 1) _ (xs.length + 1) _ rfl hown9 _ (strC x'.to) rfl rfl b6 (by simp [strC, Value.oneCell']) (by omega) (by have := hk9.size; have := hb5.size; omega) ?_; intro v' w6 hown6 hgrow6 _; obtain ⟨pc, cap', rfl, hpc, hpcl⟩ := hown6.form (by omega); have hP6 := hP9.appN hown9 (by decide) hgrow6; obtain ⟨z1, z2⟩ := hP6.walk))
          have hM6 := hM9.appN hown9 (by decide) hgrow6
          have hV6 := hV9.appN hown9 (by decide) hgrow6
          have hR6 := hR9.appN hown9 (by decide) hgrow6
          have hE6 : Ext w w6 := hE9.app hown9 (by omega) hgrow6
          have hO6 := hO9.grown hgrow6 fun e => by have := (hown9.lt mb e.symm).1; omega
          have hne6 := own_ne hown6 hP6 (by decide)
          obtain ⟨W7, hW7⟩ : ∃ W, W = w6.setCell ⟨g + 1 + 1 + 1, 0, none⟩ (.slice (some ⟨pc, 0, none⟩) (xs.length + 1 + 1) cap') := ⟨_, rfl⟩
          have hE7 : Ext w W7 := hW7 ▸ hE6.setCell (p := ⟨g + 1 + 1 + 1, 0, none⟩) (by simp only; omega) _
          have hP7 : Blk W7 (g + 1 + 1 + 1) 32 #[.slice (some ⟨pc, 0, none⟩) (xs.length + 1 + 1) cap'] := hW7 ▸ (hP6.set_ 0 _)
          have hV7 : Blk W7 V1 80 #[.int .i64 u1, .int .i64 u2] := hW7 ▸ hV6.far hV1 _
          have hM7 : Blk W7 g 77 #[.map (some mb)] := hW7 ▸ hM6.far (by simp only; omega) _
          have hR7 : Blk W7 (g + 1) 80 #[.int .i64 v1, .int .i64 v2] := hW7 ▸ hR6.far (by simp only; omega) _
          have hown7 : W7.ownsRow (g + 1 + 1) 9 1 (.slice (some ⟨pc, 0, none⟩) (xs.length + 1 + 1) cap') (xs.length + 1 + 1) (ps.flatMap strC ++ strC x'.to) := hW7 ▸ hown6.kept (grownBy_set _ _ _) (.inr hne6)
          have hO7 : OwnW W7 mb (placesL L) f := hW7 ▸ hO6.grown (grownBy_set _ _ _) (by simp only [ne_eq, Option.some.injEq]; omega)
          change Code.wp _ _ _ _ (w6.setCell ⟨g + 1 + 1 + 1, 0, none⟩ (.slice (some ⟨pc, 0, none⟩) (xs.length + 1 + 1) cap'))
          rw [← hW7]
          have hxL' : x' ∈ L := List.mem_of_getElem? hj
          have hlk : ∀ u, Ext W7 u → (Instr.lookup 77 (.map (some mb)) (.string x'.to) false).run Tryd.prog u = .ok (.agg #[.int .i64 r'.1, .int .i64 r'.2]) u := fun u hu => by
            have := (hO7.ext hu).look (hs x' hxL').2.1
            rw [hr'] at this
            exact this
          obtain ⟨-, e7, -⟩ := (hEl.ext hE7 hb).leg hj
          have hbw7 := Nat.lt_of_lt_of_le hb hE7.size
          replace hlk := Lib.hid hlk
          replace hr' := Lib.hid hr'
          clear hW7 hgrow6 hP6 hV6 hM6 hR6 hE6 hO6 hne6 hown6 z1 z2 hP9 hV9 hM9 hR9 hE9 hO9 hown9 hP5 hM5 hO5 hk9 e1 hbw hE5
          replace hown7 := Lib.hid hown7
          refine wp_region_facts [] [([], false, false), ([], false, false), ([], false, false), ([1, 2], false, false), ([1, 2, 3], false, false), ([1, 2, 3, 4], false, false), ([0, 1, 2, 3, 4, 5], false, false)] (Ext) Ext (fun _ => True) (by kernel_rfl) (by kernel_rfl) Ext.refl (fun _ _ _ => Ext.trans) (fun _ _ h => h) (fun _ _ h => h.size) (fun _ _ h _ => h) trivial ?_
          dsimp only [List.length_cons, List.length_nil, List.drop_succ_cons, List.drop_zero, List.drop_nil]
          refine fac_quiet 0 rfl rfl rfl (fun _ _ h _ => h) rfl rfl ?_
          apply Exists.intro
          refine ⟨fun sv w' hw' hfa => ?_, ?_⟩
          · have hk := (Ext.refl W7).drew.trans hw'; obtain ⟨hc, hff, hz9⟩ := hk.walk; obtain ⟨y2, -⟩ := (hM7.ext hk).walk; have y3 := (hc _ _ hbw7).trans e7; have y4 := hlk.out _ hk
            refine ⟨rfl, ?_⟩
            simp only [putsL]
            change quietTo _ _ _ _ (Sem.run _ (execOp (Act.eval _) _) _)
            try simp only [Act.put, List.setIfInBounds_toArray, List.set_cons_succ, List.set_cons_zero]
            simp [go_sem, quietTo, Ext.refl, ↓IntWalk.iteOmega, y2]
            all_goals try simp (disch := omega) only [IntWalk.i64_in]
            all_goals first
              | rfl
          refine fac_quiet 1 rfl rfl rfl (fun _ _ h _ => h) rfl rfl ?_
          apply Exists.intro
          refine ⟨fun sv w' hw' hfa => ?_, ?_⟩
          · have hk := (Ext.refl W7).drew.trans hw'; obtain ⟨hc, hff, hz9⟩ := hk.walk; obtain ⟨y2, -⟩ := (hM7.ext hk).walk; have y3 := (hc _ _ hbw7).trans e7; have y4 := hlk.out _ hk
            refine ⟨rfl, ?_⟩
            simp only [putsL]
            change quietTo _ _ _ _ (Sem.run _ (execOp (Act.eval _) _) _)
            try simp only [Act.put, List.setIfInBounds_toArray, List.set_cons_succ, List.set_cons_zero]
            simp [go_sem, quietTo, Ext.refl]
            all_goals try simp (disch := omega) only [IntWalk.i64_in]
            all_goals first
              | rfl
          refine fac_quiet 2 rfl rfl rfl (fun _ _ h _ => h) rfl rfl ?_
          apply Exists.intro
          refine ⟨fun sv w' hw' hfa => ?_, ?_⟩
          · have hk := (Ext.refl W7).drew.trans hw'; obtain ⟨hc, hff, hz9⟩ := hk.walk; obtain ⟨y2, -⟩ := (hM7.ext hk).walk; have y3 := (hc _ _ hbw7).trans e7; have y4 := hlk.out _ hk
            refine ⟨rfl, ?_⟩
            simp only [putsL]
            change quietTo _ _ _ _ (Sem.run _ (execOp (Act.eval _) _) _)
            try simp only [Act.put, List.setIfInBounds_toArray, List.set_cons_succ, List.set_cons_zero]
            simp [go_sem, quietTo, Ext.refl]
            all_goals try simp (disch := omega) only [IntWalk.i64_in]
            all_goals first
              | rfl
          refine fac_quiet 3 rfl rfl rfl (fun _ _ h _ => h) rfl rfl ?_
          apply Exists.intro
          refine ⟨fun sv w' hw' hfa => ?_, ?_⟩
          · obtain ⟨f1, f2, -⟩ := hfa
            replace f1 : sv 1 = _ := f1
            try dsimp only at f1
            replace f2 : sv 2 = _ := f2
            try dsimp only at f2
            have hk := (Ext.refl W7).drew.trans hw'; obtain ⟨hc, hff, hz9⟩ := hk.walk; obtain ⟨y2, -⟩ := (hM7.ext hk).walk; have y3 := (hc _ _ hbw7).trans e7; have y4 := hlk.out _ hk
            refine ⟨rfl, ?_⟩
            simp only [putsL]
            change quietTo _ _ _ _ (Sem.run _ (execOp (Act.eval (Act.put (Act.put _ (some 60) (sv 2)) (some 59) (sv 1))) _) _)
            try simp only [Act.put, List.setIfInBounds_toArray, List.set_cons_succ, List.set_cons_zero]
            simp [go_sem, quietTo, Ext.refl, ↓IntWalk.iteOmega, f1, f2, hj1]
            all_goals try simp (disch := omega) only [IntWalk.i64_in]
            all_goals first
              | rfl
          refine fac_quiet 4 rfl rfl rfl (fun _ _ h _ => h) rfl rfl ?_
          apply Exists.intro
          refine ⟨fun sv w' hw' hfa => ?_, ?_⟩
          · obtain ⟨f1, f2, f3, -⟩ := hfa
            replace f1 : sv 1 = _ := f1
            try dsimp only at f1
            replace f2 : sv 2 = _ := f2
            try dsimp only at f2
            replace f3 : sv 3 = _ := f3
            try dsimp only at f3
            have hk := (Ext.refl W7).drew.trans hw'; obtain ⟨hc, hff, hz9⟩ := hk.walk; obtain ⟨y2, -⟩ := (hM7.ext hk).walk; have y3 := (hc _ _ hbw7).trans e7; have y4 := hlk.out _ hk
            refine ⟨rfl, ?_⟩
            simp only [putsL]
            change quietTo _ _ _ _ (Sem.run _ (execOp (Act.eval (Act.put (Act.put (Act.put _ (some 61) (sv 3)) (some 60) (sv 2)) (some 59) (sv 1))) _) _)
            try simp only [Act.put, List.setIfInBounds_toArray, List.set_cons_succ, List.set_cons_zero]
            simp [go_sem, quietTo, Ext.refl, f3]
            all_goals try simp (disch := omega) only [IntWalk.i64_in]
            all_goals first
              | rfl
          refine fac_quiet 5 rfl rfl rfl (fun _ _ h _ => h) rfl rfl ?_
          apply Exists.intro
          refine ⟨fun sv w' hw' hfa => ?_, ?_⟩
          · obtain ⟨f1, f2, f3, f4, -⟩ := hfa
            replace f1 : sv 1 = _ := f1
            try dsimp only at f1
            replace f2 : sv 2 = _ := f2
            try dsimp only at f2
            replace f3 : sv 3 = _ := f3
            try dsimp only at f3
            replace f4 : sv 4 = _ := f4
            try dsimp only at f4
            have hk := (Ext.refl W7).drew.trans hw'; obtain ⟨hc, hff, hz9⟩ := hk.walk; obtain ⟨y2, -⟩ := (hM7.ext hk).walk; have y3 := (hc _ _ hbw7).trans e7; have y4 := hlk.out _ hk
            refine ⟨rfl, ?_⟩
            simp only [putsL]
            change quietTo _ _ _ _ (Sem.run _ (execOp (Act.eval (Act.put (Act.put (Act.put (Act.put _ (some 62) (sv 4)) (some 61) (sv 3)) (some 60) (sv 2)) (some 59) (sv 1))) _) _)
            try simp only [Act.put, List.setIfInBounds_toArray, List.set_cons_succ, List.set_cons_zero]
            simp [go_sem, quietTo, Ext.refl, ↓IntWalk.iteOmega, f4, y3]
            all_goals try simp (disch := omega) only [IntWalk.i64_in]
            all_goals first
              | rfl
          refine fac_quiet 6 rfl rfl rfl (fun _ _ h _ => h) rfl rfl ?_
          apply Exists.intro
          refine ⟨fun sv w' hw' hfa => ?_, ?_⟩
          · obtain ⟨f0, f1, f2, f3, f4, f5, -⟩ := hfa
            replace f0 : sv 0 = _ := f0
            try dsimp only at f0
            replace f1 : sv 1 = _ := f1
            try dsimp only at f1
            replace f2 : sv 2 = _ := f2
            try dsimp only at f2
            replace f3 : sv 3 = _ := f3
            try dsimp only at f3
            replace f4 : sv 4 = _ := f4
            try dsimp only at f4
            replace f5 : sv 5 = _ := f5
            try dsimp only at f5
            have hk := (Ext.refl W7).drew.trans hw'; obtain ⟨hc, hff, hz9⟩ := hk.walk; obtain ⟨y2, -⟩ := (hM7.ext hk).walk; have y3 := (hc _ _ hbw7).trans e7; have y4 := hlk.out _ hk
            refine ⟨rfl, ?_⟩
            simp only [putsL]
            change quietTo _ _ _ _ (Sem.run _ (execOp (Act.eval (Act.put (Act.put (Act.put (Act.put (Act.put (Act.put _ (some 63) (sv 5)) (some 62) (sv 4)) (some 61) (sv 3)) (some 60) (sv 2)) (some 59) (sv 1)) (some 58) (sv 0))) _) _)
            try simp only [Act.put, List.setIfInBounds_toArray, List.set_cons_succ, List.set_cons_zero]
            simp [go_sem, quietTo, Ext.refl, ↓IntWalk.iteOmega, f0, f5, y4]
            all_goals try simp (disch := omega) only [IntWalk.i64_in]
            all_goals first
              | rfl
          refine fac_nil fun xu wru heru hfru hcru holdu hapu => ?_
          obtain ⟨f0, f1, f2, f3, f4, f5, f6, -⟩ := hfru
          replace f0 : xu 0 = _ := f0
          try dsimp only at f0
          replace f1 : xu 1 = _ := f1
          try dsimp only at f1
          replace f2 : xu 2 = _ := f2
          try dsimp only at f2
          replace f3 : xu 3 = _ := f3
          try dsimp only at f3
          replace f4 : xu 4 = _ := f4
          try dsimp only at f4
          replace f5 : xu 5 = _ := f5
          try dsimp only at f5
          replace f6 : xu 6 = _ := f6
          try dsimp only at f6
          change wpList _ _ _ _ (Act.put (Act.put (Act.put (Act.put (Act.put (Act.put (Act.put _ (some 58) (xu 0)) (some 59) (xu 1)) (some 60) (xu 2)) (some 61) (xu 3)) (some 62) (xu 4)) (some 63) (xu 5)) (some 64) (xu 6)) _
          simp only [putsL, Nat.reduceAdd, List.drop_succ_cons, List.drop_zero, List.drop_nil, Act.put, List.setIfInBounds_toArray, List.set_cons_succ, List.set_cons_zero]
          try simp only [f0, f1, f2, f3, f4, f5, f6]
          clear f0 f1 f2 f3 f4 f5 f6
          clear holdu hapu
          have hk7 := (Ext.refl W7).drew.trans heru
          obtain ⟨y2, y3⟩ := (hV7.ext hk7).walk
          go_wp2
          go_roundg r'.2.toNat
          case measure => omega
          case rel =>
            have hne7 := own_ne hown7.out hV7 (by decide)
            have lM7 := hM7.lt
            have hz := hk7.size
            have hsz : g + 1 + 1 + 1 < wru.heap.size := Nat.lt_of_lt_of_le hP7.lt hz
            exact ⟨wru.heap.size, r', ps ++ [x'.to], xs ++ [x'], .slice (some ⟨pc, 0, none⟩) (xs.length + 1 + 1) cap', xs.length + 1 + 1, x'.to, by simp, Blk.new' (by simp), by omega, by omega,
              (((hP7.ext hk7).far (p := ⟨V1, 0, none⟩) (by simp only; omega) _).far (p := ⟨V1, 1, none⟩) (by simp only; omega) _).alloc _,
              by rw [flat_snoc]; exact (((own_ext hk7 hown7.out).kept (grownBy_set _ ⟨V1, 0, none⟩ _) (.inr hne7)).kept (grownBy_set _ ⟨V1, 1, none⟩ _) (.inr hne7)).alloc _,
              own_ne hown7.out hP7 (by decide),
              (((hM7.ext hk7).far (p := ⟨V1, 0, none⟩) (by simp only; omega) _).far (p := ⟨V1, 1, none⟩) (by simp only; omega) _).alloc _,
              (((hR7.ext hk7).far (p := ⟨V1, 0, none⟩) (by simp only; omega) _).far (p := ⟨V1, 1, none⟩) (by simp only; omega) _).alloc _,
              (((hO7.ext hk7).grown (grownBy_set _ ⟨V1, 0, none⟩ _) (by simp only [ne_eq, Option.some.injEq]; omega)).grown (grownBy_set _ ⟨V1, 1, none⟩ _) (by simp only [ne_eq, Option.some.injEq]; omega)).ext ((Ext.refl _).alloc _),
              (((hE7.trans hk7).setCell (p := ⟨V1, 0, none⟩) (by simp only; omega) _).setCell (p := ⟨V1, 1, none⟩) (by simp only; omega) _).alloc _,
              hC.out.snoc hxL' (by rw [hxf']; exact hps), by rw [minutes_snoc]; omega, by simp only [List.length_append, List.length_singleton]; omega, hr'.out,
              by rw [List.length_append, List.length_singleton, ← hC.out.1]; simp, by rw [List.getElem?_append_left (by have := hC.out.1; omega)]; exact hp0, rfl⟩
      · obtain rfl : u2 = 0 := by omega
        obtain ⟨rfl, rfl⟩ := walk_none hL (hI.walk _ _ _ hlast)
        obtain ⟨q, cc, rfl, hSl⟩ := slc_of_own (enc := strC) (fun _ => rfl) hown (by decide) (by omega)
        obtain ⟨y1, -⟩ := hV.walk
        have hlt1 := hV.lt
        have hlt2 := hP.lt
        have hlt3 := hR.lt
        replace hC := Lib.hid hC
        replace hkk := Lib.hid hkk
        go_upto_region 18 with fail
        refine wp_region_facts [] [([], false, false), ([0], false, false), ([], false, false), ([0, 1], false, false), ([2], false, false), ([], false, false), ([], false, false)] (Ext) Ext (fun _ => True) (by kernel_rfl) (by kernel_rfl) Ext.refl (fun _ _ _ => Ext.trans) (fun _ _ h => h) (fun _ _ h => h.size) (fun _ _ h _ => h) trivial ?_
        dsimp only [List.length_cons, List.length_nil, List.drop_succ_cons, List.drop_zero, List.drop_nil]
        refine fac_quiet 0 rfl rfl rfl (fun _ _ h _ => h) rfl rfl ?_
        apply Exists.intro
        refine ⟨fun sv w' hw' hfa => ?_, ?_⟩
        · have hk9 := (Ext.refl wr).drew.trans hw'; obtain ⟨y2, -⟩ := (hP.ext hk9).walk; obtain ⟨y3, -⟩ := (hR.ext hk9).walk
          refine ⟨rfl, ?_⟩
          simp only [putsL]
          change quietTo _ _ _ _ (Sem.run _ (execOp (Act.eval _) _) _)
          try simp only [Act.put, List.setIfInBounds_toArray, List.set_cons_succ, List.set_cons_zero]
          simp [go_sem, quietTo, Ext.refl]
          all_goals try simp (disch := omega) only [IntWalk.i64_in]
          all_goals first
            | rfl
        refine fac_quiet 1 rfl rfl rfl (fun _ _ h _ => h) rfl rfl ?_
        apply Exists.intro
        refine ⟨fun sv w' hw' hfa => ?_, ?_⟩
        · obtain ⟨f0, -⟩ := hfa
          replace f0 : sv 0 = _ := f0
          try dsimp only at f0
          have hk9 := (Ext.refl wr).drew.trans hw'; obtain ⟨y2, -⟩ := (hP.ext hk9).walk; obtain ⟨y3, -⟩ := (hR.ext hk9).walk
          refine ⟨rfl, ?_⟩
          simp only [putsL]
          change quietTo _ _ _ _ (Sem.run _ (execOp (Act.eval (Act.put _ (some 66) (sv 0))) _) _)
          try simp only [Act.put, List.setIfInBounds_toArray, List.set_cons_succ, List.set_cons_zero]
          simp [go_sem, quietTo, Ext.refl, ↓IntWalk.iteOmega, f0, y3]
          all_goals try simp (disch := omega) only [IntWalk.i64_in]
          all_goals first
            | rfl
        refine fac_quiet 2 rfl rfl rfl (fun _ _ h _ => h) rfl rfl ?_
        apply Exists.intro
        refine ⟨fun sv w' hw' hfa => ?_, ?_⟩
        · have hk9 := (Ext.refl wr).drew.trans hw'; obtain ⟨y2, -⟩ := (hP.ext hk9).walk; obtain ⟨y3, -⟩ := (hR.ext hk9).walk
          refine ⟨rfl, ?_⟩
          simp only [putsL]
          change quietTo _ _ _ _ (Sem.run _ (execOp (Act.eval _) _) _)
          try simp only [Act.put, List.setIfInBounds_toArray, List.set_cons_succ, List.set_cons_zero]
          simp [go_sem, quietTo, Ext.refl, ↓IntWalk.iteOmega, y2]
          all_goals try simp (disch := omega) only [IntWalk.i64_in]
          all_goals first
            | rfl
        refine fac_quiet 3 rfl rfl rfl (fun _ _ h _ => h) rfl rfl ?_
        apply Exists.intro
        refine ⟨fun sv w' hw' hfa => ?_, ?_⟩
        · obtain ⟨f0, f1, -⟩ := hfa
          replace f0 : sv 0 = _ := f0
          try dsimp only at f0
          replace f1 : sv 1 = _ := f1
          try dsimp only at f1
          have hk9 := (Ext.refl wr).drew.trans hw'; obtain ⟨y2, -⟩ := (hP.ext hk9).walk; obtain ⟨y3, -⟩ := (hR.ext hk9).walk
          refine ⟨rfl, ?_⟩
          simp only [putsL]
          change quietTo _ _ _ _ (Sem.run _ (execOp (Act.eval (Act.put (Act.put _ (some 67) (sv 1)) (some 66) (sv 0))) _) _)
          try simp only [Act.put, List.setIfInBounds_toArray, List.set_cons_succ, List.set_cons_zero]
          simp [go_sem, quietTo, Ext.refl, f1]
          all_goals try simp (disch := omega) only [IntWalk.i64_in]
          all_goals first
            | rfl
        refine fac_quiet 4 rfl rfl rfl (fun _ _ h _ => h) rfl rfl ?_
        apply Exists.intro
        refine ⟨fun sv w' hw' hfa => ?_, ?_⟩
        · obtain ⟨f2, -⟩ := hfa
          replace f2 : sv 2 = _ := f2
          try dsimp only at f2
          have hk9 := (Ext.refl wr).drew.trans hw'; obtain ⟨y2, -⟩ := (hP.ext hk9).walk; obtain ⟨y3, -⟩ := (hR.ext hk9).walk
          refine ⟨rfl, ?_⟩
          simp only [putsL]
          change quietTo _ _ _ _ (Sem.run _ (execOp (Act.eval (Act.put _ (some 68) (sv 2))) _) _)
          try simp only [Act.put, List.setIfInBounds_toArray, List.set_cons_succ, List.set_cons_zero]
          simp [go_sem, quietTo, Ext.refl, f2]
          all_goals try simp (disch := omega) only [IntWalk.i64_in]
          all_goals first
            | rfl
        refine fac_quiet 5 rfl rfl rfl (fun _ _ h _ => h) rfl rfl ?_
        apply Exists.intro
        refine ⟨fun sv w' hw' hfa => ?_, ?_⟩
        · have hk9 := (Ext.refl wr).drew.trans hw'; obtain ⟨y2, -⟩ := (hP.ext hk9).walk; obtain ⟨y3, -⟩ := (hR.ext hk9).walk
          refine ⟨rfl, ?_⟩
          simp only [putsL]
          change quietTo _ _ _ _ (Sem.run _ (execOp (Act.eval _) _) _)
          try simp only [Act.put, List.setIfInBounds_toArray, List.set_cons_succ, List.set_cons_zero]
          simp [go_sem, quietTo, Ext.refl]
          all_goals try simp (disch := omega) only [IntWalk.i64_in]
          all_goals first
            | rfl
        refine fac_quiet 6 rfl rfl rfl (fun _ _ h _ => h) rfl rfl ?_
        apply Exists.intro
        refine ⟨fun sv w' hw' hfa => ?_, ?_⟩
        · have hk9 := (Ext.refl wr).drew.trans hw'; obtain ⟨y2, -⟩ := (hP.ext hk9).walk; obtain ⟨y3, -⟩ := (hR.ext hk9).walk
          refine ⟨rfl, ?_⟩
          simp only [putsL]
          change quietTo _ _ _ _ (Sem.run _ (execOp (Act.eval _) _) _)
          try simp only [Act.put, List.setIfInBounds_toArray, List.set_cons_succ, List.set_cons_zero]
          simp [go_sem, quietTo, Ext.refl]
          all_goals try simp (disch := omega) only [IntWalk.i64_in]
          all_goals first
            | rfl
        refine fac_nil fun xz wrz herz hfrz hcrz holdz hapz => ?_
        obtain ⟨f0, f1, f2, f3, f4, f5, f6, -⟩ := hfrz
        replace f0 : xz 0 = _ := f0
        try dsimp only at f0
        replace f1 : xz 1 = _ := f1
        try dsimp only at f1
        replace f2 : xz 2 = _ := f2
        try dsimp only at f2
        replace f3 : xz 3 = _ := f3
        try dsimp only at f3
        replace f4 : xz 4 = _ := f4
        try dsimp only at f4
        replace f5 : xz 5 = _ := f5
        try dsimp only at f5
        replace f6 : xz 6 = _ := f6
        try dsimp only at f6
        change wpList _ _ _ _ (Act.put (Act.put (Act.put (Act.put (Act.put (Act.put (Act.put _ (some 66) (xz 0)) (some 67) (xz 1)) (some 68) (xz 2)) (some 6) (xz 3)) (some 7) (xz 4)) (some 8) (xz 5)) (some 9) (xz 6)) _
        simp only [putsL, Nat.reduceAdd, List.drop_succ_cons, List.drop_zero, List.drop_nil, Act.put, List.setIfInBounds_toArray, List.set_cons_succ, List.set_cons_zero]
        try simp only [f0, f1, f2, f3, f4, f5, f6]
        clear f0 f1 f2 f3 f4 f5 f6
        clear holdz hapz
        go_wp2
        go_light
        have hE9 := hE.trans ((Ext.refl _).drew.trans herz)
        exact bodyPost_ret (v := .tuple #[.int .i64 v1, .slice q k cc, .bool true, .int .i64 0]) (by simp [results, Tryd.results10, go_sem]) rfl ⟨f, hcase, hE9, .inr ⟨(v1, v2), q, k, cc, ps, xs, hfa, rfl, hSl.ext ((Ext.refl _).drew.trans herz), hC.out, by simp only; omega, by simp only; omega, hp0, hps⟩⟩
end Go.Proofs.YtlmbpgjdepmlcaaDoor
