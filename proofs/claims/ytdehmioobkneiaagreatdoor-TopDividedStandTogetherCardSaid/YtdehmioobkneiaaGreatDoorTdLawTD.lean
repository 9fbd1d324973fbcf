/- The law of singers who are divided and stand by their parts. Conditions: the argument is a list of ints that lies in memory; the table of powers. -/
import Derived.Test.YtdehmioobkneiaaGreatDoorTdJ43
import Derived.Test.YtdehmioobkneiaaGreatDoorTdRoK
import Derived.Test.YtdehmioobkneiaaGreatDoorTdJ47
import Derived.Shelf.SlicesQ.IndexFunc
set_option linter.unusedSimpArgs false
set_option linter.unusedVariables false
namespace Go.Proofs.YtdehmioobkneiaaGreatDoor
open Go Go.RowKit
theorem idx_orT {α : Type} (p : α → Bool) (d : α) : ∀ (l : List α) (i : Nat), (Lib.idxByFrom (fun _ y => p y) d l i = -1 ∧ ∀ x ∈ l, p x = false) ∨ ∃ k x, l[k]? = some x ∧ p x = true ∧ Lib.idxByFrom (fun _ y => p y) d l i = ((i + k : Nat) : Int)
  | [], _ => .inl ⟨rfl, fun x hx => by cases hx⟩
  | y :: r, i => by
    unfold Lib.idxByFrom
    cases h : p y
    · rcases idx_orT p d r (i + 1) with ⟨h1, h2⟩ | ⟨k, x, hx, hp, e⟩
      · refine .inl ⟨by simpa using h1, fun x hx => ?_⟩
        rcases List.mem_cons.1 hx with e | hx
        · subst e; exact h
        · exact h2 x hx
      · refine .inr ⟨k + 1, x, hx, hp, ?_⟩
        simp only [Bool.false_eq_true, if_false]
        rw [e]
        congr 1
        omega
    · exact .inr ⟨0, y, rfl, h, by simp⟩
set_option maxRecDepth 100000 in
theorem tdPred (z : StandV) (g : Nat) (w : World) (hB : Blk w g 54 #[.string z.name, .int .i64 z.row, .int .i64 z.place]) :
    PredBelow Tryz.prog 14 #[.pointer (some ⟨g, 0, none⟩)] (fun y : ByteArray × ByteArray => .agg (nmpC y).toArray) (fun y => y.1.toList == z.name.toList) w := fun W y hb => by
  have hE : Ext w W := hb
  obtain ⟨b1, -⟩ := (hB.ext hE).walk
  have bl := (hB.ext hE).lt
  show Calls Tryz.prog 14 #[.agg #[.string y.1, .string y.2], .pointer (some ⟨g, 0, none⟩)] W _
  clear hB hb
  cases h1 : (y.1.toList == z.name.toList)
  all_goals
    go_enter Tryz.func14, Tryz.ntmps14
    go_wp2
    go_ret
    exact ⟨by simp only [h1]; rfl, hE.alloc _⟩
/-- The number of a pair with a name. -/
theorem tdFind (z : StandV) (g : Nat) (p : Option Addr) (c : Nat) (T : List (ByteArray × ByteArray)) (w : World) (hT : Slc 2 nmpC w p T.length c T) (hl : T.length ≤ 1000) (hB : Blk w g 54 #[.string z.name, .int .i64 z.row, .int .i64 z.place]) (hz : ∃ t ∈ T, t.1 = z.name) :
    Calls Tryz.prog 13 #[.slice p T.length c, .func (.func 14) #[] #[.pointer (some ⟨g, 0, none⟩)]] w fun e w' => ∃ (k : Nat) (t : ByteArray × ByteArray), e = .returned (.int .i64 k) ∧ T[k]? = some t ∧ t.1 = z.name ∧ Ext w w' := by
  obtain ⟨t0, ht0, htn⟩ := hz
  rcases (slcC hT).2 with ⟨-, e⟩ | ⟨sb, so, rfl, hsb, hEl⟩
  · rw [e] at ht0; cases ht0
  have eg : ∀ args w, (callFunc 14 args).run Tryz.prog w = .ok (.enter 14 args) w := enters_of Tryz.func14 (by kernel_rfl) rfl
  have := AnyQ.slices_IndexFunc Tryz.lqiPair 2 Tryz.isAgg39 Tryz.sizeOf39 nmpC nmpC_len (fun y => y.1.toList == z.name.toList) 14 #[.pointer (some ⟨g, 0, none⟩)] eg sb so T.length c T w
    (tdPred z g w hB) (Nat.le_refl _) (by omega) hsb (fun j hj i v hi => hEl j _ (by rw [List.getElem?_eq_getElem hj, getElem!_pos T j hj]) i v hi)
  rw [List.take_length] at this
  unfold Lib.idxBy at this
  refine this.mono fun e w' ⟨he, hE⟩ => ?_
  rcases idx_orT (fun y : ByteArray × ByteArray => y.1.toList == z.name.toList) default T 0 with ⟨-, h2⟩ | ⟨k, x, hx, hp, hk⟩
  · have := h2 t0 ht0
    rw [baL.2 htn] at this
    cases this
  · rw [hk, Nat.zero_add] at he
    exact ⟨k, x, he, hx, baL.1 hp, hE⟩
/-- The number of a section in an order. -/
def secO (O : List ByteArray) (T : List (ByteArray × ByteArray)) (nm : ByteArray) : Nat := O.findIdx fun s => T.any fun t => decide (t.1 = nm ∧ t.2 = s)
theorem secO_at {O : List ByteArray} {T : List (ByteArray × ByteArray)} (hO : O.Nodup) (hT : T.Pairwise fun a b => a.1 ≠ b.1) {t : ByteArray × ByteArray} (ht : t ∈ T) {i : Nat} (hi : O[i]? = some t.2) : secO O T t.1 = i := by
  obtain ⟨hl, e⟩ := List.getElem?_eq_some_iff.1 hi
  unfold secO
  refine (List.findIdx_eq hl).2 ⟨?_, fun j hj => ?_⟩
  · rw [e, List.any_eq_true]
    exact ⟨t, ht, by simp⟩
  · cases hb : T.any fun u => decide (u.1 = t.1 ∧ u.2 = O[j])
    · rfl
    · exfalso
      obtain ⟨u, hu, h2⟩ := List.any_eq_true.1 hb
      obtain ⟨h3, h4⟩ := of_decide_eq_true h2
      have hut : u = t := by
        obtain ⟨a, ha, ea⟩ := List.getElem_of_mem hu
        obtain ⟨b, hb, eb⟩ := List.getElem_of_mem ht
        rcases Nat.lt_trichotomy a b with h | h | h
        · exact absurd (by rw [ea, eb]; exact h3) ((List.pairwise_iff_getElem.1 hT) a b ha hb h)
        · subst h; rw [← ea, ← eb]
        · exact absurd (by rw [ea, eb]; exact h3.symm) ((List.pairwise_iff_getElem.1 hT) b a hb ha h)
      subst hut
      have h5 : O[j]? = O[i]? := by rw [hi, List.getElem?_eq_getElem (by omega), ← h4]
      have := (List.getElem?_inj (by omega) hO).1 h5
      omega
set_option maxRecDepth 100000 in
set_option maxHeartbeats 25600000 in
theorem lawTD_any (B : Nat) (w : World) (p : Option Addr) (n c : Nat) (h : Lst w w.heap.size p n) (ht : Tab B w) :
    Calls Tryz.prog 3 #[.slice p n c] w fun e w' => e = .returned (.bool true) ∧ Ext w w' := by
  obtain ⟨xs, rfl, hL⟩ := lst_list h
  obtain ⟨L, hLd⟩ : ∃ L : Src, L = ⟨xs, w.heap.size⟩ := ⟨_, rfl⟩
  have hE0 : Ext w (w.alloc (.cells #[.slice p xs.length c, .int .i64 0] 25)) := (Ext.refl w).alloc _
  have hS0 : StrL (w.alloc (.cells #[.slice p xs.length c, .int .i64 0] 25)) w.heap.size L 0 := by
    subst hLd
    exact ⟨Nat.le_refl _, p, c, Blk.new' rfl, hL.low fun j hj => hE0.block j hj⟩
  have hmf : ∀ (fn : Fn) (first cap : Array Value) (w : World), (Instr.makeFunc fn first cap).run Tryz.prog w = .ok (.func fn first cap) w := fun _ _ _ _ => rfl
  have hvo := rightVoices_det w.heap.size 0 5 L _ (by omega) (by omega) hS0
  replace hvo := Lib.hid hvo; clear h hL hLd hS0
  go_enter Tryz.func3, Tryz.ntmps3
  go_upto_region 3 with (first
    | (go_at_call 5; (with_reducible refine Calls.mono hvo.out ?_); rintro e w1 ⟨vp, n1, vc, V, k1, rfl, hV10, hoV, hVl, hVs, hvF, hF1, hk1, hS1, hE1⟩)
    | (go_at_call 6; (with_reducible refine Calls.mono (rightParts_det w.heap.size k1 L _ (by omega) hS1) ?_); rintro e w2 ⟨pp, n2, pc, P, k2, rfl, hP3, hoP, hPl, hPs, hpF, hF2, hk2, hS2, hE2⟩)
    | (go_at_call 7; (with_reducible refine Calls.mono (range_det w.heap.size k2 0 200 L _ (by omega) (by omega) (by omega) (by omega) (by omega) hS2) ?_); rintro e w3 ⟨rfl, hS3, hE3⟩))
  subst hVl
  subst hPl
  have hz0 : w.heap.size + 1 ≤ (w.alloc (.cells #[.slice p xs.length c, .int .i64 0] 25)).heap.size := by simp
  have hl1 := hS1.lt
  have hsP4 : w.heap.size < w1.heap.size + 1 := by omega
  have hoV4 := own_extS hE3 (by omega) (own_extS hE2 (by omega) hoV)
  have hoP4 := own_extS hE3 (by omega) hoP
  have hX4 := ExtS.back (ExtS.back (ExtS.back hE0 (Nat.le_refl _) hE1) (Nat.le_refl _) hE2) (Nat.le_refl _) hE3
  have ht1 := rgF_in (L := L) (a := k2) (lo := 0) (hi := 200) (by omega)
  clear hvo hoV hoP hE1 hE2 hE3 hE0 hF2 hS1 hS2 hz0 hl1
  generalize rgF L k2 0 200 = t at *
  obtain ⟨vp', vc', e9, hV4⟩ := slc_of_own voiC_len hoV4 (by decide) (by omega)
  cases e9
  obtain ⟨pp', pc', e9, hP4⟩ := slc_of_own partC_len hoP4 (by decide) (by omega)
  cases e9
  have hmo : momB t = true := inB_iff.2 (by omega)
  have hM : VpM w3 vp vc V pp pc P := ⟨hV4, hP4, hVs, fun x hx => (hPs x hx).1, by omega, by omega⟩
  have hz : errV V P t = 0 := by
    unfold errV
    rw [if_pos (errL_zero.2 ⟨hvF, hpF, hmo⟩), if_pos ⟨by have := singers_len V t; omega, by omega⟩]
  have htw : ∀ u, Ext w3 u → Tab B u := fun u hu => ht.ext (hX4.trans hu)
  have hsz3 := hS3.lt
  replace htw := Lib.hid htw; clear hoV4 hV4
  by_cases hf : fromF P (comL V t P) [0, 0, 0, 0] = -1
  · have hdn := divide_none hM t hz hf
    replace hdn := Lib.hid hdn; clear hf hz hM hP4 hS3 hoP4
    go_wp2_with (first
      | (go_at_call 8; (with_reducible refine Calls.mono hdn.out ?_); rintro e wd1 ⟨rfl, hu1⟩)
      | (go_at_call 9; (with_reducible refine Calls.mono (h06facts_any B _ (htw.out _ hu1)) ?_); rintro e u9 ⟨rfl, hu9⟩))
    go_ret
    exact ⟨rfl, hX4.trans (hu1.trans hu9)⟩
  have hds := divide_own hM t hz hf
  have hCS := comL_len V t P
  have hTl := divN_len hf hCS
  obtain ⟨hgl, hgk⟩ := divG_ok _ _ hf
  have hS5 := singers_five hF1 hvF t
  have hPd := fun (i j : Nat) (a b : PartV) hi hj hij => parts_once (x := a) (y := b) hpF (i := i) (j := j) hi hj hij
  have hSk := singers_key (t := t) hvF
  have hTat : ∀ (i : Nat) (tt : ByteArray × ByteArray), (divN P (singersL V t) (comL V t P) [0, 0, 0, 0])[i]? = some tt → (singersL V t)[i]? = some tt.1 ∧ ∃ (k : Nat) (x : PartV), P[k]? = some x ∧ x.name = tt.2 := fun i tt hi => by
    have hil := (List.getElem?_eq_some_iff.1 hi).1
    obtain ⟨s, hs⟩ := getD_some (rfl : (singersL V t).length = _) (show i < (singersL V t).length by omega)
    obtain ⟨k, hk⟩ := getD_some (rfl : (divG P (comL V t P) [0, 0, 0, 0]).length = _) (show i < _ by omega)
    obtain ⟨x, hx⟩ := getD_some (rfl : P.length = P.length) (hgk i k hk).1
    have e := divN_at (C := comL V t P) (N := [0, 0, 0, 0]) hs hk hx
    rw [e] at hi
    cases hi
    exact ⟨hs, k, x, hx, rfl⟩
  have hPk : ∀ x ∈ P, keyB x.name = true := fun x hx => ((partsF_right hpF).2 x hx).1
  have hTk : ∀ tt ∈ divN P (singersL V t) (comL V t P) [0, 0, 0, 0], keyB tt.1 = true ∧ keyB tt.2 = true := fun tt htt => by
    obtain ⟨i, hi⟩ := List.getElem?_of_mem htt
    obtain ⟨h1, k, x, hx, hxn⟩ := hTat i tt hi
    exact ⟨hSk _ (List.mem_of_getElem? h1), by rw [← hxn]; exact hPk x (List.mem_of_getElem? hx)⟩
  have hTr : (divN P (singersL V t) (comL V t P) [0, 0, 0, 0]).Pairwise fun a b => cmpS a.1 b.1 = -1 := by
    rw [List.pairwise_iff_getElem]
    intro i j hi hj hij
    obtain ⟨h1, -⟩ := hTat i _ (List.getElem?_eq_getElem hi)
    obtain ⟨h2, -⟩ := hTat j _ (List.getElem?_eq_getElem hj)
    obtain ⟨l1, e1⟩ := List.getElem?_eq_some_iff.1 h1
    obtain ⟨l2, e2⟩ := List.getElem?_eq_some_iff.1 h2
    rw [← e1, ← e2]
    exact (List.pairwise_iff_getElem.1 (rise_cmp (singers_rise V t))) i j l1 l2 hij
  have hPS := hM.sP
  generalize divN P (singersL V t) (comL V t P) [0, 0, 0, 0] = T at *
  have hT5 : T.length ≤ 5 := by omega
  have hTs : ∀ tt ∈ T, tt.1.size ≤ 1000 ∧ tt.2.size ≤ 1000 := fun tt htt => by
    obtain ⟨i, hi⟩ := List.getElem?_of_mem htt
    obtain ⟨h1, k, x, hx, hxn⟩ := hTat i tt hi
    exact ⟨singers_small hVs t _ (List.mem_of_getElem? h1), by rw [← hxn]; exact (hPS x (List.mem_of_getElem? hx)).1⟩
  have hTo : ∀ tt ∈ T, tt.2 ∈ P.map (·.name) := fun tt htt => by
    obtain ⟨i, hi⟩ := List.getElem?_of_mem htt
    obtain ⟨h1, k, x, hx, hxn⟩ := hTat i tt hi
    rw [← hxn]
    exact List.mem_map.2 ⟨x, List.mem_of_getElem? hx, rfl⟩
  generalize fromF P (comL V t P) [0, 0, 0, 0] = best at *
  generalize singersL V t = S at *
  generalize comL V t P = C at *
  replace hds := Lib.hid hds; replace hTk := Lib.hid hTk; replace hTr := Lib.hid hTr; replace hTs := Lib.hid hTs; replace hTo := Lib.hid hTo; replace hPk := Lib.hid hPk; replace hPd := Lib.hid hPd; replace hPS := Lib.hid hPS; clear hTat hgk hgl hTl hCS hS5 hSk hf hz hM hvF hpF hF1 hVs hPs hmo
  go_upto_region 8 with (go_at_call 8; (with_reducible refine Calls.mono hds.out ?_); rintro e wd ⟨q, d, rfl, hT, hb1⟩)
  have hX5 := hX4.trans hb1
  have hSd := hS3.ext hb1
  have hoPd := own_ext hb1 hoP4
  have hszd := hb1.size
  obtain ⟨K, hK⟩ : ∃ K, K = k2 + 1 := ⟨_, rfl⟩
  rw [← hK] at hSd
  have hKb : K ≤ 1000 := by omega
  clear hX4 hb1 hS3 hP4 hds hoP4 hK; replace hT := Lib.hid hT; replace hoPd := Lib.hid hoPd
  generalize hsn : w.heap.size = sn at *
  replace hsn := Lib.hid hsn
  go_wp2
  go_loopw [11, 56] (fun v11 v56 wr => ∃ (i : Nat) (Q : List PersonV) (v : Value), v56 = .int .i64 i ∧ v11 = v ∧ i ≤ T.length ∧ Q.length = i ∧ PeoT T Q ∧ wr.ownsRow wd.heap.size 42 3 v i (Q.flatMap perC) ∧ StrL wr sn L (K + i) ∧ ExtS sn wd wr) (fun _ v56 _ => T.length - (intOf v56).toNat)
  case atStart => exact ⟨0, [], _, rfl, rfl, Nat.zero_le _, rfl, PeoT.nil _, World.ownsRow_nil _ _ _ _, hSd, ExtS.refl _ _⟩
  case round =>
    clear hSd
    obtain ⟨i, Q, v, rfl, rfl, hi, hQl, hQ, hown, hS, hE⟩ := hrel
    have hszr := hE.2.2.2.1
    by_cases hlt : i < T.length
    · obtain ⟨tt, htt⟩ := getD_some (rfl : T.length = T.length) hlt
      have hTo2 := own_extS hE (by omega) hT.out
      obtain ⟨qa, qd, e9, hTs2⟩ := slc_of_own nmpC_len hTo2 (by decide) (by omega)
      cases e9
      obtain ⟨-, ⟨_, e9⟩ | ⟨tb, toff, rfl, htb, htE⟩⟩ := slcC hTs2
      · rw [e9] at htt; cases htt
      have c0 : wr.cell? ⟨tb, toff + i * 2, none⟩ = some (.string tt.1) := htE i tt htt 0 _ rfl
      have c1 : wr.cell? ⟨tb, toff + i * 2 + 1, none⟩ = some (.string tt.2) := htE i tt htt 1 _ rfl
      obtain ⟨hv, hhv⟩ : ∃ z, pkF L (K + i) [1600, 1700, 1800] = z := ⟨_, rfl⟩
      have hvb := pkF_in (L := L) (a := K + i) (xs := [1600, 1700, 1800]) (lo := 500) (hi := 2500) (by simp) (by decide)
      rw [hhv] at hvb
      have hQ2 := hQ.snoc (hQl.symm ▸ htt) hvb
      have hiI : (i : Int) < T.length := by omega
      have hX2 : Blk (wr.alloc (.cells #[.string tt.1, .string tt.2] 39)) wr.heap.size 39 #[.string tt.1, .string tt.2] := Blk.new' rfl
      have hE2 := hE.alloc (.cells #[.string tt.1, .string tt.2] 39)
      have hown2 := hown.alloc (.cells #[.string tt.1, .string tt.2] 39)
      have hS2 : StrL (wr.alloc (.cells #[.string tt.1, .string tt.2] 39)).drew sn L (K + i) := hS.ext (((Ext.refl _).alloc _).drew)
      replace hhv := Lib.hid hhv; replace hQ2 := Lib.hid hQ2; replace htt := Lib.hid htt; replace hown2 := Lib.hid hown2; replace hE2 := Lib.hid hE2; clear hTo2 hTs2 htE hown hS hE hQ
      go_upto_region 11 with fail
      have hxl := hX2.lt
      generalize wr.alloc (.cells #[.string tt.1, .string tt.2] 39) = W2 at *
      generalize hgx : wr.heap.size = gx at *
      have hsl : sn < W2.drew.heap.size := hS2.lt
      refine wp_region_facts [] [([], false, false), ([], false, false), ([1], false, false), ([], false, false), ([], false, true), ([3, 4], true, false), ([], false, false), ([6], false, false), ([1, 2, 3, 4, 5, 6, 7], false, false), ([1, 2, 3, 4, 5, 6, 7, 8], false, true)] (ExtS sn) Ext (fun u => StrL u sn L (K + i)) (by kernel_rfl) (by kernel_rfl) Ext.refl (fun _ _ _ => ExtS.trans) (fun _ _ h => h.extS) (fun _ _ h => h.2.2.2.1) (fun _ _ h he => h.ext he) hS2 ?_
      dsimp only [List.length_cons, List.length_nil, List.drop_succ_cons, List.drop_zero, List.drop_nil]
      refine fac_quiet 0 rfl rfl rfl (fun _ _ h he => h.ext he) rfl rfl ?_
      apply Exists.intro
      refine ⟨fun sv w' hw' hfa => ?_, ?_⟩
      · refine ⟨rfl, ?_⟩
        simp only [putsL]
        change quietTo _ _ _ _ (Sem.run _ (execOp (Act.eval _) _) _)
        try simp only [Act.put, sIA, sCS, sCZ]
        simp [go_sem, quietTo, Ext.refl]
        all_goals first
          | rfl
      refine fac_quiet 1 rfl rfl rfl (fun _ _ h he => h.ext he) rfl rfl ?_
      apply Exists.intro
      refine ⟨fun sv w' hw' hfa => ?_, ?_⟩
      · refine ⟨rfl, ?_⟩
        simp only [putsL]
        change quietTo _ _ _ _ (Sem.run _ (execOp (Act.eval _) _) _)
        try simp only [Act.put, sIA, sCS, sCZ]
        simp [go_sem, quietTo, Ext.refl]
        all_goals first
          | rfl
      refine fac_quiet 2 rfl rfl rfl (fun _ _ h he => h.ext he) rfl rfl ?_
      apply Exists.intro
      refine ⟨fun sv w' hw' hfa => ?_, ?_⟩
      · obtain ⟨f1, -⟩ := hfa
        replace f1 : sv 1 = _ := f1; (try dsimp only at f1)
        obtain ⟨y1, -⟩ := (Blk.extS hX2.drew (by omega) hw').walk
        refine ⟨rfl, ?_⟩
        simp only [putsL]
        change quietTo _ _ _ _ (Sem.run _ (execOp (Act.eval (Act.put _ (some 61) (sv 1))) _) _)
        try simp only [Act.put, sIA, sCS, sCZ]
        simp [go_sem, quietTo, Ext.refl, ↓IntWalk.iteOmega, f1, y1]
        all_goals try simp (disch := omega) only [IntWalk.i64_in]
        all_goals first
          | rfl
      refine fac_quiet 3 rfl rfl rfl (fun _ _ h he => h.ext he) rfl rfl ?_
      apply Exists.intro
      refine ⟨fun sv w' hw' hfa => ?_, ?_⟩
      · refine ⟨rfl, ?_⟩
        simp only [putsL]
        change quietTo _ _ _ _ (Sem.run _ (execOp (Act.eval _) _) _)
        try simp only [Act.put, sIA, sCS, sCZ]
        simp [go_sem, quietTo, Ext.refl]
        all_goals first
          | rfl
      refine fac_row 4 rfl rfl rfl (fun _ _ h he => h.ext he) (fun _ _ h => h.2.2.2.1) (fun _ _ _ _ _ he hg hb => hb.extS (Nat.ne_of_gt (Nat.lt_of_lt_of_le hsl hg)) he) ?_
      apply Exists.intro
      apply Exists.intro
      apply Exists.intro
      apply Exists.intro
      refine ⟨fun sv w' hw' hfa => ?_, ?_⟩
      · refine ⟨rfl, ?_⟩
        simp only [putsL]
        change rowTo _ _ _ _ _ (Sem.run _ (execOp (Act.eval _) _) _)
        try simp only [Act.put, sIA, sCS, sCZ]
        simp [go_sem, rowTo, Ext.refl]
        all_goals try simp (disch := omega) only [IntWalk.i64_in]
        all_goals first
          | rfl
          | exact ⟨rfl, rfl⟩
          | exact ⟨⟨rfl, rfl⟩, rfl⟩
      refine fac_loud 5 rfl rfl rfl ?_
      refine ⟨(fun y _ => y 5 = .int .i64 hv), (fun u => StrL u sn L (K + i + 1)), fun sv w' hw' hfa hcc => ?_, ?_, ?_, ?_⟩
      · obtain ⟨f3, f4, -⟩ := hfa
        replace f3 : sv 3 = _ := f3; (try dsimp only at f3); obtain ⟨g4, f4, l4, b4⟩ := f4; replace f4 : sv 4 = _ := f4; obtain ⟨p4, q4⟩ := b4.walk
        obtain ⟨y1, -⟩ := (Blk.extS hX2.drew (by omega) hw').walk
        refine ⟨rfl, ?_⟩
        simp only [putsL]
        change outc _ _ (Sem.run _ (execOp (Act.eval (Act.put (Act.put _ (some 64) (sv 4)) (some 63) (sv 3))) _) _)
        try simp only [Act.put, sIA, sCS, sCZ]
        simp [go_sem, outc, f3, f4, p4, q4]
        refine (pick_det sn (K + i) _ _ 3 [1600, 1700, 1800] L _ (by omega) (by simp) (by simp) hcc (by omega) b4).mono ?_
        rintro e w4 ⟨rfl, hS4, hE4⟩
        exact ⟨_, rfl, ⟨hE4, hS4⟩, by rw [← hhv.out]; rfl⟩
      · intro x w w' h he; exact h
      · exact fun _ _ h he => h.ext he
      refine fac_quiet 6 rfl rfl rfl (fun _ _ h he => h.ext he) rfl rfl ?_
      apply Exists.intro
      refine ⟨fun sv w' hw' hfa => ?_, ?_⟩
      · refine ⟨rfl, ?_⟩
        simp only [putsL]
        change quietTo _ _ _ _ (Sem.run _ (execOp (Act.eval _) _) _)
        try simp only [Act.put, sIA, sCS, sCZ]
        simp [go_sem, quietTo, Ext.refl]
        all_goals first
          | rfl
      refine fac_quiet 7 rfl rfl rfl (fun _ _ h he => h.ext he) rfl rfl ?_
      apply Exists.intro
      refine ⟨fun sv w' hw' hfa => ?_, ?_⟩
      · obtain ⟨f6, -⟩ := hfa
        replace f6 : sv 6 = _ := f6; (try dsimp only at f6)
        obtain ⟨y1, -⟩ := (Blk.extS hX2.drew (by omega) hw').walk
        refine ⟨rfl, ?_⟩
        simp only [putsL]
        change quietTo _ _ _ _ (Sem.run _ (execOp (Act.eval (Act.put _ (some 66) (sv 6))) _) _)
        try simp only [Act.put, sIA, sCS, sCZ]
        simp [go_sem, quietTo, Ext.refl, ↓IntWalk.iteOmega, f6, y1]
        all_goals try simp (disch := omega) only [IntWalk.i64_in]
        all_goals first
          | rfl
      refine fac_quiet 8 rfl rfl rfl (fun _ _ h he => h.ext he) rfl rfl ?_
      apply Exists.intro
      refine ⟨fun sv w' hw' hfa => ?_, ?_⟩
      · obtain ⟨_, f2, _, _, f5, _, f7, -⟩ := hfa
        replace f2 : sv 2 = _ := f2; (try dsimp only at f2); replace f5 : sv 5 = _ := f5; replace f7 : sv 7 = _ := f7; (try dsimp only at f7)
        refine ⟨rfl, ?_⟩
        simp only [putsL]
        change quietTo _ _ _ _ (Sem.run _ (execOp (Act.eval (Act.put (Act.put (Act.put (Act.put (Act.put (Act.put (Act.put _ (some 67) (sv 7)) (some 66) (sv 6)) (some 65) (sv 5)) (some 64) (sv 4)) (some 63) (sv 3)) (some 62) (sv 2)) (some 61) (sv 1))) _) _)
        try simp only [Act.put, sIA, sCS, sCZ]
        simp [go_sem, quietTo, Ext.refl, f2, f5, f7]
        all_goals first
          | rfl
      refine fac_row 9 rfl rfl rfl (fun _ _ h he => h.ext he) (fun _ _ h => h.2.2.2.1) (fun _ _ _ _ _ he hg hb => hb.extS (Nat.ne_of_gt (Nat.lt_of_lt_of_le hsl hg)) he) ?_
      apply Exists.intro
      apply Exists.intro
      apply Exists.intro
      apply Exists.intro
      refine ⟨fun sv w' hw' hfa => ?_, ?_⟩
      · obtain ⟨_, _, _, _, _, _, _, f8, -⟩ := hfa
        replace f8 : sv 8 = _ := f8; (try dsimp only at f8)
        refine ⟨rfl, ?_⟩
        simp only [putsL]
        change rowTo _ _ _ _ _ (Sem.run _ (execOp (Act.eval (Act.put (Act.put (Act.put (Act.put (Act.put (Act.put (Act.put (Act.put _ (some 68) (sv 8)) (some 67) (sv 7)) (some 66) (sv 6)) (some 65) (sv 5)) (some 64) (sv 4)) (some 63) (sv 3)) (some 62) (sv 2)) (some 61) (sv 1))) _) _)
        try simp only [Act.put, sIA, sCS, sCZ]
        simp [go_sem, rowTo, Ext.refl, f8]
        all_goals try simp (disch := omega) only [IntWalk.i64_in]
        all_goals first
          | rfl
          | exact ⟨rfl, rfl⟩
          | exact ⟨⟨rfl, rfl⟩, rfl⟩
      refine fac_nil fun xq wrq herq hfrq hcrq holdq hapq => ?_
      obtain ⟨f0, f1, f2, f3, f4, f5, f6, f7, f8, f9, -⟩ := hfrq
      replace f0 : xq 0 = _ := f0
      (try dsimp only at f0)
      replace f1 : xq 1 = _ := f1
      (try dsimp only at f1)
      replace f2 : xq 2 = _ := f2
      (try dsimp only at f2)
      replace f3 : xq 3 = _ := f3
      (try dsimp only at f3); obtain ⟨g4, f4, l4, b4⟩ := f4
      replace f4 : xq 4 = _ := f4
      obtain ⟨p4, q4⟩ := b4.walk
      replace f5 : xq 5 = _ := f5
      replace f6 : xq 6 = _ := f6
      (try dsimp only at f6)
      replace f7 : xq 7 = _ := f7
      (try dsimp only at f7)
      replace f8 : xq 8 = _ := f8
      (try dsimp only at f8); obtain ⟨g9, f9, l9, b9⟩ := f9
      replace f9 : xq 9 = _ := f9
      obtain ⟨p9, q9⟩ := b9.walk
      change wpList _ _ _ _ (Act.put (Act.put (Act.put (Act.put (Act.put (Act.put (Act.put (Act.put (Act.put (Act.put _ (some 60) (xq 0)) (some 61) (xq 1)) (some 62) (xq 2)) (some 63) (xq 3)) (some 64) (xq 4)) (some 65) (xq 5)) (some 66) (xq 6)) (some 67) (xq 7)) (some 68) (xq 8)) (some 69) (xq 9)) _
      simp only [putsL, Nat.reduceAdd, List.drop_succ_cons, List.drop_zero, List.drop_nil, Act.put, sIA, sCS, sCZ]
      try simp only [f0, f1, f2, f3, f4, f5, f6, f7, f8, f9]
      clear f0 f1 f2 f3 f6 f7 f8; clear holdq hapq
      have hEq : ExtS sn wd wrq := hE2.out.drew.trans herq
      have hownq := own_extS herq (by omega) (World.ownsRow.drew hown2.out)
      have hszq := hEq.2.2.2.1
      clear b4 p4 q4 l4 hown2 hE2 hS2 herq hX2
      go_wp2_with (at_builtin; go_loud (refine wp_app1 _ (.tmp 60) (.tmp 69) 36 42 3 40 _ rfl rfl Tryz.underlying36 perInfo rfl (by decide) (by decide) wd.heap.size _ i _ rfl hownq g9 (perC ⟨tt.1, hv, tt.2⟩) rfl rfl b9 (per_one _) (by omega) (by omega) ?_; intro v' w6 hown6 hgrow6 _))
      go_roundw
      case rel => exact ⟨i + 1, Q ++ [⟨tt.1, hv, tt.2⟩], v', by go_num, rfl, by omega, by rw [List.length_append, hQl]; rfl, hQ2.out, by rw [flat_snoc]; exact hown6, (hcrq.app hownq (by omega) hgrow6).at (by omega), hEq.app hownq (Nat.le_refl _) hgrow6⟩
      case measure => simp [intOf]; omega
    obtain rfl : i = T.length := by omega
    have hX6 := ExtS.back hX5 (by have := hsn.out; omega) hE
    have hT1 := own_extS hE (by omega) hT.out
    have hP1 := own_extS hE (by omega) hoPd.out
    obtain ⟨qa, qd, e9, hT6⟩ := slc_of_own nmpC_len hT1 (by decide) (by omega)
    cases e9
    obtain ⟨pa, pd, e9, hP6⟩ := slc_of_own partC_len hP1 (by decide) (by omega)
    cases e9
    rw [← hQl] at hown
    obtain ⟨qp, qc, rfl, hQ6⟩ := slc_of_own perC_len hown (by decide) (by omega)
    generalize wr = W6 at *
    have hos := hQ.ost (by omega) hTk.out hTr.out
    have hful := full33 (Q := Q) (by omega)
    obtain ⟨O, hO⟩ : ∃ O, P.map (·.name) = O := ⟨_, rfl⟩
    have hOl : O.length = P.length := by rw [← hO, List.length_map]
    have hOat : ∀ (j : Nat) (x : PartV), P[j]? = some x → O[j]? = some x.name := fun j x hx => by rw [← hO, List.getElem?_map, hx]; rfl
    have hOk : ∀ x ∈ O, keyB x = true ∧ x.size ≤ 1000 := fun x hx => by
      rw [← hO] at hx
      obtain ⟨y, hy, rfl⟩ := List.mem_map.1 hx
      exact ⟨hPk.out y hy, (hPS.out y hy).1⟩
    have hOn : O.Nodup := by
      rw [List.nodup_iff_pairwise_ne, List.pairwise_iff_getElem]
      intro a b ha hb hab e
      have h1 := hOat a _ (List.getElem?_eq_getElem (show a < P.length by omega))
      have h2 := hOat b _ (List.getElem?_eq_getElem (show b < P.length by omega))
      refine hPd.out a b _ _ (List.getElem?_eq_getElem (by omega)) (List.getElem?_eq_getElem (by omega)) hab ?_
      rw [(List.getElem?_eq_some_iff.1 h1).2.symm, (List.getElem?_eq_some_iff.1 h2).2.symm, e]
    have hOf := orderF_of (O := O) (by omega) (fun x hx => (hOk x hx).1) hOn
    have hQs : ∀ x ∈ Q, x.sect ∈ O := fun x hx => by
      obtain ⟨j, hj⟩ := List.getElem?_of_mem hx
      rw [← hO]
      exact hTo.out _ (List.mem_of_getElem? (hQ.at_ j x hj).1)
    have hQm : ∀ x ∈ Q, x.Small := fun x hx => by
      obtain ⟨j, hj⟩ := List.getElem?_of_mem hx
      obtain ⟨h1, h2, h3⟩ := hQ.at_ j x hj
      obtain ⟨h4, h5⟩ := hTs.out _ (List.mem_of_getElem? h1)
      exact ⟨h4, h5, by omega, by omega⟩
    have hQt : ∀ x ∈ Q, (x.name, x.sect) ∈ T := fun x hx => by
      obtain ⟨j, hj⟩ := List.getElem?_of_mem hx
      exact List.mem_of_getElem? (hQ.at_ j x hj).1
    have hTn : T.Pairwise fun a b => a.1 ≠ b.1 := hTr.out.imp fun {a b} h e => by rw [e, cmpS_refl] at h; cases h
    replace hos := Lib.hid hos; replace hful := Lib.hid hful; replace hOat := Lib.hid hOat; replace hOk := Lib.hid hOk; replace hOf := Lib.hid hOf; replace hQs := Lib.hid hQs; replace hQm := Lib.hid hQm; replace hQt := Lib.hid hQt; replace hOn := Lib.hid hOn; replace hTn := Lib.hid hTn; replace hO := Lib.hid hO; replace hOl := Lib.hid hOl; replace hQl := Lib.hid hQl; replace hT6 := Lib.hid hT6
    replace hQ6 := Lib.hid hQ6
    replace htw := Lib.hid (fun u (hu : Ext w u) => ht.ext hu)
    clear hT1 hP1 hown hS hE hQ hTk hTr hTs hTo hPk hPd hPS hszr hT hoPd hX5 hszd hsP4 hsz3 ht
    go_wp2
    go_loopw [12, 74] (fun v12 v74 wr => ∃ (j : Nat) (v : Value), v74 = .int .i64 j ∧ v12 = v ∧ j ≤ P.length ∧ wr.ownsRow W6.heap.size 9 1 v j ((O.take j).flatMap strC) ∧ Ext W6 wr) (fun _ v74 _ => P.length - (intOf v74).toNat)
    case atStart => exact ⟨0, _, rfl, rfl, Nat.zero_le _, World.ownsRow_nil _ _ _ _, Ext.refl _⟩
    case round =>
      obtain ⟨j, v, rfl, rfl, hj, hown, hE⟩ := hrel
      by_cases hlt : j < P.length
      · obtain ⟨x, hx⟩ := getD_some (rfl : P.length = P.length) hlt
        obtain ⟨-, ⟨_, e9⟩ | ⟨pb, poff, rfl, hpb, hpE⟩⟩ := slcC (hP6.ext hE)
        · rw [e9] at hx; cases hx
        obtain ⟨c0, c1, c2, c3, c4⟩ := hpE.part hx
        have hts := take_snocV (hOat.out j x hx)
        have hjI : (j : Int) < P.length := by omega
        have hX2 : Blk (wr.alloc (.cells #[.string x.name, .int .i64 x.lo, .int .i64 x.hi, .int .i64 x.least, .int .i64 x.most] 46)) wr.heap.size 46 #[.string x.name, .int .i64 x.lo, .int .i64 x.hi, .int .i64 x.least, .int .i64 x.most] := Blk.new' rfl
        have hE2 := hE.alloc (.cells #[.string x.name, .int .i64 x.lo, .int .i64 x.hi, .int .i64 x.least, .int .i64 x.most] 46)
        have hown2 := hown.alloc (.cells #[.string x.name, .int .i64 x.lo, .int .i64 x.hi, .int .i64 x.least, .int .i64 x.most] 46)
        have hszr := hE2.size
        replace hts := Lib.hid hts; replace hx := Lib.hid hx; clear hpE hown hE
        go_upto_region 16 with fail
        generalize wr.alloc (.cells #[.string x.name, .int .i64 x.lo, .int .i64 x.hi, .int .i64 x.least, .int .i64 x.most] 46) = W7 at *
        generalize wr.heap.size = gx at *
        obtain ⟨y1, -⟩ := hX2.walk
        have y2 := hX2.lt
        clear c0 c1 c2 c3 c4
        go_wp2_with (at_builtin; go_loud (refine wp_app1 _ (.tmp 78) (.tmp 81) 37 9 1 16 _ rfl rfl Tryz.underlying37 strInfo rfl (by decide) (by decide) W6.heap.size _ j _ rfl (hown2.alloc _) W7.heap.size (strC x.name) rfl rfl (Blk.new' rfl) (by simp [strC, Value.oneCell']) (by omega) (by simp; omega) ?_; intro v' w6 hown6 hgrow6 _))
        go_roundw
        case rel => exact ⟨j + 1, v', by go_num, rfl, by omega, by rw [hts.out, flat_snoc]; exact hown6, (hE2.alloc _).app (hown2.alloc _) (Nat.le_refl _) hgrow6⟩
        case measure => simp [intOf]; omega
      obtain rfl : j = P.length := by omega
      rw [List.take_of_length_le (by have := hOl.out; omega), ← hOl.out] at hown
      obtain ⟨op, oc, rfl, hO8⟩ := slc_of_own (enc := strC) (fun _ => rfl) hown (by decide) (by have := hOl.out; omega)
      have hX8 := hX6.trans hE
      have hT8 := hT6.out.ext hE
      have hQ8 := hQ6.out.ext hE
      generalize wr = W8 at *
      replace hO8 := Lib.hid hO8; replace hT8 := Lib.hid hT8; clear hown hE hP6 hT6 hQ6 hO
      go_upto_region 19 with fail
      obtain ⟨W9, hW9⟩ : ∃ W, W = (((W8.alloc (.cells #[.int .i64 3, .int .i64 3] 3)).alloc (.cells #[.int .i64 0, .int .i64 100] 3)).alloc (.cells #[.slice (some ⟨W8.heap.size, 0, none⟩) 2 2, .slice (some ⟨W8.heap.size + 1, 0, none⟩) 2 2] 48)) := ⟨_, rfl⟩
      have hE9 : Ext W8 W9 := hW9 ▸ (((Ext.refl _).alloc _).alloc _).alloc _
      have hwB : Blk W9 W8.heap.size 3 #[.int .i64 3, .int .i64 3] := hW9 ▸ ((Blk.new' rfl).alloc _).alloc _
      have hhB : Blk W9 (W8.heap.size + 1) 3 #[.int .i64 0, .int .i64 100] := hW9 ▸ (Blk.new' (by simp)).alloc _
      have hsB : Blk W9 (W8.heap.size + 1 + 1) 48 #[.slice (some ⟨W8.heap.size, 0, none⟩) 2 2, .slice (some ⟨W8.heap.size + 1, 0, none⟩) 2 2] := hW9 ▸ Blk.new' (by simp)
      have hM : PsM W9 qp qc Q (some ⟨W8.heap.size, 0, none⟩) 2 [3, 3] (some ⟨W8.heap.size + 1, 0, none⟩) 2 [0, 100] none 0 [] :=
        ⟨hQ8.ext hE9, slc_of_blkT (xs := [3, 3]) (enc := intC) (fun _ => rfl) hwB (by decide), slc_of_blkT (xs := [0, 100]) (enc := intC) (fun _ => rfl) hhB (by decide), Slc.nil _ _ _, hQm.out, (by intro x hx; simp at hx; omega), (by intro x hx; simp at hx; omega), (fun x hx => by cases hx), by have := hQl.out; omega, by simp⟩
      have hby := bySectionS_any hM (hO8.out.ext hE9) (fun x hx => (hOk.out x hx).2) hos.out hful.out hOf.out (by have := hQl.out; omega) (by have := hOl.out; omega) hQs.out
      simp only [List.length_cons, List.length_nil, Nat.zero_add, Nat.reduceAdd] at hby
      have hpo := hos.out
      unfold ostF at hpo
      have hp0 : peopleF Q = 0 := by
        by_cases h : peopleF Q = 0
        · exact h
        · rw [if_neg h] at hpo; exact absurd hpo h
      rw [if_pos hp0] at hpo
      have hbr := fun M (h : ByH Q M) => bs_right (O := O) hos.out (peopleF_ok hp0) (stageF_ok hpo).1 hful.out h hOn.out hQs.out
      simp only [List.length_cons, List.length_nil, Nat.zero_add, Nat.reduceAdd] at hbr
      have hbo : ∀ M, ByH Q M → (bsL [3, 3] M.length (lensL (grpsL O M)) (grpsL O M) 2).Pairwise fun a b => a.row = b.row → secO O T a.name ≤ secO O T b.name := fun M hM => bsL_order (kf := secO O T) (fun i g hg x hx => by
        unfold grpsL at hg
        rw [List.getElem?_map] at hg
        cases ho : O[i]? with
        | none => rw [ho] at hg; cases hg
        | some nm =>
          rw [ho] at hg
          simp only [Option.map_some, Option.some.injEq] at hg
          rw [← hg] at hx
          unfold grpS at hx
          obtain ⟨h1, h2⟩ := List.mem_filter.1 hx
          have h3 := baL.1 h2
          exact secO_at hOn.out hTn.out (hQt.out x (hM.1.subset h1)) (by rw [ho, h3])) 2
      have hX9 := hX8.trans hE9
      have hT9 := hT8.out.ext hE9
      have hO9 := hO8.out.ext hE9
      change Code.wp _ _ _ _ (((W8.alloc (.cells #[.int .i64 3, .int .i64 3] 3)).alloc (.cells #[.int .i64 0, .int .i64 100] 3)).alloc (.cells #[.slice (some ⟨W8.heap.size, 0, none⟩) 2 2, .slice (some ⟨W8.heap.size + 1, 0, none⟩) 2 2] 48))
      rw [← hW9]
      clear hW9 hE9 hwB hhB hpo hp0 hT8 hO8 hX8 hQ8 hos hful hOf
      obtain ⟨y1, -⟩ := hsB.walk
      have y2 := hsB.lt
      replace hby := Lib.hid hby; replace hbr := Lib.hid hbr; replace hbo := Lib.hid hbo; replace hT9 := Lib.hid hT9; replace hO9 := Lib.hid hO9; replace hM := Lib.hid hM
      go_upto_region 20 with (go_at_call 11; go_loud ((with_reducible refine Calls.mono hby.out ?_); rintro e wb ⟨yq, yc, M, rfl, hBy, hYs, hub⟩))
      obtain ⟨hYl, hYr⟩ := hbr.out M hBy
      have hYo := hbo.out M hBy
      generalize bsL [3, 3] M.length (lensL (grpsL O M)) (grpsL O M) 2 = Y at *
      have hYt : ∀ z ∈ Y, ∃ u ∈ T, u.1 = z.name ∧ ∃ i, O[i]? = some u.2 := fun z hz => by
        obtain ⟨a1, -⟩ := (standsF_right hYr).2.2.1 z hz
        unfold hasP at a1
        obtain ⟨p, hp, e⟩ := List.any_eq_true.1 a1
        exact ⟨(p.name, p.sect), hQt.out p hp, baL.1 e, List.getElem?_of_mem (hQs.out p hp)⟩
      have hMb := hM.out.more hub
      have hPB : PsM wb qp qc Q (some ⟨W8.heap.size, 0, none⟩) 2 [3, 3] (some ⟨W8.heap.size + 1, 0, none⟩) 2 [0, 100] yq yc Y := ⟨hMb.per, hMb.wid, hMb.hig, hYs, hMb.sP, hMb.sw, hMb.sh, smallT_of hYr hMb.sP, hMb.nP, by have := hQl.out; omega⟩
      have hck := checkStands_any _ _ _ _ _ _ _ _ _ _ _ _ _ hPB
      simp only [List.length_cons, List.length_nil, Nat.zero_add, Nat.reduceAdd] at hck
      rw [hYr] at hck
      have hXb := hX9.trans hub
      have hTb := hT9.out.ext hub
      have hOb := hO9.out.ext hub
      have hsb := hsB.ext hub
      have hYlI : (Y.length : Int) = Q.length := by omega
      have hY5 : Y.length ≤ 5 := by have := hQl.out; omega
      clear y1 y2 hby hbr hbo hM hMb hPB hub hT9 hO9 hsB hX9 hBy
      obtain ⟨y1, -⟩ := hsb.walk
      have y2 := hsb.lt
      replace hck := Lib.hid hck; replace hYl := Lib.hid hYl; replace hYr := Lib.hid hYr; replace hYo := Lib.hid hYo; replace hYt := Lib.hid hYt; replace hTb := Lib.hid hTb; replace hOb := Lib.hid hOb; replace hYs := Lib.hid hYs
      go_upto_region 22 with (go_at_call 12; go_loud ((with_reducible refine Calls.mono hck.out ?_); rintro e wk ⟨rfl, huk⟩))
      have hXk := hXb.trans huk
      have hTk := hTb.out.ext huk
      have hOk9 := hOb.out.ext huk
      have hYk := hYs.out.ext huk
      replace hTk := Lib.hid hTk; replace hOk9 := Lib.hid hOk9; clear huk y1 y2 hck hTb hOb hYs hsb
      go_wp2
      go_loopw [110] (fun v110 wr => ∃ r : Nat, v110 = .int .i64 r ∧ r ≤ 2 ∧ Ext wk wr) (fun v110 _ => 2 - (intOf v110).toNat)
      case atStart => exact ⟨0, rfl, by omega, Ext.refl _⟩
      case round =>
        obtain ⟨r, rfl, hr, hE⟩ := hrel
        by_cases hr2 : r < 2
        · have hrI : (r : Int) < 2 := by omega
          go_upto_region 27 with fail
          generalize wr = Wr at *
          go_loopw [20, 115] (fun v20 v115 wr => ∃ k last : Nat, v115 = .int .i64 k ∧ v20 = .int .i64 last ∧ k ≤ Y.length ∧ (∀ (m : Nat) (z : StandV), k ≤ m → Y[m]? = some z → z.row = r → last ≤ secO O T z.name) ∧ Ext wk wr) (fun _ v115 _ => Y.length - (intOf v115).toNat)
          case atStart => exact ⟨0, 0, rfl, rfl, Nat.zero_le _, fun m z _ _ _ => Nat.zero_le _, hE⟩
          case round =>
            clear hE
            obtain ⟨k, last, rfl, rfl, hk, hlast, hE⟩ := hrel
            by_cases hlt : k < Y.length
            · obtain ⟨z, hz⟩ := getD_some (rfl : Y.length = Y.length) hlt
              obtain ⟨-, ⟨_, e9⟩ | ⟨yb, yoff, rfl, hyb, hyE⟩⟩ := slcC (hYk.ext hE)
              · rw [e9] at hz; cases hz
              obtain ⟨c0, c1, c2⟩ := hyE.sta hz
              have hkI : (k : Int) < Y.length := by omega
              have hX2 : Blk (wr.alloc (.cells #[.string z.name, .int .i64 z.row, .int .i64 z.place] 54)) wr.heap.size 54 #[.string z.name, .int .i64 z.row, .int .i64 z.place] := Blk.new' rfl
              have hE2 := hE.alloc (.cells #[.string z.name, .int .i64 z.row, .int .i64 z.place] 54)
              replace hlast := Lib.hid hlast; replace hz := Lib.hid hz; clear hyE hE
              go_upto_region 29 with fail
              generalize wr.alloc (.cells #[.string z.name, .int .i64 z.row, .int .i64 z.place] 54) = W7 at *
              generalize wr.heap.size = gx at *
              obtain ⟨y1, -⟩ := hX2.walk
              have y2 := hX2.lt
              clear c0 c1 c2
              by_cases hzr : z.row = r
              · have hbz : ((z.row : Int) == (r : Int)) = true := by simp [hzr]
                obtain ⟨u, hu, hun, i0, hi0⟩ := hYt.out z (List.mem_of_getElem? hz.out)
                have hfi := tdFind z gx q d T W7 (hTk.out.ext hE2) (by omega) hX2 ⟨u, hu, hun⟩
                have hsec := secO_at hOn.out hTn.out hu hi0
                rw [hun] at hsec
                have hone : ∀ (a : Nat) (tt : ByteArray × ByteArray), T[a]? = some tt → tt.1 = z.name → tt = u := fun a tt ha htn => by
                  obtain ⟨b, hb⟩ := List.getElem?_of_mem hu
                  obtain ⟨la, ea⟩ := List.getElem?_eq_some_iff.1 ha
                  obtain ⟨lb, eb⟩ := List.getElem?_eq_some_iff.1 hb
                  rcases Nat.lt_trichotomy a b with h | h | h
                  · exact absurd (by rw [ea, eb, htn, hun]) ((List.pairwise_iff_getElem.1 hTn.out) a b la lb h)
                  · subst h; rw [← ea, ← eb]
                  · exact absurd (by rw [ea, eb, htn, hun]) ((List.pairwise_iff_getElem.1 hTn.out) b a lb la h)
                have hl0 := hlast.out k z (Nat.le_refl _) hz.out hzr
                rw [hsec] at hl0
                have hnl : ¬ ((i0 : Int) < (last : Int)) := by omega
                have hnext : ∀ (m : Nat) (z' : StandV), k + 1 ≤ m → Y[m]? = some z' → z'.row = r → i0 ≤ secO O T z'.name := fun m z' hm hz' hr' => by
                  obtain ⟨l1, e1⟩ := List.getElem?_eq_some_iff.1 hz.out
                  obtain ⟨l2, e2⟩ := List.getElem?_eq_some_iff.1 hz'
                  have := (List.pairwise_iff_getElem.1 hYo.out) k m l1 l2 (by omega)
                  rw [e1, e2, hsec] at this
                  exact this (by rw [hzr, hr'])
                have hO10 := hOk9.out.ext hE2
                have hT10 := hTk.out.ext hE2
                replace hfi := Lib.hid hfi; replace hnext := Lib.hid hnext; replace hone := Lib.hid hone; clear hl0 hsec hlast
                go_upto_region 31 with (go_at_call 13; go_loud ((with_reducible refine Calls.mono hfi.out ?_); rintro e w11 ⟨kk, tt, rfl, htt, htn, h11⟩))
                obtain rfl := hone.out kk tt htt htn
                have hkk := (List.getElem?_eq_some_iff.1 htt).1
                have hkkI : (kk : Int) < T.length := by omega
                have hkk0 : ¬ ((kk : Int) < 0) := by omega
                have hT11 := hT10.ext h11
                obtain ⟨-, ⟨_, e9⟩ | ⟨tb, toff, rfl, htb, htE⟩⟩ := slcC hT11
                · rw [e9] at htt; cases htt
                have d1 : w11.cell? ⟨tb, toff + kk * 2 + 1, none⟩ = some (.string tt.2) := htE kk tt htt 1 _ rfl
                have hio := indexS2_any op O.length oc O tt.2 w11 (hO10.ext h11) (by have := hOl.out; omega)
                replace hio := Lib.hid hio; replace htt := Lib.hid htt; replace hi0 := Lib.hid hi0; clear hT10 hT11 htE hO10 hfi
                go_upto_region 34 with (go_at_call 15; go_loud ((with_reducible refine Calls.mono hio.out ?_); rintro e w12 ⟨ii, rfl, hii, h12⟩))
                have hii2 : ii = i0 := by
                  rcases hii with ⟨-, h⟩ | ⟨kq, rfl, hkq⟩
                  · exact absurd (List.mem_of_getElem? hi0.out) h
                  · have := (List.getElem?_inj (List.getElem?_eq_some_iff.1 hkq).1 hOn.out).1 (hkq.trans hi0.out.symm)
                    rw [this]
                subst hii2
                clear hii
                go_wp2
                go_roundw
                case rel => exact ⟨k + 1, i0, by go_num, rfl, by omega, hnext.out, (hE2.trans h11).trans h12⟩
                case measure => simp [intOf]; omega
              · have hbz : ((z.row : Int) == (r : Int)) = false := by simp [hzr]
                have hnext : ∀ (m : Nat) (z' : StandV), k + 1 ≤ m → Y[m]? = some z' → z'.row = r → last ≤ secO O T z'.name := fun m z' hm => hlast.out m z' (by omega)
                replace hnext := Lib.hid hnext; clear hlast
                go_wp2
                go_roundw
                case rel => exact ⟨k + 1, last, by go_num, rfl, by omega, hnext.out, hE2⟩
                case measure => simp [intOf]; omega
            · obtain rfl : k = Y.length := by omega
              clear hlast
              go_wp2
              go_roundw
              case rel => exact ⟨r + 1, by go_num, by omega, hE⟩
              case measure => simp [intOf]; omega
        · obtain rfl : r = 2 := by omega
          rw [show ((2 : Nat) : Int) = 2 from rfl]
          go_wp2_with (go_at_call 9; go_loud ((with_reducible refine Calls.mono (h06facts_any B _ (htw.out _ (hXk.trans hE))) ?_); rintro e u9 ⟨rfl, hu9⟩))
          go_ret
          exact ⟨rfl, (hXk.trans hE).trans hu9⟩
end Go.Proofs.YtdehmioobkneiaaGreatDoor
