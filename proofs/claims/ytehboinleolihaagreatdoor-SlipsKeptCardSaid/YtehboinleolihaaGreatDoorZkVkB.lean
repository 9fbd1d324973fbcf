/- Numbers out of words, by the document's text. Conditions: sizes. -/
import Derived.Test.YtehboinleolihaaGreatDoorZkJ13
import Derived.Test.YtehboinleolihaaGreatDoorZkJ11
import Derived.Test.YtehboinleolihaaGreatDoorZkJ12
set_option linter.unusedSimpArgs false
set_option linter.unusedVariables false
namespace Go.Proofs.YtehboinleolihaaGreatDoor
open Go Go.RowKit
theorem trimDashG_any (s : ByteArray) (w : World) :
 Calls Tryz.prog 127 #[.string s, .string ⟨#[45]⟩] w fun e w' => e = .returned (.string (undashB s)) ∧ w = w' :=
 (Tryz.strings_TrimPrefix s ⟨#[45]⟩ w).mono fun _ _ h => ⟨h.1, h.2.symm⟩
/-- Whether a word is digits, by its form. -/
def intCv (s : ByteArray) : Bool := inB (undashB s).size 1 15 && (trimD (undashB s)).toList.isEmpty
def intRv (s : ByteArray) : Int := if intCv s then numV s else 0
theorem toList_nil {s : ByteArray} : s.toList.isEmpty = s.data.toList.isEmpty := by rw [Lib.toList_data]
theorem intCv_at {s : ByteArray} (h : intCv s = true) : s.size ≤ 16 ∧ ∃ v : Nat, v < 1000000000000000 ∧ Lib.atoi (undashB s).data.toList = some (v : Int) ∧ numV s = (if dashed s then -(v : Int) else v) ∧ Lib.atoi s.data.toList = some (numV s) ∧ (undashB s).data.toList ≠ [] := by
 unfold intCv inB at h
 simp only [Bool.and_eq_true, decide_eq_true_eq] at h
 obtain ⟨⟨h1, h2⟩, h3⟩ := h
 have hD : (undashB s).data.toList.length = (undashB s).size := Array.length_toList
 have hne : (undashB s).data.toList ≠ [] := fun e => by rw [e] at hD; simp at hD; omega
 have hemp : (undashB s).toList.isEmpty = false := by
  rw [toList_nil]
  cases hl : (undashB s).data.toList with
  | nil => exact absurd hl hne
  | cons b r => rfl
 obtain ⟨v, hv, hlt, -⟩ := num_atoi (most := 15) hemp (by omega) (by simpa using h3) (by decide)
 have hnv : numV s = (if dashed s then -(v : Int) else v) := by unfold numV; rw [hv]; rfl
 have ht := empty_data (s := trimD (undashB s)) h3
 have hall := all_of_trimS (show Lib.trimS (undashB s).data.toList digitsB.data.toList = [] by simpa [trimD] using ht)
 have hdig := fun b hb => digit_of (hall b hb)
 have hdec := dec_atoi hne hdig hv
 have hS : s.data.toList.length = s.size := Array.length_toList
 cases hd : dashed s with
 | false =>
   have hu : (undashB s).data.toList = s.data.toList := by
    unfold undashB Lib.trimPrefix
    rw [show Lib.hasPrefix s.data.toList [45] = false from hd]
    simp
   refine ⟨by rw [hu] at hD; omega, v, hlt, hv, by rw [hnv, hd], ?_, hne⟩
   rw [hnv, hd, ← hu]
   exact hv
 | true =>
   have hu : (undashB s).data.toList = s.data.toList.drop 1 := by
    unfold undashB Lib.trimPrefix
    rw [show Lib.hasPrefix s.data.toList [45] = true from hd]
    simp
   have hcons : s.data.toList = 45 :: (undashB s).data.toList := by
    rw [hu]
    have hp : Lib.hasPrefix s.data.toList [45] = true := hd
    unfold Lib.hasPrefix at hp
    cases hl : s.data.toList with
    | nil => rw [hl] at hp; cases hp
    | cons b r =>
      rw [hl] at hp
      have : b = 45 := by simpa [List.isPrefixOf] using Eq.symm (a := 45) (by simpa [List.isPrefixOf] using hp)
      rw [this]; simp
   refine ⟨by rw [hcons, List.length_cons] at hS; omega, v, hlt, hv, by rw [hnv, hd], ?_, hne⟩
   rw [hnv, hd, hcons]
   unfold Lib.atoi
   simp only [beq_self_eq_true, if_true]
   unfold Lib.decNat
   cases hl : (undashB s).data.toList with
   | nil => exact absurd hl hne
   | cons b r =>
     rw [hl] at hdec
     simp only [List.isEmpty_cons, Bool.false_eq_true, if_false, hdec, Option.map_some]
theorem intOk_num (s : ByteArray) : (intCv s && ((itoaL (numV s)).toList == s.toList)) = numOk 15 s := by
 cases hc : intCv s with
 | false =>
   have : numOk 15 s = false := by
    cases hn : numOk 15 s with
    | false => rfl
    | true =>
      exfalso
      unfold numOk at hn
      simp only [Bool.and_eq_true, Bool.not_eq_true', decide_eq_true_eq] at hn
      obtain ⟨⟨⟨h1, h2⟩, h3⟩, h4⟩ := hn
      have hp : 1 ≤ (undashB s).size := by
       rcases Nat.eq_zero_or_pos (undashB s).size with h | h
       ·rw [toList_nil] at h1
        have : (undashB s).data.toList = [] := List.eq_nil_of_length_eq_zero (by rw [Array.length_toList]; exact h)
        rw [this] at h1; cases h1
       ·exact h
      unfold intCv inB at hc
      rw [h3] at hc
      simp at hc
      omega
   rw [this]; rfl
 | true =>
   cases hn : numOk 15 s with
   | true =>
     rw [num_write hn]
     simp
   | false =>
     simp only [Bool.true_and]
     rw [Bool.eq_false_iff]
     intro he
     have he2 := beq_iff_eq.1 he
     rw [Lib.toList_data, Lib.toList_data] at he2
     obtain ⟨hs, v, hlt, hv, hnv, hat, hne⟩ := intCv_at hc
     have hc2 := hc
     unfold intCv inB at hc2
     simp only [Bool.and_eq_true, decide_eq_true_eq] at hc2
     obtain ⟨⟨h1, h2⟩, h3⟩ := hc2
     have hD : (undashB s).data.toList.length = (undashB s).size := Array.length_toList
     have hemp : (undashB s).toList.isEmpty = false := by
      rw [toList_nil]
      cases hl : (undashB s).data.toList with
      | nil => exact absurd hl hne
      | cons b r => rfl
     unfold numOk at hn
     rw [hemp, h3, show decide (((undashB s).size : Int) ≤ 15) = true by simp; omega] at hn
     simp only [Bool.not_false, Bool.true_and, Bool.not_eq_false', Bool.and_eq_true, beq_iff_eq, Bool.or_eq_true, decide_eq_true_eq] at hn
     obtain ⟨h48, hor⟩ := hn
     have hhead : (undashB s).data.toList.head? = some 48 := by
      cases hl : (undashB s).data.toList with
      | nil => exact absurd hl hne
      | cons b r => rw [hl] at h48; exact congrArg some h48
     cases hd : dashed s with
     | false =>
       rw [hnv, hd] at he2
       have hu : (undashB s).data.toList = s.data.toList := by
        unfold undashB Lib.trimPrefix
        rw [show Lib.hasPrefix s.data.toList [45] = false from hd]
        simp
       have e3 : Lib.decDigits v = (undashB s).data.toList := by
        rw [hu, ← he2]
        show _ = (Lib.itoa (v : Int)).toArray.toList
        rw [Lib.itoa_nonneg]
       have hsz : 1 < (undashB s).size := by
        rcases hor with h | h
        ·exact h
        ·rw [hd] at h; cases h
       rcases Nat.eq_zero_or_pos v with h0 | h0
       ·subst h0
        rw [Lib.decDigits, dif_pos (by decide)] at e3
        rw [← e3] at hD
        simp at hD
        omega
       ·have := dec_head v h0
        rw [e3] at this
        exact this hhead
     | true =>
       rw [hnv, hd] at he2
       have hcons : s.data.toList = 45 :: (undashB s).data.toList := by
        have hu : (undashB s).data.toList = s.data.toList.drop 1 := by
         unfold undashB Lib.trimPrefix
         rw [show Lib.hasPrefix s.data.toList [45] = true from hd]
         simp
        rw [hu]
        have hp : Lib.hasPrefix s.data.toList [45] = true := hd
        unfold Lib.hasPrefix at hp
        cases hl : s.data.toList with
        | nil => rw [hl] at hp; cases hp
        | cons b r =>
          rw [hl] at hp
          have : b = 45 := by simpa [List.isPrefixOf] using Eq.symm (a := 45) (by simpa [List.isPrefixOf] using hp)
          rw [this]; simp
       rcases Nat.eq_zero_or_pos v with h0 | h0
       ·subst h0
        rw [hcons] at he2
        have e4 : (Lib.itoa (-((0 : Nat) : Int))).toArray.toList = [48] := by
         show (Lib.itoa ((0 : Nat) : Int)).toArray.toList = _
         rw [Lib.itoa_nonneg, Lib.decDigits, dif_pos (by decide)]
         rfl
        have e5 : [48] = 45 :: (undashB s).data.toList := e4.symm.trans he2
        simp at e5
       ·have e4 : 45 :: Lib.decDigits v = 45 :: (undashB s).data.toList := by
         rw [← hcons, ← he2]
         show _ = (Lib.itoa (-(v : Int))).toArray.toList
         rw [Lib.itoa_neg v h0]
        have := dec_head v h0
        rw [(List.cons.inj e4).2] at this
        exact this hhead
set_option maxRecDepth 100000 in
set_option maxHeartbeats 1600000 in
theorem intG_any (s : ByteArray) (B : Nat) (w : World) (hs : s.size ≤ 1000000000) (ht : Tab B w) :
 Calls Tryz.prog 52 #[.string s, .int .i64 15] w fun e w' => e = .returned (.tuple #[.int .i64 (intRv s), .bool (numOk 15 s)]) ∧ Ext w w' := by
 have hsz := size_undash s
 have hC := fun W => trimDashG_any s W
 have hO := (intOk_num s).symm
 have hR : intRv s = if intCv s then numV s else 0 := rfl
 have hc : intCv s = (inB (undashB s).size 1 15 && (trimD (undashB s)).toList.isEmpty) := rfl
 have hA := fun (h : intCv s = true) => intCv_at h
 have hat : ∀ (h : intCv s = true) (W : World), Calls Tryz.prog 129 #[.string s] W fun e w' => e = .returned (.tuple #[.int .i64 (numV s), .nilIface]) ∧ Ext W w' := fun h W => by
  obtain ⟨h1, v, -, -, -, h2, -⟩ := hA h
  exact (Tryz.strconv_Atoi s (numV s) (by omega) h2 W).mono fun e w' ⟨he, t, hw⟩ => ⟨he, hw ▸ ext_bytes _ _ _⟩
 have hit : ∀ (h : intCv s = true) (W : World) (hW : Tab B W), Calls Tryz.prog 110 #[.int .i64 (numV s)] W fun e w' => e = .returned (.string (itoaL (numV s))) ∧ Ext W w' := fun h W hW => by
  obtain ⟨h1, v, h3, -, h4, -⟩ := hA h
  have hb : -1000000000000000 < numV s ∧ numV s < 1000000000000000 := by rw [h4]; split <;> omega
  exact itoa_any (numV s) (by omega) (by omega) B W hW
 have hI := fun W => in_any ((undashB s).size : Int) 1 15 W
 have hTr := fun W => trimD_any (undashB s) W (by omega)
 generalize numOk 15 s = ok at *
 generalize intRv s = R at *
 generalize undashB s = D at *
 generalize (trimD D) = U at *
 generalize inB (D.size : Int) 1 15 = ib at *
 clear hA
 generalize itoaL (numV s) = I at *
 generalize numV s = N at *
 generalize hcc : intCv s = cc at *
 clear hcc; replace hO := Lib.hid hO; replace hR := Lib.hid hR; replace hc := Lib.hid hc; replace hC := Lib.hid hC; replace hat := Lib.hid hat; replace hit := Lib.hid hit; replace hI := Lib.hid hI; replace hTr := Lib.hid hTr
 go_enter Tryz.func52, Tryz.ntmps52
 go_wp2_with (first
  | (go_at_call 127; (with_reducible refine Calls.mono (hC.out _) ?_); rintro e w1 ⟨rfl, rfl⟩)
  | (go_at_call 96; (with_reducible refine Calls.mono (hI.out _) ?_); rintro e w2 ⟨rfl, rfl⟩)
  | (go_at_call 128; (with_reducible refine Calls.mono (hTr.out _) ?_); rintro e w3 ⟨rfl, hb3⟩)
  | (go_at_call 129; have hcc : cc = true := (by rw [hc.out]; cases hx : U.toList.isEmpty <;> simp_all); (with_reducible refine Calls.mono (hat.out hcc _) ?_); rintro e w4 ⟨rfl, hb4⟩)
  | (go_at_call 110; (with_reducible refine Calls.mono (hit.out hcc _ (by exact (ht.ext hb3).ext hb4)) ?_); rintro e w5 ⟨rfl, hb5⟩))
 all_goals
  first
   | (have hcc : cc = true := hcc
      go_ret2
      refine ⟨?_, by exact (hb3.trans hb4).trans hb5⟩
      rw [hR.out, hO.out, hcc]
      rfl)
   | (have hcc : cc = false := by rw [hc.out]; cases hx : U.toList.isEmpty <;> simp_all
      go_ret2
      refine ⟨?_, by first | exact Ext.refl _ | exact hb3⟩
      rw [hR.out, hO.out, hcc]
      rfl)
theorem intG_good (s : ByteArray) (B : Nat) (w : World) (hs : s.size ≤ 1000000000) (h : numOk 15 s = true) (ht : Tab B w) :
 Calls Tryz.prog 52 #[.string s, .int .i64 15] w fun e w' => e = .returned (.tuple #[.int .i64 (numV s), .bool true]) ∧ Ext w w' := by
 have hc : intCv s = true := by
  have := intOk_num s
  rw [h] at this
  simp only [Bool.and_eq_true] at this
  exact this.1
 have := intG_any s B w hs ht
 rw [h, show intRv s = numV s by unfold intRv; rw [if_pos hc]] at this
 exact this
set_option maxRecDepth 100000 in
set_option maxHeartbeats 1600000 in
theorem ints_goodO (B g o n c : Nat) (W : List ByteArray) (w : World) (hc : ∀ (j : Nat) x, W[j]? = some x → w.cell? ⟨g, o + j, none⟩ = some (.string x)) (hg : g < w.heap.size) (hn : W.length = n) (hn1 : n ≤ 1000) (hs : ∀ x ∈ W, x.size ≤ 1000000) (hw : ∀ x ∈ W, numOk 15 x = true) (ht : Tab B w) :
 Calls Tryz.prog 164 #[.slice (some ⟨g, o, none⟩) n c, .int .i64 15] w fun e w' => (∃ p c', e = .returned (.tuple #[.slice p n c', .bool true]) ∧ Slc 1 intC w' p n c' (W.map numV)) ∧ Ext w w' := by
 have hl := Lib.hid hn
 replace hc := Lib.hid hc; replace hs := Lib.hid hs; replace hw := Lib.hid hw; clear hn
 go_enter Tryz.func164, Tryz.ntmps164
 go_wp2
 go_loopw [6,13] (fun v4 i wr => ∃ (k : Nat) (v : Value), k ≤ n ∧ i = .int .i64 k ∧ v4 = v ∧ wr.ownsRow w.heap.size 3 1 v k (((W.take k).map numV).flatMap intC) ∧ Ext w wr) (fun _ i _ => n - (intOf i).toNat)
 case atStart => exact ⟨0, _, Nat.zero_le _, rfl, rfl, World.ownsRow_nil _ _ _ _, Ext.refl _⟩
 case round =>
  obtain ⟨k, v, hk, rfl, rfl, ho, he⟩ := hrel
  by_cases hlt : k < n
  ·obtain ⟨x, hx⟩ := getD_some hl.out hlt
   obtain ⟨hce, -, -⟩ := he.walk
   have c0 := (hce _ (o + k) hg).trans (hc.out k x hx)
   have hxm := List.mem_of_getElem? hx
   have hok := hw.out x hxm
   have htr := ht.ext he
   have hnum : ∀ u, Ext wr u → Calls Tryz.prog 52 #[.string x, .int .i64 15] u fun e w' => e = .returned (.tuple #[.int .i64 (numV x), .bool true]) ∧ Ext u w' := fun u hu => intG_good x B u (by have := hs.out x hxm; omega) hok (htr.ext hu)
   have hkI : (k : Int) < n := by omega
   have hst : ((W.take (k + 1)).map numV).flatMap intC = ((W.take k).map numV).flatMap intC ++ intC (numV x) := by
    obtain ⟨hk9, e9⟩ := List.getElem?_eq_some_iff.1 hx
    rw [List.take_succ_eq_append_getElem hk9, e9, List.map_append, List.flatMap_append]
    simp
   replace hnum := Lib.hid hnum; replace hst := Lib.hid hst
   have hsz := he.size
   replace ho := Lib.hid ho; clear hx hce hok hxm htr
   generalize hV : numV x = V at *
   clear hV
   go_wp2_with (first
    | (go_at_call 52; (with_reducible refine Calls.mono (hnum.out _ (Ext.refl _)) ?_); rintro e w1 ⟨rfl, hb1⟩; have ho1 := own_ext hb1 ho.out; have hs1 := hb1.size)
    | (at_builtin; go_loud (refine wp_app1 _ (.tmp 25) (.tmp 27) 22 3 1 8 (.int .i64 0) rfl rfl Tryz.underlying22 intI rfl (by decide) (by decide) w.heap.size _ k _ rfl (ho1.alloc _) w1.heap.size (intC V) rfl rfl (Blk.new' rfl) (by simp [intC, Value.oneCell']) (by omega) (by simp; omega) ?_; intro v' w6 hown6 hgrow6 _)))
   go_roundw
   case rel => exact ⟨k + 1, v', by omega, by go_num, rfl, by rw [hst.out]; exact hown6, ((he.trans hb1).alloc _).grown hgrow6 fun j e => (ho1.lt j e).1⟩
   case measure => simp [intOf]; omega
  ·obtain rfl : k = n := by omega
   have hW : W.take k = W := by rw [← hl.out, List.take_length]
   rw [hW] at ho
   obtain ⟨p, c', rfl, hS⟩ := slc_of_own intC_len ho (by decide) (by omega)
   clear ho; replace hS := Lib.hid hS
   go_wp2
   go_ret2
   exact ⟨⟨p, c', rfl, hS.out⟩, he⟩
set_option maxRecDepth 100000 in
set_option maxHeartbeats 1600000 in
theorem ints_badO (B g o n c : Nat) (W : List ByteArray) (w : World) (hc : ∀ (j : Nat) x, W[j]? = some x → w.cell? ⟨g, o + j, none⟩ = some (.string x)) (hg : g < w.heap.size) (hn : W.length = n) (hn1 : n ≤ 1000) (hs : ∀ x ∈ W, x.size ≤ 1000000) (hw : ∃ x ∈ W, numOk 15 x = false) (ht : Tab B w) :
 Calls Tryz.prog 164 #[.slice (some ⟨g, o, none⟩) n c, .int .i64 15] w fun e w' => e = .returned (.tuple #[.slice none 0 0, .bool false]) ∧ Ext w w' := by
 have hl := Lib.hid hn
 replace hc := Lib.hid hc; replace hs := Lib.hid hs; replace hw := Lib.hid hw; clear hn
 go_enter Tryz.func164, Tryz.ntmps164
 go_wp2
 go_loopw [6,13] (fun v4 i wr => ∃ (k : Nat) (v : Value) (L : List Int), k ≤ n ∧ i = .int .i64 k ∧ v4 = v ∧ wr.ownsRow w.heap.size 3 1 v k (L.flatMap intC) ∧ (∀ j x, j < k → W[j]? = some x → numOk 15 x = true) ∧ Ext w wr) (fun _ i _ => n - (intOf i).toNat)
 case atStart => exact ⟨0, _, [], Nat.zero_le _, rfl, rfl, World.ownsRow_nil _ _ _ _, fun j x hj => by omega, Ext.refl _⟩
 case round =>
  obtain ⟨k, v, L, hk, rfl, rfl, ho, hz, he⟩ := hrel
  by_cases hlt : k < n
  ·obtain ⟨x, hx⟩ := getD_some hl.out hlt
   obtain ⟨hce, -, -⟩ := he.walk
   have c0 := (hce _ (o + k) hg).trans (hc.out k x hx)
   have hxm := List.mem_of_getElem? hx
   have htr := ht.ext he
   have hnum : ∀ u, Ext wr u → Calls Tryz.prog 52 #[.string x, .int .i64 15] u fun e w' => e = .returned (.tuple #[.int .i64 (intRv x), .bool (numOk 15 x)]) ∧ Ext u w' := fun u hu => intG_any x B u (by have := hs.out x hxm; omega) (htr.ext hu)
   have hkI : (k : Int) < n := by omega
   have hsz := he.size
   have hz2 : numOk 15 x = true → ∀ j y, j < k + 1 → W[j]? = some y → numOk 15 y = true := fun hok j y hj hy => by
    rcases Nat.lt_or_ge j k with h | h
    ·exact hz j y h hy
    ·obtain rfl : j = k := by omega
     rw [hx] at hy
     cases hy
     exact hok
   replace ho := Lib.hid ho; replace hz2 := Lib.hid hz2; clear hx hce hxm hz htr
   cases hok : numOk 15 x
   ·rw [hok] at hnum
    generalize intRv x = V at *
    replace hnum := Lib.hid hnum; clear hok hz2
    go_wp2_with (go_at_call 52; (with_reducible refine Calls.mono (hnum.out _ (Ext.refl _)) ?_); rintro e w1 ⟨rfl, hb1⟩)
    go_ret2
    exact ⟨rfl, he.trans hb1⟩
   ·rw [hok] at hnum
    replace hz2 := Lib.hid (hz2.out hok)
    generalize intRv x = V at *
    replace hnum := Lib.hid hnum; clear hok
    go_wp2_with (first
     | (go_at_call 52; (with_reducible refine Calls.mono (hnum.out _ (Ext.refl _)) ?_); rintro e w1 ⟨rfl, hb1⟩; have ho1 := own_ext hb1 ho.out; have hs1 := hb1.size)
     | (at_builtin; go_loud (refine wp_app1 _ (.tmp 25) (.tmp 27) 22 3 1 8 (.int .i64 0) rfl rfl Tryz.underlying22 intI rfl (by decide) (by decide) w.heap.size _ k _ rfl (ho1.alloc _) w1.heap.size (intC V) rfl rfl (Blk.new' rfl) (by simp [intC, Value.oneCell']) (by omega) (by simp; omega) ?_; intro v' w6 hown6 hgrow6 _)))
    go_roundw
    case rel => exact ⟨k + 1, v', L ++ [V], by omega, by go_num, rfl, by rw [List.flatMap_append]; simpa using hown6, hz2.out, ((he.trans hb1).alloc _).grown hgrow6 fun j e => (ho1.lt j e).1⟩
    case measure => simp [intOf]; omega
  ·exfalso
   obtain ⟨x, hx, e⟩ := hw.out
   obtain ⟨j, hj, rfl⟩ := List.getElem_of_mem hx
   have := hz j _ (by have := hl.out; omega) (List.getElem?_eq_getElem hj)
   rw [e] at this
   cases this
theorem idxFrom_in (w : ByteArray) : ∀ (L : List ByteArray) (i : Nat), 0 ≤ Lib.idxFromS L w i ↔ ∃ x ∈ L, x = w
 | [], i => by simp [Lib.idxFromS]
 | x :: r, i => by
   unfold Lib.idxFromS
   split
   ·rename_i h
    exact ⟨fun _ => ⟨x, List.mem_cons_self, by simpa using h⟩, fun _ => by omega⟩
   ·rename_i h
    rw [idxFrom_in w r (i + 1)]
    constructor
    ·rintro ⟨y, hy, e⟩
     exact ⟨y, List.mem_cons_of_mem _ hy, e⟩
    ·rintro ⟨y, hy, e⟩
     rcases List.mem_cons.1 hy with h1 | h1
     ·subst h1; exact absurd (by simpa using e) h
     ·exact ⟨y, h1, e⟩
theorem containsS_nil {W : List ByteArray} : Lib.containsS W ⟨#[]⟩ = true ↔ ∃ x ∈ W, x = ⟨#[]⟩ := by
 unfold Lib.containsS
 rw [decide_eq_true_eq]
 exact idxFrom_in _ W 0
theorem contains_row (W : List ByteArray) (g : Nat) (w : World) (h : Blk w g 9 (W.map Value.string).toArray) (hl : W.length ≤ 1000000) :
 Calls Tryz.prog 136 #[.slice (some ⟨g, 0, none⟩) W.length W.length, .string ⟨#[]⟩] w fun e w' => e = .returned (.bool (Lib.containsS W ⟨#[]⟩)) ∧ w' = w := by
 have := Tryz.slices_Contains_string g 0 W.length W.length W ⟨#[]⟩ w (Nat.le_refl _) (by omega) (fun j hj => by
  rw [Nat.zero_add]
  obtain ⟨x, hx⟩ := getD_some (rfl : W.length = W.length) hj
  rw [cell_of_row h hx, List.getD_eq_getElem?_getD, hx]; rfl)
 rwa [List.take_length] at this
end Go.Proofs.YtehboinleolihaaGreatDoor
