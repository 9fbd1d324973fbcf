/- People on a stage by their sections: the document's walk. Conditions: people, the stage and the order are right. -/
import Derived.Test.YtfcoeikekbjgpaaGreatDoorRxJ46
set_option linter.unusedSimpArgs false
set_option linter.unusedVariables false
namespace Go.Proofs.YtfcoeikekbjgpaaGreatDoor
open Go Go.RowKit

theorem ne_of_typ {a : Option Nat} {g : Nat} (h : a = none ∨ a ≠ some g) : a ≠ some g := by
  rcases h with rfl | h
  · intro e; cases e
  · exact h
theorem nextG_le {G : List (List PersonV)} {T : List Int} {i : Nat} {g : List PersonV} (h : (nextG G T)[i]? = some g) : ∃ g0, G[i]? = some g0 ∧ g.length ≤ g0.length := by
  have hi := (List.getElem?_eq_some_iff.1 h).1
  rw [nextG_len] at hi
  have hg : G[i]? = some G[i] := List.getElem?_eq_getElem hi
  unfold nextG at h
  rw [List.getElem?_map, List.getElem?_range hi, Option.map_some] at h
  simp only [List.getD_eq_getElem?_getD, hg, Option.getD_some] at h
  refine ⟨G[i], hg, ?_⟩
  have e := Option.some.inj h
  rw [← e, List.length_drop]
  exact Nat.sub_le _ _
theorem secG_le {wide : List Int} {n : Nat} {A : List Int} {G0 : List (List PersonV)} : ∀ (r i : Nat) (g : List PersonV), (secG wide n A G0 r)[i]? = some g → ∃ g0, G0[i]? = some g0 ∧ g.length ≤ g0.length
  | 0, i, g, h => ⟨g, h, Nat.le_refl _⟩
  | r + 1, i, g, h => by
    rw [secG_succ] at h
    obtain ⟨g1, h1, l1⟩ := nextG_le h
    obtain ⟨g0, h0, l0⟩ := secG_le r i g1 h1
    exact ⟨g0, h0, by omega⟩
theorem lens_le {wide : List Int} {n : Nat} {A : List Int} {G0 : List (List PersonV)} (hA : lensL G0 = A) (h0 : ∀ a ∈ A, 0 ≤ a) (r : Nat) : ∀ a ∈ lensL (secG wide n A G0 r), a ≤ A.sum := fun a ha => by
  obtain ⟨g, hg, rfl⟩ := List.mem_map.1 ha
  obtain ⟨i, hi, e⟩ := List.getElem_of_mem hg
  obtain ⟨g0, h1, h2⟩ := secG_le r i g (by rw [List.getElem?_eq_getElem hi, e])
  have := (mem_le_sum h0 (x := (g0.length : Int)) (by rw [← hA]; exact List.mem_map.2 ⟨g0, List.mem_of_getElem? h1, rfl⟩)).1
  omega
theorem SecN.row {w7 w : World} {b0 og cg gl cl n : Nat} {G : List (List PersonV)} {vs : List Value} (h : SecN w7 w b0 og cg gl cl n G vs) {b k m : Nat} {e : TypeId} {v : Value} {xs : List Value} (ho : w.ownsRow b e k v m xs) (h1 : e ≠ 26) (h2 : e ≠ 3) (i : Nat) (x y : Value) : ((w.setCell ⟨og, i, none⟩ x).setCell ⟨gl, i, none⟩ y).ownsRow b e k v m xs :=
  (ho.kept (grown_set w ⟨og, i, none⟩ x) (own_typ ho h.own h1)).kept (grown_set _ ⟨gl, i, none⟩ y) (own_typ ho h.lef h2)

section
variable {w : World} {pp : Option Addr} {pc : Nat} {P : List PersonV} {wp : Option Addr} {wcap : Nat} {wide : List Int} {hp : Option Addr} {hc : Nat} {high : List Int} {op : Option Addr} {oc : Nat} {O : List ByteArray}
set_option maxRecDepth 100000 in
set_option maxHeartbeats 12800000 in
theorem bySectionOf_any (h : PsM w pp pc P wp wcap wide hp hc high none 0 []) (hO : Slc 1 strC w op O.length oc O) (ho : ostF P wide high = 0) (hof : orderF O = 0) (hP : P.length ≤ 19) (hO19 : O.length ≤ 19) (hcov : ∀ x ∈ P, x.sect ∈ O) :
    Calls Tryz.prog 20 #[.slice pp P.length pc, .agg #[.slice wp wide.length wcap, .slice hp high.length hc], .slice op O.length oc] w fun e w' => ∃ (q : Option Addr) (c : Nat) (M : List PersonV), e = .returned (.slice q (bsL wide M.length (lensL (grpsL O M)) (grpsL O M) wide.length).length c) ∧ ByH P M ∧ Slc 3 staC w' q (bsL wide M.length (lensL (grpsL O M)) (grpsL O M) wide.length).length c (bsL wide M.length (lensL (grpsL O M)) (grpsL O M) wide.length) ∧ Ext w w' := by
  have hE0 : Ext w (w.alloc (.cells #[.slice wp wide.length wcap, .slice hp high.length hc] 29)) := (Ext.refl _).alloc _
  have hB0 : Blk (w.alloc (.cells #[.slice wp wide.length wcap, .slice hp high.length hc] 29)) w.heap.size 29 #[.slice wp wide.length wcap, .slice hp high.length hc] := Blk.new' rfl
  obtain ⟨hpo, hwo⟩ : PeopleOk P ∧ WideOk wide := by
    have e := ho
    unfold ostF at e
    by_cases hp0 : peopleF P = 0
    · rw [if_pos hp0] at e; exact ⟨peopleF_ok hp0, (stageF_ok e).1⟩
    · rw [if_neg hp0] at e; exact absurd e hp0
  obtain ⟨-, hOn⟩ := orderF_ok hof
  obtain ⟨M, hM⟩ : ∃ M, ByH P M := ⟨_, stable_of hpo⟩
  have hML : M.length = P.length := hM.1.length_eq
  have hfs := fun u (hu : Ext w u) => fromShortO_any pp pc P u (h.per.ext hu) hP hpo
  have hw10 := hwo.1
  have hwid := h.wid
  have hMc : ∀ x ∈ M, x.sect ∈ O := fun x hx => hcov x (hM.1.subset hx)
  have hOne : P.length ≠ 0 → 0 < O.length := fun h0 => by
    obtain ⟨x, hx⟩ := getD_some (rfl : P.length = P.length) (show 0 < P.length by omega)
    have := hcov x (List.mem_of_getElem? hx)
    cases hOc : O with
    | nil => rw [hOc] at this; cases this
    | cons a l => simp
  have hwl : w.heap.size < (w.alloc (.cells #[.slice wp wide.length wcap, .slice hp high.length hc] 29)).heap.size := by simp
  have hwb : ∀ a, wp = some a → a.block < w.heap.size := fun a ha => by obtain ⟨b, off, rfl, hb⟩ := hwid.2.2.2 a ha; exact hb
  replace hfs := Lib.hid hfs
  replace hwo := Lib.hid hwo
  replace hOn := Lib.hid hOn
  replace hMc := Lib.hid hMc
  replace hM := Lib.hid hM
  replace hOne := Lib.hid hOne
  replace hwb := Lib.hid hwb
  clear ho hof h hpo hcov
  go_enter Tryz.func20, Tryz.ntmps20
  go_wp2
  change Code.wp _ _ _ _ (w.alloc (.cells #[.slice wp wide.length wcap, .slice hp high.length hc] 29))
  generalize w.alloc (.cells #[.slice wp wide.length wcap, .slice hp high.length hc] 29) = W at *
  obtain ⟨g0, hg0⟩ : ∃ g0, g0 = w.heap.size := ⟨_, rfl⟩
  rw [← hg0] at hB0
  rw [← hg0]
  have hg0W : g0 < W.heap.size := by omega
  clear hg0
  have hOW := hO.ext hE0
  go_loopw [7, 8, 9, 23] (fun v7 v8 v9 v23 wr => ∃ (k : Nat) (vs : List Value), v23 = .int .i64 k ∧ k ≤ O.length ∧ Tri wr W.heap.size v7 (lensL (grpsL (O.take k) M)) v8 (lensL (grpsL (O.take k) M)) v9 vs (grpsL (O.take k) M) ∧ Ext W wr) (fun _ _ _ v23 _ => O.length - (intOf v23).toNat)
  case atStart => exact ⟨0, [], rfl, Nat.zero_le _, ⟨World.ownsRow_nil _ _ _ _, World.ownsRow_nil _ _ _ _, World.ownsRow_nil _ _ _ _, rfl, (fun i g hg => by simp [grpsL] at hg), .inl rfl⟩, Ext.refl _⟩
  case round =>
    obtain ⟨k, vs, rfl, hk, hT, hX⟩ := hrel
    have hszr := hX.size
    by_cases hlt : k < O.length
    · obtain ⟨nm, hx⟩ := getD_some (rfl : O.length = O.length) hlt
      have hkI : (k : Int) < O.length := by omega
      have hgs := grps_take_snoc (M := M) hx
      have hll : (grpsL (O.take k) M).length = k := by rw [grpsL_len, List.length_take]; omega
      rw [← lensL_len (grpsL (O.take k) M)] at hll
      generalize grpsL (O.take k) M = Gk at *
      obtain ⟨p7, c7, rfl, -⟩ := slc_of_own intC_len hT.o7 (by decide) (by omega)
      obtain ⟨p8, c8, rfl, -⟩ := slc_of_own intC_len hT.o8 (by decide) (by omega)
      rcases (slcC hOW).2 with ⟨-, e⟩ | ⟨b, off, rfl, hb, hEl⟩
      · rw [e] at hx; cases hx
      have c0 := (hEl.ext hX hb).str hx
      have lb := Nat.lt_of_lt_of_le hb hX.size
      have hE1 : Ext wr (wr.alloc (.cells #[.string nm] 9)) := (Ext.refl _).alloc _
      have hB1 : Blk (wr.alloc (.cells #[.string nm] 9)) wr.heap.size 9 #[.string nm] := Blk.new' rfl
      have hX1 := hX.trans hE1
      have hgl : (grpS nm M).length ≤ 19 := by unfold grpS; exact Nat.le_trans (List.length_filter_le _ _) (by omega)
      have hvl : vs.length ≤ 1000 := by have h1 := hT.len; have h2 := lensL_len Gk; omega
      have hls := lens_snoc Gk (grpS nm M)
      have hlk : (lensL Gk).length ≤ 1000 := by omega
      replace hT := Lib.hid hT
      replace hgs := Lib.hid hgs
      replace hls := Lib.hid hls
      replace hML := Lib.hid hML
      replace hll := Lib.hid hll
      clear hx hEl
      go_wp2_with (first
        | (go_at_call 48; (with_reducible refine Calls.mono (hfs.out _ (hE0.trans hX1)) ?_); rintro e w2 ⟨q, d, M', rfl, hM', ho2, hb2⟩; have heq := byH_uniq hM.out hM'; subst heq; clear hM'; replace ho2 := Lib.hid ho2)
        | (go_at_call 50; (with_reducible refine Calls.mono (deleteO_any hML.out ho2.out (by omega) (hB1.ext hb2)) ?_); rintro e w3 ⟨rfl, ho3, hx3⟩; have hE3 := hE1.trans (hx3 _ hb2 (Nat.le_refl _)); have hX3 := hX.trans hE3; have z3 := hX3.size; have hT3 := (hT.out.more hE3).more ((Ext.refl w3).alloc (.cells #[.slice q (grpS nm M).length d] 26)); have hu3 := own_ext ((Ext.refl w3).alloc (.cells #[.slice q (grpS nm M).length d] 26)) (own_low ho3 (show W.heap.size ≤ _ by have := hX1.size; exact this)); clear hx3 ho3 ho2; replace hT3 := Lib.hid hT3; replace hu3 := Lib.hid hu3)
        | (at_builtin; go_loud (refine wp_app1 _ (.tmp 31) (.tmp 33) 72 26 1 24 _ rfl rfl Tryz.underlying72 cellPpl rfl (by decide) (by decide) W.heap.size _ vs.length vs rfl hT3.out.o9 w3.heap.size [.slice q (grpS nm M).length d] rfl rfl (Blk.new' rfl) (by simp [Value.oneCell']) (by omega) (by simp; omega) ?_; intro v9' w4 ho9' hg4 _; have E4 := (hX3.alloc _).grown hg4 (fun q e => (hT3.out.o9.lt q e).1); have hT4 := (hT3.out.app9 ho9' hg4 hu3.out).more ((Ext.refl w4).alloc (.cells #[.int .i64 (grpS nm M).length] 3)); have z4 := E4.size; clear hT3 hu3 ho9' hg4; replace hT4 := Lib.hid hT4))
        | (at_builtin; go_loud (refine wp_appL _ (.tmp 35) (.tmp 38) 22 3 1 8 _ rfl rfl Tryz.underlying22 intInfoT rfl (by decide) (by decide) W.heap.size p7 (lensL Gk).length c7 _ rfl hT4.out.o7 w4.heap.size (intC ((grpS nm M).length : Int)) rfl rfl (Blk.new' rfl) (by simp [intC, Value.oneCell']) (by omega) (by simp; omega) ?_; intro b7 d7 w5 ho7' hg5 hb7; have E5 := (E4.alloc _).grown hg5 (fun q e => (hT4.out.o7.lt q e).1); have hT5 := (hT4.out.app7 ho7' hg5 hb7).more ((Ext.refl w5).alloc (.cells #[.int .i64 (grpS nm M).length] 3)); have z5 := E5.size; clear hT4 ho7' hg5 hb7; replace hT5 := Lib.hid hT5))
        | (at_builtin; go_loud (refine wp_appL _ (.tmp 40) (.tmp 43) 22 3 1 8 _ rfl rfl Tryz.underlying22 intInfoT rfl (by decide) (by decide) W.heap.size p8 (lensL Gk).length c8 _ rfl hT5.out.o8 w5.heap.size (intC ((grpS nm M).length : Int)) rfl rfl (Blk.new' rfl) (by simp [intC, Value.oneCell']) (by omega) (by simp; omega) ?_; intro b8 d8 w6 ho8' hg6 hb8; have E6 := (E5.alloc _).grown hg6 (fun q e => (hT5.out.o8.lt q e).1); have hT6 := hT5.out.app8 ho8' hg6 hb8; clear hT5 ho8' hg6 hb8; replace hT6 := Lib.hid hT6)))
      go_roundw
      case rel => exact ⟨k + 1, _, by go_num, by omega, by rw [hgs.out, hls.out]; exact hT6.out, E6⟩
      case measure => simp [intOf]; omega
    · obtain rfl : k = O.length := by omega
      rw [List.take_length] at hT
      have hGl := grpsL_len O M
      have hsum := grps_sum hOn.out hMc.out M.length (Nat.le_refl _)
      rw [List.take_length] at hsum
      have hA0 := lensL_nonneg (grpsL O M)
      have hAl := lensL_len (grpsL O M)
      have hEr := hE0.trans hX
      have hBr := hB0.ext hX
      have hWr := hwid.ext hEr
      obtain ⟨s0, -⟩ := hBr.walk
      have sl := hBr.lt
      by_cases hM0 : P.length = 0
      · have hfin : bsL wide M.length (lensL (grpsL O M)) (grpsL O M) wide.length = [] := List.eq_nil_of_length_eq_zero (by have := bsL_bound (wide := wide) (n := M.length) (A := lensL (grpsL O M)) (G0 := grpsL O M) hwo.out (fun h0 => by omega) wide.length; omega)
        replace hfin := Lib.hid hfin
        clear hT hGl hsum hA0 hAl hB0 hOW hwid hO
        generalize wr = W7 at *
        go_wp2
        go_loopw [13, 14, 51] (fun v13 v14 v51 wr => v13 = .slice none 0 0 ∧ v14 = .int .i64 0 ∧ v51 = .int .i64 0 ∧ Ext W7 wr) (fun _ _ _ _ => 0)
        case atStart => exact ⟨rfl, by first | rfl | (rw [hM0]; rfl), rfl, Ext.refl _⟩
        case round =>
          obtain ⟨rfl, rfl, rfl, hE⟩ := hrel
          by_cases hlt : 0 < wide.length
          · obtain ⟨wd, hwd⟩ := getD_some (rfl : wide.length = wide.length) hlt
            obtain ⟨v1, v2⟩ := hwo.out.2 wd (List.mem_of_getElem? hwd)
            have hmn : min wd (0 : Int) = 0 := by omega
            rcases (slcC hWr).2 with ⟨-, e⟩ | ⟨mb, mo, rfl, hmb, hml⟩
            · rw [e] at hwd; cases hwd
            have c22 := (hml.ext hE hmb).int hwd
            rw [Nat.add_zero] at c22
            have lm := Nat.lt_of_lt_of_le hmb hE.size
            have hltI : (0 : Int) < wide.length := by omega
            clear hml hwd
            go_wp2
            go_ret
            exact ⟨none, 0, M, by rw [hfin.out]; rfl, hM.out, by rw [hfin.out]; exact Slc.nil _ _ _, hEr.trans hE⟩
          · have hw0 : wide.length = 0 := by omega
            go_wp2
            go_ret
            exact ⟨none, 0, M, by rw [hfin.out]; rfl, hM.out, by rw [hfin.out]; exact Slc.nil _ _ _, hEr.trans hE⟩
      · have hO0 := hOne.out hM0
        have h7 := hT.o7
        have h8 := hT.o8
        have h9 := hT.o9
        have hdj := hT.dj
        have hgr := hT.grp
        have hvl := hT.len
        rw [hAl, hGl] at h7 h8
        rw [hvl, hGl] at h9
        obtain ⟨g7, c7, rfl, j7, l7⟩ := h7.form hO0
        obtain ⟨gl, c8, rfl, j8, l8⟩ := h8.form hO0
        obtain ⟨og, c9, rfl, j9, l9⟩ := h9.form hO0
        have hn79 : g7 ≠ og := fun e => by
          rcases own_typ h7 h9 (by decide) with h0 | h0
          · cases h0
          · exact h0 (by rw [e]; rfl)
        have hn89 : gl ≠ og := fun e => by
          rcases own_typ h8 h9 (by decide) with h0 | h0
          · cases h0
          · exact h0 (by rw [e]; rfl)
        have hn78 : gl ≠ g7 := fun e => by
          rcases hdj with h0 | h0
          · cases h0
          · exact h0 (by rw [e]; rfl)
        have hSec : SecN wr wr W.heap.size og c9 gl c8 O.length (secG wide P.length (lensL (grpsL O M)) (grpsL O M) 0) vs := ⟨hGl, h9, h8, fun e => hn89 e.symm, fun i g hg => by
          obtain ⟨v, hv, hown⟩ := hgr i g hg
          have hgl : g.length ≤ M.length := by
            obtain ⟨nm, -, rfl⟩ := List.mem_map.1 (List.mem_of_getElem? hg)
            exact List.length_filter_le _ _
          obtain ⟨p, c, rfl, hS⟩ := slc_of_own perC_len hown (by decide) (by omega)
          refine ⟨p, c, hv, hS, fun a ha => ?_⟩
          subst ha
          constructor
          · intro e
            rcases own_typ hown h9 (by decide) with h0 | h0
            · cases h0
            · exact h0 (by rw [← e]; rfl)
          · intro e
            rcases own_typ hown h8 (by decide) with h0 | h0
            · cases h0
            · exact h0 (by rw [← e]; rfl), ExtQ.refl _ _ _⟩
        obtain ⟨p', c', e9, hSl7⟩ := slc_of_own intC_len h7 (by decide) (by omega)
        cases e9
        have hWs := hX.size
        clear hT h7 h8 h9 hdj hgr hvl hB0 hOW
        generalize hG0e : grpsL O M = G0 at *
        generalize hAe : lensL G0 = A at *
        have hfin : bsL wide M.length (lensL (grpsL O M)) (grpsL O M) wide.length = bsL wide P.length A G0 wide.length := by rw [hG0e, hAe, hML]
        have hAO : A.length = O.length := by omega
        have hG0 : G0.length = O.length := hGl
        have hsO : A.sum = P.length := by omega
        have hsec : P.length ≠ 0 → SecOk A G0 := fun h0 => ⟨hA0, by omega, by omega⟩
        have hbd := fun (r : Nat) => bsL_bound (wide := wide) (n := P.length) (A := A) (G0 := G0) hwo.out hsec r
        have hsk := hsec hM0
        replace hAO := Lib.hid hAO
        replace hG0 := Lib.hid hG0
        replace hsO := Lib.hid hsO
        replace hsec := Lib.hid hsec
        replace hbd := Lib.hid hbd
        replace hfin := Lib.hid hfin
        replace hsk := Lib.hid hsk
        replace hSl7 := Lib.hid hSl7
        replace hA0 := Lib.hid hA0
        replace hAe := Lib.hid hAe
        have hlft0 : leftN wide P.length 0 = P.length := rfl
        clear hG0e hGl hAl hsum hOn hMc hO hX
        generalize wr = W7 at *
        go_wp2
        go_loopw [13, 14, 51] (fun v13 v14 v51 wr => ∃ (r : Nat) (vs : List Value), v51 = .int .i64 r ∧ r ≤ wide.length ∧ v14 = .int .i64 (leftN wide P.length r) ∧ SecN W7 wr W.heap.size og c9 gl c8 O.length (secG wide P.length A G0 r) vs ∧ wr.ownsRow W7.heap.size 48 3 v13 (bsL wide P.length A G0 r).length ((bsL wide P.length A G0 r).flatMap staC)) (fun _ _ v51 _ => wide.length - (intOf v51).toNat)
        case atStart => exact ⟨0, vs, rfl, Nat.zero_le _, rfl, hSec, World.ownsRow_nil _ _ _ _⟩
        case round =>
          clear hSec s0 sl
          obtain ⟨r, vs, rfl, hr, rfl, hM7, hown⟩ := hrel
          have hszr := hM7.ext.2.2.2.1
          have hBx := hBr.extQ (show g0 ≠ og by omega) (show g0 ≠ gl by omega) hM7.ext
          have hEx := ExtQ.back hEr (by omega) (by omega) hM7.ext
          by_cases hlt : r < wide.length
          · have hrI : (r : Int) < wide.length := by omega
            obtain ⟨wd, hwd⟩ := getD_some (rfl : wide.length = wide.length) hlt
            obtain ⟨v1, v2⟩ := hwo.out.2 wd (List.mem_of_getElem? hwd)
            have hmn : min wd (leftN wide P.length r : Int) = (takeN wide P.length r : Int) := by
              unfold takeN
              rw [show wide.getD r 0 = wd by rw [List.getD_eq_getElem?_getD, hwd]; rfl]
              omega
            have hWx := hwid.ext hEx
            rcases (slcC hwid).2 with ⟨-, e⟩ | ⟨mb, mo, rfl, hmb, hml⟩
            · rw [e] at hwd; cases hwd
            have c22 := (hml.ext hEx hmb).int hwd
            have lm := Nat.lt_of_lt_of_le hmb hEx.size
            have htM := takeN_le wide P.length r
            have htM2 := leftN_le wide P.length r
            clear hml hwd
            by_cases h0 : takeN wide P.length r = 0
            · have hend := bsL_end (A := A) (G0 := G0) hwo.out hlt h0
              rw [h0] at hmn
              rw [← hend] at hown
              have hb9 := hbd.out wide.length
              obtain ⟨p, c, rfl, hSo⟩ := slc_of_own staC_len hown (by decide) (by omega)
              replace hSo := Lib.hid hSo
              clear hown hend h0
              go_wp2
              go_ret
              exact ⟨p, c, M, (by rw [hfin.out]; rfl), hM.out, by rw [hfin.out]; exact hSo.out, hEx⟩
            · have hsh := hsk.out.sh (wide := wide) (n := P.length) r
              have hT : secT wide P.length A G0 r = shrL (takeN wide P.length r) A (lensL (secG wide P.length A G0 r)) := by unfold secT; rw [if_neg h0]
              have hLl : (lensL (secG wide P.length A G0 r)).length = O.length := by rw [lensL_len]; exact hM7.len
              obtain ⟨q9, d9, e9, hSl8⟩ := slc_of_own intC_len hM7.lef (by decide) (by omega)
              cases e9
              have hle := lens_le (wide := wide) (n := P.length) hAe.out hA0.out r
              have hrs := rShares_any (n := takeN wide P.length r) (A := A) (Lf := lensL (secG wide P.length A G0 r)) (sp := some ⟨g7, 0, none⟩) (sc := c7) (lp := some ⟨gl, 0, none⟩) (lc := c8) (w := wr) (by rw [hAO.out]; exact hSl7.out.extQ hM7.ext (fun a ha => by cases ha; exact ⟨hn79, fun e => hn78 e.symm⟩)) (by omega) (by rw [hAO.out]; exact hO19) hA0.out hsk.out.s0 (by rw [hsO.out]; omega) (by rw [hLl]; exact hSl8) (by rw [hLl, hAO.out]) (lensL_nonneg _) (fun a ha => by have := hle a ha; rw [hsO.out] at this; omega)
              rw [hAO.out, hLl] at hrs
              have hql := hsk.out.q_len (wide := wide) (n := P.length) r
              have hbs := bsL_succ wide P.length A G0 r
              have hgs := secG_succ wide P.length A G0 r
              have hQe : secQ wide P.length A G0 r = headG (secG wide P.length A G0 r) (secT wide P.length A G0 r) G0.length := rfl
              have htw := takeN_wide wide P.length r
              have hls := leftN_succ wide P.length r
              obtain ⟨s1, s2, s3⟩ := hsh.sh
              rw [hT] at hgs hQe
              have hGl := hM7.len
              have hhl : ∀ q, q ≤ O.length → (headG (secG wide P.length A G0 r) (shrL (takeN wide P.length r) A (lensL (secG wide P.length A G0 r))) q).length ≤ 19 := fun q hq => by
                have h1 := headG_len (G := secG wide P.length A G0 r) (T := shrL (takeN wide P.length r) A (lensL (secG wide P.length A G0 r))) (by rw [s1, hAO.out, hGl]) s3 q (by rw [hGl]; exact hq)
                have h2 := (take_nonneg (L := shrL (takeN wide P.length r) A (lensL (secG wide P.length A G0 r))) (fun y hy => by
                  obtain ⟨i, hi, e⟩ := List.getElem_of_mem hy
                  exact (s3 i y (by rw [List.getElem?_eq_getElem hi, e])).1) q).2
                omega
              have hsl : (shrL (takeN wide P.length r) A (lensL (secG wide P.length A G0 r))).length = O.length := by rw [s1]; exact hAO.out
              have hbr := hbd.out r
              have hrl := rowP_len wide r (secQ wide P.length A G0 r)
              generalize secQ wide P.length A G0 r = Q at *
              generalize shrL (takeN wide P.length r) A (lensL (secG wide P.length A G0 r)) = SH at *
              generalize secG wide P.length A G0 r = G at *
              generalize hGe : secG wide P.length A G0 (r + 1) = G' at *
              generalize takeN wide P.length r = tk at *
              have hne : ¬ (tk : Int) = 0 := by omega
              have htl : (tk : Int) ≤ leftN wide P.length r := by omega
              rw [hG0.out] at hQe
              replace hGe := Lib.hid hGe
              replace hrs := Lib.hid hrs
              replace hbs := Lib.hid hbs
              replace hgs := Lib.hid hgs
              replace hQe := Lib.hid hQe
              replace hls := Lib.hid hls
              replace hhl := Lib.hid hhl
              replace s3 := Lib.hid s3
              replace hGl := Lib.hid hGl
              replace hsl := Lib.hid hsl
              replace hown := Lib.hid hown
              replace hrl := Lib.hid hrl
              clear hsh hT hSl8 hle s1 s2 hLl h0
              go_wp2_with (go_at_call 52; (with_reducible refine Calls.mono hrs.out ?_); rintro e w10 ⟨gT, rfl, hgT, hBT, hb10⟩)
              have hM10 := hM7.more hb10
              have hown10 := own_ext hb10 hown.out
              have hB10 := hBx.ext hb10
              have hW10 := hWx.ext hb10
              have hE10 := hEx.trans hb10
              have hsz10 := hb10.size
              have hgTo : gT ≠ og ∧ gT ≠ gl := by omega
              have hsz7 : W7.heap.size ≤ w10.heap.size := by omega
              have hno1 := ne_of_typ (own_typ hown10 hM10.own (by decide))
              have hno2 := ne_of_typ (own_typ hown10 hM10.lef (by decide))
              replace hno1 := Lib.hid hno1
              replace hno2 := Lib.hid hno2
              replace hown10 := Lib.hid hown10
              clear hM7 hBx hWx hEx hown hszr hgT hb10 hrs c22 lm
              generalize wr = W9 at *
              go_loopw [18, 69] (fun v18 v69 wr => ∃ (j : Nat) (vs : List Value), v69 = .int .i64 j ∧ j ≤ O.length ∧ wr.ownsRow w10.heap.size 59 3 v18 (headG G SH j).length ((headG G SH j).flatMap perC) ∧ SecN W7 wr W.heap.size og c9 gl c8 O.length ((nextG G SH).take j ++ G.drop j) vs ∧ ExtQ og gl w10 wr) (fun _ v69 _ => O.length - (intOf v69).toNat)
              case atStart => exact ⟨0, vs, rfl, Nat.zero_le _, World.ownsRow_nil _ _ _ _, by simpa using hM10, ExtQ.refl _ _ _⟩
              case round =>
                clear hM10
                obtain ⟨j, vs, rfl, hj, hrow, hM6, hX6⟩ := hrel
                have hsz6 := hX6.2.2.2.1
                by_cases hlt6 : j < O.length
                · obtain ⟨g, hg⟩ := getD_some hGl.out hlt6
                  obtain ⟨sv, hsv⟩ := getD_some hsl.out hlt6
                  obtain ⟨sv0, y, hy, hsy⟩ := s3.out j sv hsv
                  rw [lensL_at hg] at hy
                  cases hy
                  obtain ⟨tn, rfl⟩ : ∃ tn : Nat, sv = tn := ⟨sv.toNat, by omega⟩
                  have hatj := mid_at (ys := nextG G SH) (by rw [nextG_len]) hg
                  obtain ⟨p, cc, hv, hSg, hgo⟩ := hM6.at_ j g hatj
                  have hjI : (j : Int) < O.length := by omega
                  have hgll : g.length ≤ 1000000000 := hSg.1.2.1
                  have hgcc := hSg.2.1
                  have htg : tn ≤ g.length := by omega
                  have cog := hM6.cell hv
                  have lo := (hM6.own.lt og rfl).2
                  have hBTx := hBT.extQ hgTo.1 hgTo.2 hX6
                  have cT := rowI_cell hBTx hsv
                  have lT := hBTx.lt
                  have hhs := headG_succ hg hsv
                  have hnx := nextG_at hg hsv
                  rw [Int.toNat_natCast] at hhs hnx
                  have hset2 := set_take_drop (xs := G) (by rw [nextG_len]) hnx
                  have hhj := hhl.out j hj
                  have hSt : Slc 3 perC wr p tn cc (g.take tn) := (hSg.extQ hM6.ext hgo).takeZ htg
                  obtain ⟨p', hSd, hpo, hcut⟩ := hSg.cut htg
                  have htcI : (tn : Int) ≤ cc := by omega
                  have htgI : (tn : Int) ≤ g.length := by omega
                  have hdl : (g.drop tn).length = g.length - tn := List.length_drop
                  have hlt9 : (g.take tn).length = tn := by rw [List.length_take]; omega
                  have hhl9 : (headG G SH (j + 1)).length = (headG G SH j).length + tn := by rw [hhs, List.length_append, hlt9]
                  have hsum9 : (headG G SH j).length + tn ≤ 19 := by have := hhl.out (j + 1) (by omega); rw [hhl9] at this; exact this
                  have hcs : ((g.length - tn : Nat) : Int) = (g.length : Int) - tn := by omega
                  replace hSd := Lib.hid hSd
                  replace hpo := Lib.hid hpo
                  replace hset2 := Lib.hid hset2
                  replace hhs := Lib.hid hhs
                  replace hdl := Lib.hid hdl
                  replace hrow := Lib.hid hrow
                  replace hhl9 := Lib.hid hhl9
                  replace hcs := Lib.hid hcs
                  replace hv := Lib.hid hv
                  replace hatj := Lib.hid hatj
                  replace hgo := Lib.hid hgo
                  clear hnx hsv hg hSg hlt9 hBTx
                  go_upto_region 23 with (at_builtin; go_loud (refine wp_appS _ (.tmp 74) (.tmp 80) 26 59 3 40 _ rfl rfl Tryz.underlying26 perInfo rfl (by decide) (by decide) perC perC_len per_one w10.heap.size _ _ _ rfl hrow.out p tn cc (g.take tn) rfl hSt (by omega) (by omega) ?_; intro v' wa hrowa hgrowa))
                  have hMa := hM6.grown hgrowa (fun q e => by have := (hrow.out.lt q e).1; omega)
                  have hXa := hX6.grown hgrowa (fun q e => (hrow.out.lt q e).1)
                  have cogA := hMa.cell hv.out
                  have colA := hMa.lcell hatj.out
                  have floA : ∀ o, wa.frozen? ⟨og, o, none⟩ = false := fun o => hMa.own.frozenAt o
                  have fllA : ∀ o, wa.frozen? ⟨gl, o, none⟩ = false := fun o => hMa.lef.frozenAt o
                  have loA := (hMa.own.lt og rfl).2
                  have llA := (hMa.lef.lt gl rfl).2
                  have hrowb : wa.ownsRow w10.heap.size 59 3 v' (headG G SH (j + 1)).length ((headG G SH (j + 1)).flatMap perC) := by
                    rw [hhl9.out, hhs.out, List.flatMap_append]
                    exact hrowa
                  have hput := fun (c' : Nat) (hS : Slc 3 perC W7 p' (g.length - tn) c' (g.drop tn)) => hMa.put (p' := p') (c' := c') (g' := g.drop tn) hatj.out (by rw [hdl.out]; exact hS) (fun a ha => by obtain ⟨a0, h1, h2⟩ := hpo.out a ha; rw [h2]; exact hgo.out a0 h1)
                  rw [hset2.out, hdl.out, hcs.out] at hput
                  have hrr := fun (x y : Value) => hMa.row hrowb (by decide) (by decide) j x y
                  replace hput := Lib.hid hput
                  replace hrr := Lib.hid hrr
                  have hog := hMa.ne
                  clear hM6 hX6 hrow hrowa hgrowa hSt cog lo cT lT hMa hrowb
                  have hcut2 : (p = none ∧ p' = none) ∨ ∃ b off, p = some ⟨b, off, none⟩ ∧ (cc ≤ tn ∧ p' = p ∨ tn < cc ∧ p' = some ⟨b, off + tn * 3, none⟩) := hcut.imp (fun h => ⟨h.1, h.2.1⟩) fun ⟨b, off, h1, h2⟩ => ⟨b, off, h1, h2.imp (fun h => ⟨Nat.le_of_eq h.1.symm, h.2⟩) fun h => h⟩
                  clear hcut
                  rcases hcut2 with ⟨rfl, e9⟩ | ⟨b, off, rfl, ⟨hc9, e9⟩ | ⟨hc9, e9⟩⟩
                  all_goals subst e9
                  · go_wp2
                    go_roundw
                    case rel => exact ⟨j + 1, _, by go_num, by omega, hrr.out _ _, hput.out _ hSd.out, (hXa.set (p := ⟨og, j, none⟩) (.inl rfl) _).set (p := ⟨gl, j, none⟩) (.inr rfl) _⟩
                    case measure => simp [intOf]; omega
                  · have hc0 : cc - tn = 0 := by omega
                    rw [hc0] at hSd
                    go_wp2
                    go_roundw
                    case rel => exact ⟨j + 1, _, by go_num, by omega, hrr.out _ _, hput.out _ hSd.out, (hXa.set (p := ⟨og, j, none⟩) (.inl rfl) _).set (p := ⟨gl, j, none⟩) (.inr rfl) _⟩
                    case measure => simp [intOf]; omega
                  · go_wp2
                    go_roundw
                    case rel => exact ⟨j + 1, _, by go_num, by omega, hrr.out _ _, hput.out _ hSd.out, (hXa.set (p := ⟨og, j, none⟩) (.inl rfl) _).set (p := ⟨gl, j, none⟩) (.inr rfl) _⟩
                    case measure => simp [intOf]; omega
                · obtain rfl : j = O.length := by omega
                  have e3 : (nextG G SH).take O.length ++ G.drop O.length = nextG G SH := by
                    rw [List.take_of_length_le (by rw [nextG_len, hGl.out]; exact Nat.le_refl _), List.drop_eq_nil_of_le (by rw [hGl.out]; exact Nat.le_refl _), List.append_nil]
                  rw [e3, ← hgs.out] at hM6
                  rw [← hQe.out] at hrow
                  obtain ⟨pq, cq, rfl, hSq⟩ := slc_of_own perC_len hrow (by decide) (by omega)
                  have hBw := hB10.extQ (show g0 ≠ og by omega) (show g0 ≠ gl by omega) hX6
                  have hEw := ExtQ.back hE10 (by omega) (by omega) hX6
                  have hWw := hwid.ext hEw
                  have hownw := own_extQ hX6 hown10.out hno1.out hno2.out
                  have hin := rInRow_any (r := r) (hl := high.length) (hp := hp) (hc := hc) hWw hlt hwo.out hSq (by omega)
                  generalize rowP wide r Q = RP at *
                  obtain ⟨s0, -⟩ := hBw.walk
                  have sl := hBw.lt
                  have hszw := hM6.ext.2.2.2.1
                  replace hin := Lib.hid hin
                  replace hownw := Lib.hid hownw
                  clear hrow hX6 hSq hWw hB10 hW10 hE10 e3 hBw hown10
                  go_wp2_with (first
                    | (go_at_call 49; (with_reducible refine Calls.mono hin.out ?_); rintro e wi ⟨pi, ci, rfl, hSi, hbi⟩; have owi := own_ext hbi hownw.out; have hszi := hbi.size)
                    | (at_builtin; go_loud (refine wp_appS _ (.tmp 99) (.tmp 103) 40 48 3 32 _ rfl rfl Tryz.underlying40 staInfo rfl (by decide) (by decide) staC staC_len sta_one W7.heap.size _ _ _ rfl owi pi Q.length ci RP rfl hSi (by omega) (by omega) ?_; intro v' wf hownf hgrowf)))
                  go_roundw
                  case rel => exact ⟨r + 1, vs, by go_num, by omega, by rw [hls.out]; congr 1; omega, by rw [hGe.out]; exact (hM6.more hbi).grown hgrowf (fun q e => by have := (owi.lt q e).1; omega), by rw [hbs.out, List.length_append, hrl.out, List.flatMap_append]; exact hownf⟩
                  case measure => simp [intOf]; omega
          · obtain rfl : r = wide.length := by omega
            have hb9 := hbd.out wide.length
            obtain ⟨p, c, rfl, hSo⟩ := slc_of_own staC_len hown (by decide) (by omega)
            replace hSo := Lib.hid hSo
            clear hown
            go_wp2
            go_ret
            exact ⟨p, c, M, (by rw [hfin.out]; rfl), hM.out, by rw [hfin.out]; exact hSo.out, hEx⟩
end
end Go.Proofs.YtfcoeikekbjgpaaGreatDoor
