/- Who is unsure, by the program: where nothing can be said, and the start where there are divisions. Conditions: sizes. -/
import Derived.Test.YtcdjkgfdhngmeaaGreatDoorSdJ39
import Derived.Test.YtcdjkgfdhngmeaaGreatDoorSdJ32
set_option linter.unusedSimpArgs false
set_option linter.unusedVariables false
namespace Go.Proofs.YtcdjkgfdhngmeaaGreatDoor
open Go Go.RowKit Go.Maps

section
variable {w : World} {vp pp : Option Addr} {vc pc : Nat} {V : List VoiceV} {P : List PartV}
set_option maxRecDepth 100000 in
set_option maxHeartbeats 1600000 in
theorem unsure_bad (h : VpM w vp vc V pp pc P) (t : Int) (hz : errV V P t ≠ 0) :
    Calls Tryz.prog 12 #[.slice vp V.length vc, .slice pp P.length pc, .int .i64 t] w fun e w' => e = .returned (.tuple #[.slice none 0 0, .bool false, .int .i64 (errV V P t)]) ∧ Ext w w' := by
  have hd := dividerOf_err h t hz
  generalize errV V P t = f at *
  replace hd := Lib.hid hd
  clear h
  go_enter Tryz.func12, Tryz.ntmps12
  go_wp2_with (go_at_call 34; (with_reducible refine Calls.mono hd.out ?_); rintro e w1 ⟨rfl, hb1⟩)
  go_ret3
  exact ⟨rfl, hb1⟩
set_option maxRecDepth 100000 in
set_option maxHeartbeats 1600000 in
theorem unsure_none (h : VpM w vp vc V pp pc P) (t : Int) (hz : errV V P t = 0) (hf : fromF P (comL V t P) [0, 0, 0, 0] = -1) :
    Calls Tryz.prog 12 #[.slice vp V.length vc, .slice pp P.length pc, .int .i64 t] w fun e w' => e = .returned (.tuple #[.slice none 0 0, .bool false, .int .i64 0]) ∧ Ext w w' := by
  obtain ⟨h1, h2, h3⟩ := errV_zero hz
  have hd := dividerOf_good h t h1 h2 h3
  have hCb := comL_bound h.sV h.sP t
  rw [← comL_len V t P] at h2
  generalize comL V t P = C at *
  replace hd := Lib.hid hd
  replace hCb := Lib.hid hCb
  clear h h1 hz
  go_enter Tryz.func12, Tryz.ntmps12
  go_upto_region 4 with (go_at_call 34; (with_reducible refine Calls.mono hd.out ?_); rintro e w1 ⟨w0, cb, db, sp, sc, cp, cc, bp, bc, gs, rfl, hE0, hC, hSn, hD⟩)
  have hfr := div_from (i := 0) (a := 0) (b := 0) (c := 0) (d := 0) hC h3 h2 hCb.out hD (Nat.zero_le _) ⟨rfl, by simp⟩
  rw [show ((0 : Nat) : Int) = 0 from rfl, List.drop_zero, hf] at hfr
  replace hfr := Lib.hid hfr
  clear hSn hC hD
  go_wp2_with (go_at_call 35; (with_reducible refine Calls.mono hfr.out ?_); rintro e w2 ⟨rfl, hD2, hK2⟩)
  go_ret3
  exact ⟨rfl, hE0.trans hD2.ext⟩
end
set_option maxRecDepth 100000 in
set_option maxHeartbeats 12800000 in
theorem unsure_some {w : World} {vp pp : Option Addr} {vc pc : Nat} {V : List VoiceV} {P : List PartV} (h : VpM w vp vc V pp pc P) (t : Int) (hz : errV V P t = 0) (hf : fromF P (comL V t P) [0, 0, 0, 0] ≠ -1) :
    Calls Tryz.prog 12 #[.slice vp V.length vc, .slice pp P.length pc, .int .i64 t] w fun e w' =>
      ∃ (q : Option Addr) (d : Nat), e = .returned (.tuple #[.slice q (unsT P (singersL V t) (comL V t P) (comL V t P).length).length d, .bool true, .int .i64 0]) ∧ Slc 1 strC w' q (unsT P (singersL V t) (comL V t P) (comL V t P).length).length d (unsT P (singersL V t) (comL V t P) (comL V t P).length) ∧ Ext w w' := by
  obtain ⟨h1, hCl, hP4⟩ := errV_zero hz
  have hd := dividerOf_good h t h1 hCl hP4
  have hCb := comL_bound h.sV h.sP t
  have hCS := comL_len V t P
  rw [← comL_len V t P] at hCl
  generalize singersL V t = S at *
  generalize comL V t P = C at *
  have hf0 := hf
  have hut := fun (i : Nat) (hi : i < C.length) => uns_two hf hi
  have hnok := fun i N => states_nok (P := P) (C := C) i N
  obtain ⟨best, hbest⟩ : ∃ v, fromF P C [0, 0, 0, 0] = v := ⟨_, rfl⟩
  rw [hbest] at hf
  have hbe : (best == -1) = false := beq_false_of_ne hf
  replace hbest := Lib.hid hbest
  replace hf0 := Lib.hid hf0
  replace hut := Lib.hid hut
  replace hnok := Lib.hid hnok
  replace hd := Lib.hid hd
  replace hCS := Lib.hid hCS
  replace hCb := Lib.hid hCb
  clear h h1 hz
  have hmm := @run_makeMap Tryz.prog
  go_enter Tryz.func12, Tryz.ntmps12
  go_upto_region 4 with (go_at_call 34; (with_reducible refine Calls.mono hd.out ?_); rintro e w1 ⟨w0, cb, db, sp, sc, cp, cc, bp, bc, gs, rfl, hE0, hC, hSn, hD⟩)
  have hfr := div_from (i := 0) (a := 0) (b := 0) (c := 0) (d := 0) hC hP4 hCl hCb.out hD (Nat.zero_le _) ⟨rfl, by simp⟩
  rw [show ((0 : Nat) : Int) = 0 from rfl, List.drop_zero, hbest.out] at hfr
  have hDv := fun (u : World) (i a b c d : Nat) (hu : DivM w0 u cb db bp bc gs P C 0) (hi : i ≤ C.length) (hN : NOk i [a, b, c, d]) => div_from hC hP4 hCl hCb.out hu hi hN
  have hDw := fun (u : World) (i p a b c d : Nat) (hu : DivM w0 u cb db bp bc gs P C 0) (hi : i < C.length) (hp : p < P.length) (hN : NOk i [a, b, c, d]) => div_with hC hP4 hCl hCb.out hu hi hp hN
  replace hfr := Lib.hid hfr
  replace hDv := Lib.hid hDv
  replace hDw := Lib.hid hDw
  replace hC := Lib.hid hC
  replace hSn := Lib.hid hSn
  clear hD hd
  go_upto_region 7 with (go_at_call 35; (with_reducible refine Calls.mono hfr.out ?_); rintro e w2 ⟨rfl, hD2, hK2⟩)
  clear hfr hK2
  have hbel := hD2.below
  obtain ⟨w3, hrun3, hO3, hg3⟩ := (OwnX.made (M := manyB) w2).put (k := [0, 0, 0, 0]) ⟨rfl, by simp⟩ (by omega) true
  have hrun3' : (Instr.mapUpdate 89 (.map (some w2.heap.size)) (.agg #[.int .i64 0, .int .i64 0, .int .i64 0, .int .i64 0]) (.bool true)).run Tryz.prog (w2.alloc (.map #[] 0)) = .ok () w3 := hrun3
  have hD3 := (hD2.more ((Ext.refl _).alloc (.map #[] 0))).aside hg3 hbel (fun j e => by cases e; exact Nat.le_refl _)
  have hst0 : ∀ N, ManOk N → ((updK (fun _ => none) [0, 0, 0, 0] true N : Option Bool).isSome = true ↔ statesP P C [0, 0, 0, 0] 0 N) := fun N _ => by
    unfold updK
    by_cases e : N = [0, 0, 0, 0]
    · rw [if_pos e]; exact ⟨fun _ => e, fun _ => rfl⟩
    · rw [if_neg e]; exact ⟨(fun h => by simp at h), (fun h => absurd h e)⟩
  have hO4 : OwnX manyB w3 w2.heap.size 1 (updK (fun _ => none) [0, 0, 0, 0] true) := hO3
  have hgm0 : w2.heap.size ≤ w2.heap.size := Nat.le_refl _
  have hgmw : w2.heap.size < w3.heap.size := hO4.lt
  replace hO4 := Lib.hid hO4
  replace hrun3' := Lib.hid hrun3'
  clear hO3 hrun3 hg3
  go_upto_region 8 with (refine wpList_insertV rfl _ _ _ 89 rfl (.map (some w2.heap.size)) (.agg #[.int .i64 0, .int .i64 0, .int .i64 0, .int .i64 0]) (.bool true) rfl rfl rfl w3 hrun3'.out ?_)
  have hC3 := hC.out.ext hD3.ext
  obtain ⟨z1, -⟩ := hD3.blk.walk
  obtain ⟨z2, -⟩ := hC3.blk.walk
  generalize hgM : w2.heap.size = B at *
  replace hgM := Lib.hid hgM
  replace hD3 := Lib.hid hD3
  clear hC3 hD2 hrun3'
  go_wp2
  go_loopw [45, 11, 12] (fun v45 v11 v12 wr => ∃ (i gS n : Nat) (f : List Nat → Option Bool) (v : Value), v45 = .int .i64 i ∧ v11 = v ∧ v12 = .map (some gS) ∧ i ≤ C.length ∧ B ≤ gS ∧ n ≤ 4 ^ i ∧ OwnX manyB wr gS n f ∧ (∀ N, ManOk N → ((f N).isSome = true ↔ statesP P C [0, 0, 0, 0] i N)) ∧
      wr.ownsRow B 9 1 v (unsT P S C i).length ((unsT P S C i).flatMap strC) ∧ DivM w0 wr cb db bp bc gs P C 0) (fun v45 _ _ _ => C.length - (intOf v45).toNat)
  case atStart => exact ⟨0, B, 1, _, _, rfl, rfl, rfl, Nat.zero_le _, Nat.le_refl _, Nat.le_refl _, hO4.out, hst0, World.ownsRow_nil _ _ _ _, hD3.out⟩
  case round =>
    clear z1 z2 hst0 hgmw hgm0
    obtain ⟨i, gS, n, f, v, rfl, rfl, rfl, hi, hBS, hn4, hO, hst, hown, hDm⟩ := hrel
    by_cases hlt : i < C.length
    · obtain ⟨s, hs⟩ := getD_some hCS.out.symm hlt
      have hiI : (i : Int) < C.length := by omega
      obtain ⟨-, ⟨_, e9⟩ | ⟨nb, noff, rfl, hnb, hnE⟩⟩ := slcC (hSn.out.ext hDm.ext)
      · rw [e9] at hs; cases hs
      have e1 := hnE.str hs
      have hgSl := hO.lt
      go_upto_region 13 with fail
      have hEx : Ext wr ((wr.alloc (.map #[] 0)).alloc (.map #[] 0)) := ((Ext.refl wr).alloc _).alloc _
      have hOT : OwnX manyB ((wr.alloc (.map #[] 0)).alloc (.map #[] 0)) wr.heap.size 0 (fun _ => none) := (OwnX.made wr).ext ((Ext.refl _).alloc _)
      have hOG : OwnX intB ((wr.alloc (.map #[] 0)).alloc (.map #[] 0)) (wr.heap.size + 1) 0 (fun _ => none) := by
        have := OwnX.made (M := intB) (wr.alloc (.map #[] 0))
        rwa [World.size_alloc] at this
      have hO5 := hO.ext hEx
      have hown5 := own_ext hEx hown
      have hD5 := hDm.more hEx
      have hob : ∀ j, u11.ownBlock = some j → j ≠ gS ∧ j < wr.heap.size := fun j e => ⟨fun e2 => own_mapX_ne hO hown (by rw [← e2]; exact e), (hown.lt j e).2⟩
      have hsz5 : ((wr.alloc (.map #[] 0)).alloc (.map #[] 0)).heap.size = wr.heap.size + 2 := by simp
      generalize (wr.alloc (.map #[] 0)).alloc (.map #[] 0) = W5 at *
      generalize hgT : wr.heap.size = gT at *
      replace hgT := Lib.hid hgT
      replace hsz5 := Lib.hid hsz5
      clear hO hown hDm hnE hnb e1
      go_wp2_with (at_range; go_loud (refine wpList_range_X _ rfl _ rfl gS n f rfl hO5 ?_; intro w6 hr6 hg6 hs6))
      go_frame
      have hU : UnsM w0 cb db bp bc gs P C B gS W5.heap.size gT (gT + 1) n f (unsT P S C i) u11 [] n 0 (fun _ => none) 0 (fun _ => none) w6 :=
        ⟨hr6, hOT.grown hg6 (by simp), hOG.grown hg6 (by simp), hown5.kept hg6 (by cases hv : u11.ownBlock <;> simp), hD5.aside hg6 hbel (fun j e => by cases e), hbel, ⟨hBS, hgSl, Nat.lt_succ_self _, by have := hsz5.out; omega⟩, fun j e => by
          have h5 := hsz5.out
          have := hob j e
          refine ⟨this.1, ?_, ?_, ?_⟩ <;> omega⟩
      clear hr6 hg6 hs6 hOT hOG hO5 hown5 hD5 hob
      generalize W5.heap.size = r at *
      replace hU := Lib.hid hU
      go_loopw [] (fun wr' => ∃ (ks : List (List Nat)) (cnt nT : Nat) (fT : List Nat → Option Bool) (nG : Nat) (fG : Nat → Option Bool), UnsM w0 cb db bp bc gs P C B gS r gT (gT + 1) n f (unsT P S C i) u11 ks cnt nT fT nG fG wr' ∧ nT ≤ 4 * ks.length ∧ nG ≤ 4 * ks.length ∧
        (∀ N, ManOk N → ((fT N).isSome = true ↔ ∃ N0 ∈ ks, ∃ k, HitT P C i N0 k ∧ N = incN N0 k)) ∧ (∀ k, k ≤ 1000 → ((fG k).isSome = true ↔ ∃ N0 ∈ ks, HitT P C i N0 k))) (fun wr' => wr'.rangeLeft gS r)
      case atStart => exact ⟨[], n, 0, _, 0, _, hU.out, Nat.le_refl _, Nat.le_refl _, fun N _ => ⟨(fun h => by simp at h), (fun ⟨_, h, _⟩ => by cases h)⟩, fun k _ => ⟨(fun h => by simp at h), (fun ⟨_, h, _⟩ => by cases h)⟩⟩
      case round =>
        clear hU
        obtain ⟨ks, cnt, nT, fT, nG, fG, hU, hnT, hnG, hfT, hfG⟩ := hrel
        go_wp2_with (at_next; go_loud (refine wpList_next_X _ rfl _ rfl boolRd_shape datB_inj gS r n f ks cnt rfl hU.rng ?_ ?_))
        · intro hc0 hall
          obtain ⟨hoks, hkn⟩ := hU.rng.oks
          have hgiv : ∀ k, k ≤ 1000 → ((fG k).isSome = true ↔ givenP P C [0, 0, 0, 0] i k) := fun k hk => by
            rw [hfG k hk]
            constructor
            · rintro ⟨N, hN, h1, h2⟩
              exact ⟨N, (hst N (hoks N hN)).1 ((hall N (hoks N hN)).1 hN), h1, h2⟩
            · rintro ⟨N, h0, h1, h2⟩
              have hNo : ManOk N := (hnok.out i N h0).man (by omega)
              exact ⟨N, (hall N hNo).2 ((hst N hNo).2 h0), h1, h2⟩
          have htwo : 1 < nG ↔ unsB P C i = true := by
            rw [hU.giv.two, hut.out i hlt]
            constructor
            · rintro ⟨k, q, hk, hq, h1, h2, h3⟩
              exact ⟨k, q, (hgiv k hk).1 h1, (hgiv q hq).1 h2, h3⟩
            · rintro ⟨k, q, h1, h2, h3⟩
              have hk : k ≤ 1000 := by obtain ⟨_, _, h4, _⟩ := h1; omega
              have hq : q ≤ 1000 := by obtain ⟨_, _, h4, _⟩ := h2; omega
              exact ⟨k, q, hk, hq, (hgiv k hk).2 h1, (hgiv q hq).2 h2, h3⟩
          have hst2 : ∀ N, ManOk N → ((fT N).isSome = true ↔ statesP P C [0, 0, 0, 0] (i + 1) N) := fun N hN => by
            rw [hfT N hN]
            constructor
            · rintro ⟨N1, h0, k, ⟨h1, h2⟩, e⟩
              exact ⟨N1, k, (hst N1 (hoks N1 h0)).1 ((hall N1 (hoks N1 h0)).1 h0), h1, h2, e⟩
            · rintro ⟨N1, k, h0, h1, h2, e⟩
              have hNo : ManOk N1 := (hnok.out i N1 h0).man (by omega)
              exact ⟨N1, (hall N1 hNo).2 ((hst N1 hNo).2 h0), k, ⟨h1, h2⟩, e⟩
          have hn2 : nT ≤ 4 ^ (i + 1) := by rw [Nat.pow_succ]; omega
          have hsd : S.getD i ⟨#[]⟩ = s := by rw [List.getD_eq_getElem?_getD, hs]; rfl
          have hus : unsT P S C (i + 1) = unsT P S C i ++ if unsB P C i then [s] else [] := by rw [← hsd]; rfl
          have htl := unsT_len (P := P) (C := C) S i
          have hth := hU.thn
          have hgi := hU.giv
          have hrw := hU.row
          have hdv := hU.div
          have hBT : B ≤ gT := by have := hU.ord; omega
          generalize unsT P S C i = T at *
          replace hst2 := Lib.hid hst2
          replace hus := Lib.hid hus
          replace hdv := Lib.hid hdv
          replace hth := Lib.hid hth
          clear hU hst hgiv hall hfT hfG hoks hsd
          by_cases hu : unsB P C i = true
          · have hl1 : (1 : Int) < nG := by have := htwo.2 hu; omega
            have hus2 := hus.out
            rw [hu, if_pos rfl] at hus2
            replace hus2 := Lib.hid hus2
            clear hus htwo
            have hE6 : Ext wr (wr.alloc (.cells #[.string s] 9)) := (Ext.refl _).alloc _
            have hrw6 := own_ext hE6 hrw
            have hBw : B ≤ wr.heap.size := by have := hth.out.lt; omega
            go_wp2_with (first
              | (at_len; go_loud (refine wpList_len_X (M := intB) rfl _ rfl (gT + 1) nG fG rfl hgi ?_))
              | (at_builtin; go_loud (refine wp_app1 _ (.tmp 87) (.tmp 89) 39 9 1 16 _ rfl rfl Tryz.underlying39 strInfo rfl (by decide) (by decide) B _ T.length _ rfl hrw6 wr.heap.size (strC s) rfl rfl (Blk.new' rfl) (by simp [strC, Value.oneCell']) (by omega) (by simp; omega) ?_; intro v8 w8 hown8 hgrow8 _; have hth8 := (hth.out.ext hE6).grown hgrow8 (fun e => own_mapX_ne (hth.out.ext hE6) hrw6 e.symm); have hdv8 := (hdv.out.more hE6).aside hgrow8 hbel (fun j e => (hrw6.lt j e).1))))
            go_roundw
            case rel => exact ⟨i + 1, gT, nT, fT, v8, by go_num, rfl, rfl, by omega, hBT, hn2, hth8, hst2.out, by rw [hus2.out, List.length_append, List.flatMap_append]; exact hown8, hdv8⟩
            case measure => simp [intOf]; omega
          · have hl1 : ¬ (1 : Int) < nG := fun h => hu (htwo.1 (by omega))
            have hus2 := hus.out
            rw [Bool.not_eq_true] at hu
            rw [hu, if_neg (by decide), List.append_nil] at hus2
            replace hus2 := Lib.hid hus2
            clear hus htwo
            go_wp2_with (at_len; go_loud (refine wpList_len_X (M := intB) rfl _ rfl (gT + 1) nG fG rfl hgi ?_))
            go_roundw
            case rel => exact ⟨i + 1, gT, nT, fT, _, by go_num, rfl, rfl, by omega, hBT, hn2, hth.out, hst2.out, by rw [hus2.out]; exact hrw, hdv.out⟩
            case measure => simp [intOf]; omega
        · intro N vb w7 cnt2 hNo hfN hNk hrg2 hlt2 hg2 hs2 hen
          have hSN := (hst N hNo).1 hfN
          have hNok := hnok.out i N hSN
          have hle := hU.rng.left_eq
          obtain ⟨hoks, hkn⟩ := hU.rng.oks
          have hn23 : n ≤ 400000000000000 := Nat.le_trans hn4 (Nat.le_trans (Nat.pow_le_pow_right (by decide) (show i ≤ 24 by omega)) (by decide))
          obtain ⟨a, b, c, d, rfl⟩ := man4 hNo.1
          have ho := hU.ord
          have hU2 : UnsM w0 cb db bp bc gs P C B gS r gT (gT + 1) n f (unsT P S C i) u11 (ks ++ [[a, b, c, d]]) cnt2 nT fT nG fG w7 :=
            ⟨hrg2, hU.thn.grown hg2 (fun e => by cases e; omega), hU.giv.grown hg2 (fun e => by cases e; omega), hU.row.kept hg2 (.inr fun e => (hU.own _ e).2.1 rfl), hU.div.aside hg2 hbel (fun j e => by cases e; omega), hbel, hU.ord, hU.own⟩
          rw [show manyB.kv [a, b, c, d] = Value.agg #[.int .i64 a, .int .i64 b, .int .i64 c, .int .i64 d] from rfl] at hen ⊢
          have hE8 : Ext w7 (w7.alloc (.cells #[.int .i64 a, .int .i64 b, .int .i64 c, .int .i64 d] 80)) := (Ext.refl _).alloc _
          have hX8 : Blk (w7.alloc (.cells #[.int .i64 a, .int .i64 b, .int .i64 c, .int .i64 d] 80)) w7.heap.size 80 #[.int .i64 a, .int .i64 b, .int .i64 c, .int .i64 d] := Blk.new' rfl
          have hU8 := hU2.ext hE8
          have hrl := hU2.rng.lt.1
          have hXo : u11.ownBlock ≠ some w7.heap.size := fun e => by have := (hU2.row.lt _ e).2; omega
          replace hst := Lib.hid hst
          replace hU8 := Lib.hid hU8
          replace hfT := Lib.hid hfT
          replace hfG := Lib.hid hfG
          replace hSN := Lib.hid hSN
          clear hU hU2 hrg2 hg2 hs2 hfN hE8 hNk
          go_upto_region 16 with fail
          generalize w7.alloc (.cells #[.int .i64 a, .int .i64 b, .int .i64 c, .int .i64 d] 80) = W8 at *
          generalize w7.heap.size = gX at *
          clear hen
          replace hX8 := Lib.hid hX8
          go_wp2
          go_loopw [60] (fun v60 wr' => ∃ (q nT : Nat) (fT : List Nat → Option Bool) (nG : Nat) (fG : Nat → Option Bool), v60 = .int .i64 q ∧ q ≤ P.length ∧ UnsM w0 cb db bp bc gs P C B gS r gT (gT + 1) n f (unsT P S C i) u11 (ks ++ [[a, b, c, d]]) cnt2 nT fT nG fG wr' ∧ nT ≤ 4 * ks.length + q ∧ nG ≤ 4 * ks.length + q ∧
            Blk wr' gX 80 #[.int .i64 a, .int .i64 b, .int .i64 c, .int .i64 d] ∧
            (∀ N, ManOk N → ((fT N).isSome = true ↔ (∃ N0 ∈ ks, ∃ k, HitT P C i N0 k ∧ N = incN N0 k) ∨ ∃ k, k < q ∧ HitT P C i [a, b, c, d] k ∧ N = incN [a, b, c, d] k)) ∧ (∀ k, k ≤ 1000 → ((fG k).isSome = true ↔ (∃ N0 ∈ ks, HitT P C i N0 k) ∨ (k < q ∧ HitT P C i [a, b, c, d] k)))) (fun v60 _ => P.length - (intOf v60).toNat)
          case atStart => exact ⟨0, nT, fT, nG, fG, rfl, Nat.zero_le _, hU8.out, by omega, by omega, hX8.out, fun N hN => (hfT.out N hN).trans ⟨.inl, fun h => h.elim id fun ⟨k, h, _⟩ => absurd h (Nat.not_lt_zero k)⟩, fun k hk => (hfG.out k hk).trans ⟨.inl, fun h => h.elim id fun ⟨h, _⟩ => absurd h (Nat.not_lt_zero k)⟩⟩
          case round =>
            clear hU8 hX8 hfT hfG
            obtain ⟨q, nT, fT, nG, fG, rfl, hq, hU, hnT, hnG, hX, hfT, hfG⟩ := hrel
            by_cases hlt3 : q < P.length
            · have hqI : (q : Int) < P.length := by omega
              have hq4 : (q : Int) < 4 := by omega
              have hD := hU.div
              obtain ⟨g, hg⟩ : ∃ g, withV P (fromF P (C.drop (i + 1))) (C.getD i []) [a, b, c, d] q = g := ⟨_, rfl⟩
              obtain ⟨y, hy⟩ : ∃ y, fromF P (C.drop i) [a, b, c, d] = y := ⟨_, rfl⟩
              have hcw := fun (u : World) (hu : DivM w0 u cb db bp bc gs P C 0) => hDw.out u i q a b c d hu hlt hlt3 hNok
              rw [hg] at hcw
              have hcf := fun (u : World) (hu : DivM w0 u cb db bp bc gs P C 0) => hDv.out u i a b c d hu hi hNok
              rw [hy] at hcf
              have hhit : HitT P C i [a, b, c, d] q ↔ g = y := by
                unfold HitT; rw [hg, hy]; exact ⟨fun h => h.2, fun h => ⟨hlt3, h⟩⟩
              obtain ⟨a', b', c', d', x', hinc, hx', hcell, hset⟩ := cells4 (a := a) (b := b) (c := c) (d := d) (show q < 4 by omega)
              have hx'i : x' ≤ 1000 := by
                have h9 : x' ≤ i := by
                  rw [← hx', List.getD_eq_getElem?_getD]
                  cases e : [a, b, c, d][q]? with
                  | none => simp
                  | some z => exact hNok.2 z (List.mem_of_getElem? e)
                omega
              have hN2 : ManOk [a', b', c', d'] := by rw [← hinc]; exact hNok.inc.man (by omega)
              replace hfT := Lib.hid hfT
              replace hfG := Lib.hid hfG
              replace hset := Lib.hid hset
              replace hinc := Lib.hid hinc
              replace hU := Lib.hid hU
              have hXl := hX.lt
              clear hx' hg hy
              go_upto_region 19 with fail
              refine wp_region_planS [(0, true), (1, true), (2, true), (3, true), (4, true), (5, true), (6, true), (7, true), (8, true), (9, true)] 10 (fun u => DivM w0 u cb db bp bc gs P C 0 ∧ Blk u gX 80 #[.int .i64 a, .int .i64 b, .int .i64 c, .int .i64 d]) (fun u u' => Keeps gs u u' ∧ (DivM w0 u cb db bp bc gs P C 0 → DivM w0 u' cb db bp bc gs P C 0)) (by kernel_rfl) (by kernel_rfl) (fun _ => ⟨Keeps.refl _ _, id⟩) (fun _ _ _ h k => ⟨h.1.trans k.1, fun x => k.2 (h.2 x)⟩) (fun _ _ h he => ⟨he.2 h.1, he.1.2.1 _ _ _ h.2⟩) ⟨hD.more (Ext.refl _).drew, hX.ext (Ext.refl _).drew⟩ ?_
              repeat
                first
                  | (refine plan_quiet rfl rfl (fun _ _ _ _ h => h) ?_
                     apply Exists.intro
                     refine ⟨fun w' hw' => ?_, ?_⟩
                     · obtain ⟨q1, q2⟩ := hw'
                       obtain ⟨y1, -⟩ := q2.walk
                       have y2 := q2.lt
                       simp [go_sem, quietTo, y1, y2, Keeps.refl, ↓IntWalk.iteOmega]
                       first
                         | rfl
                         | (refine Calls.mono (hcw w' q1) ?_; rintro e w8 ⟨rfl, hD8, hK8⟩; exact ⟨rfl, hK8, fun _ => hD8⟩)
                         | (refine Calls.mono (hcf w' q1) ?_; rintro e w8 ⟨rfl, hD8, hK8⟩; exact ⟨rfl, hK8, fun _ => hD8⟩)
                     simp only [Act.put, List.setIfInBounds_toArray, List.set_cons_succ, List.set_cons_zero])
                  | fail
              refine plan_nil fun wra hera hwra => ?_
              simp only [List.drop_succ_cons, List.drop_zero, List.drop_nil]
              obtain ⟨hD5, hX5⟩ := hwra
              have hU5 := (hU.out.ext (Ext.refl wr).drew).keeps hera.1 hD5
              clear hera hX hD hcw hcf hXl hD5 hU
              by_cases hgy : g = y
              · subst hgy
                have hht := hhit.2 rfl
                obtain ⟨w9, n9, hrun9, hU9, hn9, hg9⟩ := hU5.putG (k := q) (by omega) (by omega)
                have hX9 : Blk w9 gX 80 #[.int .i64 a, .int .i64 b, .int .i64 c, .int .i64 d] := (hg9.block gX hX5.lt fun e => by cases e; omega).trans hX5
                have hE10 : Ext w9 (w9.alloc (.cells #[.int .i64 a, .int .i64 b, .int .i64 c, .int .i64 d] 80)) := (Ext.refl _).alloc _
                have hY10 : Blk (w9.alloc (.cells #[.int .i64 a, .int .i64 b, .int .i64 c, .int .i64 d] 80)) w9.heap.size 80 #[.int .i64 a, .int .i64 b, .int .i64 c, .int .i64 d] := Blk.new' rfl
                have hX10 := hX9.ext hE10
                have hU10 := hU9.ext hE10
                have hrY := hU9.rng.lt.1
                have hXY := hX9.lt
                have hYo : u11.ownBlock ≠ some w9.heap.size := fun e => by have := (hU9.row.lt _ e).2; omega
                obtain ⟨y1, -⟩ := hX9.walk
                replace hrun9 := Lib.hid hrun9
                replace hU10 := Lib.hid hU10
                clear hU5 hX5 hU9 hg9 hE10
                go_upto_region 22 with (refine wpList_putV rfl _ _ _ 90 rfl (.map (some (gT + 1))) (.int .i64 q) (.bool true) rfl rfl rfl w9 hrun9.out ?_)
                generalize w9.alloc (.cells #[.int .i64 a, .int .i64 b, .int .i64 c, .int .i64 d] 80) = W10 at *
                generalize w9.heap.size = gY at *
                clear y1
                obtain ⟨y1, y2⟩ := hY10.walk
                have hYl := hY10.lt
                have hgs := grown_set W10 ⟨gY, q, none⟩ (.int .i64 ((x' : Int) + 1))
                have hY11 : Blk (W10.setCell ⟨gY, q, none⟩ (.int .i64 ((x' : Int) + 1))) gY 80 #[.int .i64 a', .int .i64 b', .int .i64 c', .int .i64 d'] := (hY10.set_ q _).cast hset.out
                have hX11 : Blk (W10.setCell ⟨gY, q, none⟩ (.int .i64 ((x' : Int) + 1))) gX 80 #[.int .i64 a, .int .i64 b, .int .i64 c, .int .i64 d] := hX10.far (p := ⟨gY, q, none⟩) (by simp only; omega) _
                have hU11 := hU10.out.aside hgs (fun j e => by cases e; exact ⟨hrY, hYo⟩)
                obtain ⟨w12, n12, hrun12, hU12, hn12, hg12⟩ := hU11.putT (N := [a', b', c', d']) hN2 (by omega)
                have hrun12' : (Instr.mapUpdate 89 (.map (some gT)) (.agg #[.int .i64 a', .int .i64 b', .int .i64 c', .int .i64 d']) (.bool true)).run Tryz.prog (W10.setCell ⟨gY, q, none⟩ (.int .i64 ((x' : Int) + 1))) = .ok () w12 := hrun12
                have hX12 : Blk w12 gX 80 #[.int .i64 a, .int .i64 b, .int .i64 c, .int .i64 d] := (hg12.block gX hX11.lt fun e => by cases e; omega).trans hX11
                replace hrun12' := Lib.hid hrun12'
                replace hU12 := Lib.hid hU12
                clear hU11 hrun12 hg12 hX11 hX10 hgs
                go_upto_region 23 with fail
                generalize W10.setCell ⟨gY, q, none⟩ (.int .i64 ((x' : Int) + 1)) = W11 at *
                clear y1 y2 hYl hY10
                obtain ⟨y1, -⟩ := hY11.walk
                have hYl := hY11.lt
                go_wp2_with (refine wpList_putV rfl _ _ _ 89 rfl (.map (some gT)) (.agg #[.int .i64 a', .int .i64 b', .int .i64 c', .int .i64 d']) (.bool true) rfl rfl rfl w12 hrun12'.out ?_)
                go_roundw
                case rel => exact ⟨q + 1, n12, updK fT [a', b', c', d'] true, n9, updK fG q true, by go_num, by omega, hU12.out, by omega, by omega, hX12, fun N hN => by
                  unfold updK
                  by_cases e : N = [a', b', c', d']
                  · rw [if_pos e]
                    exact ⟨fun _ => .inr ⟨q, Nat.lt_succ_self q, hht, e.trans hinc.out.symm⟩, fun _ => rfl⟩
                  · rw [if_neg e, hfT.out N hN]
                    constructor
                    · rintro (h | ⟨k, h1, h2, h3⟩)
                      · exact .inl h
                      · exact .inr ⟨k, by omega, h2, h3⟩
                    · rintro (h | ⟨k, h1, h2, h3⟩)
                      · exact .inl h
                      · rcases Nat.lt_or_ge k q with h4 | h4
                        · exact .inr ⟨k, h4, h2, h3⟩
                        · obtain rfl : k = q := by omega
                          exact absurd (h3.trans hinc.out) e, fun k hk => by
                  unfold updK
                  by_cases e : k = q
                  · rw [if_pos e]
                    subst e
                    exact ⟨fun _ => .inr ⟨Nat.lt_succ_self k, hht⟩, fun _ => rfl⟩
                  · rw [if_neg e, hfG.out k hk]
                    constructor
                    · rintro (h | ⟨h1, h2⟩)
                      · exact .inl h
                      · exact .inr ⟨by omega, h2⟩
                    · rintro (h | ⟨h1, h2⟩)
                      · exact .inl h
                      · exact .inr ⟨by omega, h2⟩⟩
                case measure => simp [intOf]; omega
              · have hht : ¬ HitT P C i [a, b, c, d] q := fun h => hgy (hhit.1 h)
                have hgb : (g == y) = false := beq_false_of_ne hgy
                replace hU5 := Lib.hid hU5
                go_wp2
                go_roundw
                case rel => exact ⟨q + 1, nT, fT, nG, fG, by go_num, by omega, hU5.out, by omega, by omega, hX5, fun N hN => by
                  rw [hfT.out N hN]
                  constructor
                  · rintro (h | ⟨k, h1, h2, h3⟩)
                    · exact .inl h
                    · exact .inr ⟨k, by omega, h2, h3⟩
                  · rintro (h | ⟨k, h1, h2, h3⟩)
                    · exact .inl h
                    · rcases Nat.lt_or_ge k q with h4 | h4
                      · exact .inr ⟨k, h4, h2, h3⟩
                      · obtain rfl : k = q := by omega
                        exact absurd h2 hht, fun k hk => by
                  rw [hfG.out k hk]
                  constructor
                  · rintro (h | ⟨h1, h2⟩)
                    · exact .inl h
                    · exact .inr ⟨by omega, h2⟩
                  · rintro (h | ⟨h1, h2⟩)
                    · exact .inl h
                    · rcases Nat.lt_or_ge k q with h4 | h4
                      · exact .inr ⟨h4, h2⟩
                      · obtain rfl : k = q := by omega
                        exact absurd h2 hht⟩
                case measure => simp [intOf]; omega
            · obtain rfl : q = P.length := by omega
              have hkl : (ks ++ [[a, b, c, d]]).length = ks.length + 1 := by simp
              have hfT2 : ∀ N, ManOk N → ((fT N).isSome = true ↔ ∃ N0 ∈ ks ++ [[a, b, c, d]], ∃ k, HitT P C i N0 k ∧ N = incN N0 k) := fun N hN => (hfT N hN).trans ⟨fun h => by
                rcases h with ⟨N0, h0, h1⟩ | ⟨k, _, h1⟩
                · exact ⟨N0, List.mem_append_left _ h0, h1⟩
                · exact ⟨_, List.mem_append_right _ (List.mem_singleton.2 rfl), k, h1⟩, fun ⟨N0, h0, k, h1⟩ => by
                rcases List.mem_append.1 h0 with h2 | h2
                · exact .inl ⟨N0, h2, k, h1⟩
                · rw [List.mem_singleton.1 h2] at h1
                  exact .inr ⟨k, h1.1.1, h1⟩⟩
              have hfG2 : ∀ k, k ≤ 1000 → ((fG k).isSome = true ↔ ∃ N0 ∈ ks ++ [[a, b, c, d]], HitT P C i N0 k) := fun k hk => (hfG k hk).trans ⟨fun h => by
                rcases h with ⟨N0, h0, h1⟩ | ⟨_, h1⟩
                · exact ⟨N0, List.mem_append_left _ h0, h1⟩
                · exact ⟨_, List.mem_append_right _ (List.mem_singleton.2 rfl), h1⟩, fun ⟨N0, h0, h1⟩ => by
                rcases List.mem_append.1 h0 with h2 | h2
                · exact .inl ⟨N0, h2, h1⟩
                · rw [List.mem_singleton.1 h2] at h1
                  exact .inr ⟨h1.1, h1⟩⟩
              have hlf := hU.rng.left_eq
              replace hfT2 := Lib.hid hfT2
              replace hfG2 := Lib.hid hfG2
              replace hU := Lib.hid hU
              clear hfT hfG hX
              go_wp2
              go_roundw
              case rel => exact ⟨ks ++ [[a, b, c, d]], cnt2, nT, fT, nG, fG, hU.out, by omega, by omega, hfT2.out, hfG2.out⟩
              case measure => rw [hlf, hle]; exact hlt2
    · obtain rfl : i = C.length := by omega
      obtain ⟨q9, d9, hq9, hs9⟩ := slc_of_own (enc := strC) (fun _ => rfl) hown (by decide) (by have := unsT_len (P := P) (C := C) S C.length; omega)
      subst hq9
      have hEf := hE0.trans hDm.ext
      replace hs9 := Lib.hid hs9
      clear hDm hown hO hst
      go_wp2
      go_ret3
      exact ⟨_, _, rfl, hs9.out, hEf⟩
end Go.Proofs.YtcdjkgfdhngmeaaGreatDoor
