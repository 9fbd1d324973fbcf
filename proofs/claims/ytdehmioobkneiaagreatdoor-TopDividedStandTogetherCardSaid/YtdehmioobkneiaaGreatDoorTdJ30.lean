/- The first of the best divisions, by the program: where there is one. Conditions: sizes. Maps from names to numbers; the singers of a moment and a singer's range, by the program; a part found by its name. Conditions: sizes. Plain mathematics: a best division gives each singer a part that they can sing, and each part as many as it needs. Conditions: as each theorem says. -/
import Derived.Test.YtdehmioobkneiaaGreatDoorTdJ29
import Derived.Test.YtdehmioobkneiaaGreatDoorTdJ2
set_option linter.unusedSimpArgs false
set_option linter.unusedVariables false
namespace Go.Proofs.YtdehmioobkneiaaGreatDoor
open Go Go.RowKit Go.Maps
set_option maxRecDepth 100000 in
set_option maxHeartbeats 12800000 in
theorem divide_own {w : World} {vp pp : Option Addr} {vc pc : Nat} {V : List VoiceV} {P : List PartV} (h : VpM w vp vc V pp pc P) (t : Int) (hz : errV V P t = 0) (hf : fromF P (comL V t P) [0, 0, 0, 0] ≠ -1) :
    Calls Tryz.prog 8 #[.slice vp V.length vc, .slice pp P.length pc, .int .i64 t] w fun e w' =>
      ∃ (q : Option Addr) (d : Nat), e = .returned (.tuple #[.slice q (divN P (singersL V t) (comL V t P) [0, 0, 0, 0]).length d, .int .i64 (fromF P (comL V t P) [0, 0, 0, 0]), .bool true, .int .i64 0]) ∧ w'.ownsRow w.heap.size 39 2 (.slice q (divN P (singersL V t) (comL V t P) [0, 0, 0, 0]).length d) (divN P (singersL V t) (comL V t P) [0, 0, 0, 0]).length ((divN P (singersL V t) (comL V t P) [0, 0, 0, 0]).flatMap nmpC) ∧ Ext w w' := by
  obtain ⟨h1, hCl, hP4⟩ := errV_zero hz
  have hd := dividerOf_good h t h1 hCl hP4
  have hCb := comL_bound h.sV h.sP t
  have hCS := comL_len V t P
  rw [← comL_len V t P] at hCl
  have hpar := h.par
  generalize singersL V t = S at *
  generalize comL V t P = C at *
  obtain ⟨T0, hT0⟩ : ∃ T, divN P S C [0, 0, 0, 0] = T := ⟨_, rfl⟩
  obtain ⟨best, hbest⟩ : ∃ v, fromF P C [0, 0, 0, 0] = v := ⟨_, rfl⟩
  rw [hT0]
  rw [hbest] at hf ⊢
  replace hbest := Lib.hid hbest
  have hbe : (best == -1) = false := beq_false_of_ne hf
  replace hd := Lib.hid hd; replace hCS := Lib.hid hCS; replace hCb := Lib.hid hCb; replace hpar := Lib.hid hpar; clear h h1 hz
  go_enter Tryz.func8, Tryz.ntmps8
  go_upto_region 4 with (go_at_call 28; (with_reducible refine Calls.mono hd.out ?_); rintro e w1 ⟨w0, cb, db, sp, sc, cp, cc, bp, bc, gs, rfl, hE0, hC, hSn, hD⟩)
  have hfr := div_from (i := 0) (a := 0) (b := 0) (c := 0) (d := 0) hC hP4 hCl hCb.out hD (Nat.zero_le _) ⟨rfl, by simp⟩
  rw [show ((0 : Nat) : Int) = 0 from rfl, List.drop_zero] at hfr
  have hDv := fun (u : World) (i a b c d : Nat) (hu : DivM w0 u cb db bp bc gs P C 0) (hi : i ≤ C.length) (hN : NOk i [a, b, c, d]) => div_from hC hP4 hCl hCb.out hu hi hN
  have hDw := fun (u : World) (i p a b c d : Nat) (hu : DivM w0 u cb db bp bc gs P C 0) (hi : i < C.length) (hp : p < P.length) (hN : NOk i [a, b, c, d]) => div_with hC hP4 hCl hCb.out hu hi hp hN
  rw [hbest.out] at hfr
  replace hfr := Lib.hid hfr; replace hDv := Lib.hid hDv; replace hDw := Lib.hid hDw; replace hC := Lib.hid hC; replace hSn := Lib.hid hSn; clear hD hd
  go_upto_region 8 with (go_at_call 29; (with_reducible refine Calls.mono hfr.out ?_); rintro e w2 ⟨rfl, hD2, hK2⟩)
  clear hfr hK2
  have hbel := hD2.below
  have hB1 : Blk (w2.alloc (.cells #[.int .i64 0, .int .i64 0, .int .i64 0, .int .i64 0] 81)) w2.heap.size 81 #[.int .i64 0, .int .i64 0, .int .i64 0, .int .i64 0] := Blk.new' rfl
  go_upto_region 9 with fail
  have hE1 : Ext w2 (w2.alloc (.cells #[.int .i64 0, .int .i64 0, .int .i64 0, .int .i64 0] 81)) := (Ext.refl _).alloc _
  have hD3 := hD2.more hE1
  have hC3 := hC.out.ext hD3.ext
  have hB0 : w2.heap.size ≤ w2.heap.size := Nat.le_refl _
  have hgl := hB1.lt
  generalize w2.alloc (.cells #[.int .i64 0, .int .i64 0, .int .i64 0, .int .i64 0] 81) = W1 at *
  have hwg : w.heap.size ≤ w2.heap.size := Nat.le_trans hE0.size hD2.ext.size
  generalize hgM : w2.heap.size = gM at *
  replace hgM := Lib.hid hgM
  obtain ⟨z1, -⟩ := hD3.blk.walk
  obtain ⟨z2, -⟩ := hC3.blk.walk
  replace hD3 := Lib.hid hD3; replace hB1 := Lib.hid hB1; clear hD2 hE1 hC3 hB0
  go_wp2
  go_loopw [42, 13] (fun v42 v13 wr => ∃ (i a b c d : Nat) (T : List (ByteArray × ByteArray)) (v : Value), v42 = .int .i64 i ∧ v13 = v ∧ i ≤ C.length ∧ NOk i [a, b, c, d] ∧ fromF P (C.drop i) [a, b, c, d] ≠ -1 ∧ T ++ divN P (S.drop i) (C.drop i) [a, b, c, d] = T0 ∧ T.length = i ∧ wr.ownsRow (gM + 1) 39 2 v T.length (T.flatMap nmpC) ∧ Blk wr gM 81 #[.int .i64 a, .int .i64 b, .int .i64 c, .int .i64 d] ∧ DivM w0 wr cb db bp bc gs P C 0) (fun v42 _ _ => C.length - (intOf v42).toNat)
  case atStart => exact ⟨0, 0, 0, 0, 0, [], _, rfl, rfl, Nat.zero_le _, ⟨rfl, by simp⟩, by rw [List.drop_zero, hbest.out]; exact hf, by rw [List.drop_zero, List.drop_zero]; exact hT0, rfl, World.ownsRow_nil _ _ _ _, hB1.out, hD3.out⟩
  case round =>
    clear z1 z2 hgl
    obtain ⟨i, a, b, c, d, T, v, rfl, rfl, hi, hN, hne, hT, hTl, hown, hBm, hDm⟩ := hrel
    by_cases hlt : i < C.length
    · obtain ⟨s, hs⟩ := getD_some hCS.out.symm hlt
      have hiI : (i : Int) < C.length := by omega
      obtain ⟨-, ⟨_, e9⟩ | ⟨nb, noff, rfl, hnb, hnE⟩⟩ := slcC (hSn.out.ext hDm.ext)
      · rw [e9] at hs; cases hs
      have e1 := hnE.str hs
      have hdr := drop_at hlt
      have hne2 := hne
      rw [hdr] at hne2
      obtain ⟨hk1, hk2, hk3⟩ := pickP_hit hne2
      obtain ⟨k, hk⟩ : ∃ k, pickP P (C.drop (i + 1)) (C.getD i []) [a, b, c, d] = k := ⟨_, rfl⟩
      rw [hk] at hk1 hk2 hk3
      obtain ⟨x, hx⟩ := getD_some (rfl : P.length = P.length) hk1
      have hdn := divN_cons hCS.out hs [a, b, c, d] hk hx
      rw [← hdr] at hk2 hk3
      obtain ⟨hw1, hw2, hw3⟩ := withV_some (by rw [hk2]; exact hne : withV P (fromF P (C.drop (i + 1))) (C.getD i []) [a, b, c, d] k ≠ -1)
      obtain ⟨y, hy⟩ : ∃ y, fromF P (C.drop i) [a, b, c, d] = y := ⟨_, rfl⟩
      obtain ⟨G, hG⟩ : ∃ G, withV P (fromF P (C.drop (i + 1))) (C.getD i []) [a, b, c, d] = G := ⟨_, rfl⟩
      have hGv := fun p => congrFun hG p
      obtain ⟨a', b', c', d', x', hinc, hx', hcell, hset⟩ := cells4 (a := a) (b := b) (c := c) (d := d) (show k < 4 by omega)
      have hN' : NOk (i + 1) [a', b', c', d'] := by rw [← hinc]; exact hN.inc
      have hx'i : x' ≤ 1000 := by
        have h9 : x' ≤ i := by
          rw [← hx', List.getD_eq_getElem?_getD]
          cases e : [a, b, c, d][k]? with
          | none => simp
          | some z => exact hN.2 z (List.mem_of_getElem? e)
        omega
      rw [hinc] at hw2 hdn
      rw [hdn] at hT
      rw [hG, hy] at hk2 hk3
      rw [hG] at hw3
      replace hs := Lib.hid hs; replace hx := Lib.hid hx; replace hk := Lib.hid hk; replace hk2 := Lib.hid hk2; replace hk3 := Lib.hid hk3; replace hGv := Lib.hid hGv; replace hy := Lib.hid hy; replace hw2 := Lib.hid hw2; replace hT := Lib.hid hT; replace hN := Lib.hid hN; replace hN' := Lib.hid hN'; replace hinc := Lib.hid hinc; replace hset := Lib.hid hset; replace hDm := Lib.hid hDm
      replace hown := Lib.hid hown; replace hBm := Lib.hid hBm; clear hw1 hw3 hdn hdr hne2 hG hne hx' hnE
      go_wp2
      go_loopw [49, 13] (fun v49 v13 wr' => ∃ p : Nat, v49 = .int .i64 p ∧ v13 = u13 ∧ p ≤ k ∧ wr'.ownsRow (gM + 1) 39 2 u13 T.length (T.flatMap nmpC) ∧ Blk wr' gM 81 #[.int .i64 a, .int .i64 b, .int .i64 c, .int .i64 d] ∧ DivM w0 wr' cb db bp bc gs P C 0) (fun v49 _ _ => P.length - (intOf v49).toNat)
      case atStart => exact ⟨0, rfl, rfl, Nat.zero_le _, hown.out, hBm.out, hDm.out⟩
      case round =>
        clear e1
        obtain ⟨p, rfl, rfl, hp, hown, hBm, hDm⟩ := hrel
        have hpl : p < P.length := by omega
        have hpI : (p : Int) < P.length := by omega
        have hcw := fun (u : World) (hu : DivM w0 u cb db bp bc gs P C 0) => hDw.out u i p a b c d hu hlt hpl hN.out
        obtain ⟨g, hg⟩ : ∃ g, G p = g := ⟨_, rfl⟩
        rw [hGv.out p, hg] at hcw
        have hcf := fun (u : World) (hu : DivM w0 u cb db bp bc gs P C 0) => hDv.out u i a b c d hu hi hN.out
        rw [hy.out] at hcf
        go_upto_region 15 with fail
        have hBl := hBm.lt
        refine wp_region_planS [(0, true), (1, true), (2, true), (3, true), (4, true), (5, true), (6, true), (7, true), (8, true), (9, true)] 10 (fun u => DivM w0 u cb db bp bc gs P C 0 ∧ Blk u gM 81 #[.int .i64 a, .int .i64 b, .int .i64 c, .int .i64 d]) (fun u u' => Keeps gs u u' ∧ (DivM w0 u cb db bp bc gs P C 0 → DivM w0 u' cb db bp bc gs P C 0)) (by kernel_rfl) (by kernel_rfl) (fun _ => ⟨Keeps.refl _ _, id⟩) (fun _ _ _ h k => ⟨h.1.trans k.1, fun x => k.2 (h.2 x)⟩) (fun _ _ h he => ⟨he.2 h.1, he.1.2.1 _ _ _ h.2⟩) ⟨hDm.more (Ext.refl _).drew, hBm.ext (Ext.refl _).drew⟩ ?_
        repeat
          first
            | (refine plan_quiet rfl rfl (fun _ _ _ _ h => h) ?_
               apply Exists.intro
               refine ⟨fun w' hw' => ?_, ?_⟩
               · obtain ⟨q1, q2⟩ := hw'
                 obtain ⟨y1, -⟩ := q2.walk
                 have y2 := q2.lt
                 simp [go_sem, quietTo, y1, y2, Keeps.refl, ↓IntWalk.iteOmega]
                 first
                   | rfl
                   | (refine Calls.mono (hcw w' q1) ?_; rintro e w8 ⟨rfl, hD8, hK8⟩; exact ⟨rfl, hK8, fun _ => hD8⟩)
                   | (refine Calls.mono (hcf w' q1) ?_; rintro e w8 ⟨rfl, hD8, hK8⟩; exact ⟨rfl, hK8, fun _ => hD8⟩)
               simp only [Act.put, sIA, sCS, sCZ])
            | fail
        refine plan_nil fun wra hera hwra => ?_
        simp only [List.drop_succ_cons, List.drop_zero, List.drop_nil]
        obtain ⟨hD5, hB5⟩ := hwra
        have hown5 := own_keeps ((Ext.keeps (gs := gs) (Ext.refl wr).drew).trans hera.1) hown
        clear hera hown hBm hDm hcw hcf hBl
        by_cases hpk : p = k
        · subst hpk
          have hgy : g = y := by rw [← hg]; exact hk2.out
          subst hgy
          obtain ⟨-, ⟨_, e9⟩ | ⟨pb, poff, rfl, hpb, hpE⟩⟩ := slcC ((hC.out.ext hD5.ext).par)
          · have := hx.out; rw [e9] at this; cases this
          obtain ⟨c0, c1, c2, c3, c4⟩ := hpE.part hx.out
          have hE6 : Ext wra (wra.alloc (.cells #[.string s, .string x.name] 39)) := (Ext.refl _).alloc _
          have hD6 := hD5.more hE6
          have hB6 := hB5.ext hE6
          have hown6 := own_ext hE6 hown5
          have hgl := hB6.lt
          have hp4 : (p : Int) < 4 := by omega
          have hNb : Blk (wra.alloc (.cells #[.string s, .string x.name] 39)) wra.heap.size 39 (nmpC (s, x.name)).toArray := Blk.new' rfl
          have hsz6 : wra.heap.size < (wra.alloc (.cells #[.string s, .string x.name] 39)).heap.size := hNb.lt
          have hgl5 := hB5.lt
          replace hD6 := Lib.hid hD6; clear hD5 hB5 hown5 hpE hE6
          go_wp2_with (at_builtin; go_loud (refine wp_app1 _ (.tmp 62) (.tmp 70) 31 39 2 32 _ rfl rfl Tryz.underlying31 nmpInfo rfl (by decide) (by decide) (gM + 1) _ T.length _ rfl hown6 wra.heap.size (nmpC (s, x.name)) rfl rfl hNb (by simp [nmpC, Value.oneCell']) (by omega) (by omega) ?_; intro v8 w8 hown8 hgrow8 _; have hB8 : Blk w8 gM 81 #[.int .i64 a, .int .i64 b, .int .i64 c, .int .i64 d] := (hgrow8.block gM hgl fun e => own_no hown6 hB6 (by decide) e.symm).trans hB6; obtain ⟨y1, y2⟩ := hB8.walk; have y3 := hB8.lt; have hD8 := hD6.out.aside hgrow8 hbel (fun j e => by have := (hown6.lt j e).1; omega)))
          have hgs := grown_set w8 ⟨gM, p, none⟩ (.int .i64 ((x' : Int) + 1))
          have hB9 : Blk (w8.setCell ⟨gM, p, none⟩ (.int .i64 ((x' : Int) + 1))) gM 81 #[.int .i64 a', .int .i64 b', .int .i64 c', .int .i64 d'] := (hB8.set_ p _).cast hset.out
          have hown9 := hown8.kept hgs (.inr (own_no hown8 hB8 (by decide)))
          have hD9 := hD8.aside hgs hbel (fun j e => by cases e; exact Nat.le_refl _)
          go_roundw
          case rel => exact ⟨i + 1, a', b', c', d', T ++ [(s, x.name)], _, by go_num, rfl, by omega, hN'.out, hw2.out, by rw [List.append_assoc]; exact hT.out, by rw [List.length_append, hTl]; rfl, by rw [List.length_append, List.flatMap_append]; exact hown9, hB9, hD9⟩
          case measure => simp [intOf]; omega
        · have hgy : ¬ g = y := by rw [← hg]; exact hk3.out p (by omega)
          have hgb : (g == y) = false := beq_false_of_ne hgy
          go_wp2
          go_roundw
          case rel => exact ⟨p + 1, by go_num, rfl, by omega, hown5, hB5, hD5⟩
          case measure => simp [intOf]; omega
    · obtain rfl : i = C.length := by omega
      have hdr : divN P (S.drop C.length) (C.drop C.length) [a, b, c, d] = [] := by rw [List.drop_length]; simp [divN, divG]
      rw [hdr, List.append_nil] at hT
      subst hT
      obtain ⟨q9, d9, hq9, -⟩ := slc_of_own nmpC_len hown (by decide) (by omega)
      subst hq9
      have hEf := hE0.trans hDm.ext
      have hs9 := own_low hown (show w.heap.size ≤ gM + 1 by omega)
      replace hs9 := Lib.hid hs9; clear hDm hBm hown hN hne
      go_wp2
      (try simp only [Exit.inBlock, Exit.then]); refine bodyPost_ret (results_tmp4 rfl _ _ _) rfl ?_
      exact ⟨_, _, rfl, hs9.out, hEf⟩
end Go.Proofs.YtdehmioobkneiaaGreatDoor
namespace Go.Proofs.YtdehmioobkneiaaGreatDoor
open Go Go.RowKit Go.Maps Go.Sort Go.Shelf
theorem voices_right {V : List VoiceV} (h : voicesF V = 0) : ∀ x ∈ V, keyB x.name = true ∧ rightR x.lo x.hi = true := by
  unfold voicesF at h
  have hz : ∀ k, k ≤ V.length → Zeros (chkVoi V) k := by
    intro k
    induction k with
    | zero => intro _ j hj; omega
    | succ k ih =>
      intro hk
      have hz := ih (by omega)
      refine hz.succ ?_
      rcases (inferInstance : Decidable (chkVoi V k = 0)) with hn | hy
      · have := scan_at (n := V.length) k (by omega) hz hn
        rw [h] at this
        exact this.symm
      · exact hy
  intro x hx
  obtain ⟨i, hi, e⟩ := List.getElem_of_mem hx
  have h0 := hz V.length (Nat.le_refl _) i hi
  unfold chkVoi at h0
  rw [atL_of (show V[i]? = some x by rw [List.getElem?_eq_getElem hi, e])] at h0
  cases hk : keyB x.name with
  | false => rw [hk] at h0; cases h0
  | true =>
    rw [hk] at h0
    cases hr : rightR x.lo x.hi with
    | false => rw [hr] at h0; simp at h0
    | true => exact ⟨rfl, rfl⟩
theorem parts_once {P : List PartV} (h : partsF P = 0) {i j : Nat} {x y : PartV} (hi : P[i]? = some x) (hj : P[j]? = some y) (hij : i < j) : x.name.toList ≠ y.name.toList := fun e => by
  obtain ⟨hl, -⟩ := partsF_right h
  unfold partsF at h
  rw [if_neg (by omega)] at h
  have hz : ∀ k, k ≤ P.length → Zeros (chkPart P) k := by
    intro k
    induction k with
    | zero => intro _ j hj; omega
    | succ k ih =>
      intro hk
      have hz := ih (by omega)
      refine hz.succ ?_
      rcases (inferInstance : Decidable (chkPart P k = 0)) with hn | hy
      · have := scan_at (n := P.length) k (by omega) hz hn
        rw [h] at this
        exact this.symm
      · exact hy
  have h0 := hz P.length (Nat.le_refl _) j (List.getElem?_eq_some_iff.1 hj).1
  unfold chkPart at h0
  rw [atL_of hj] at h0
  have hn : nameIn P j y.name = true := by
    unfold nameIn
    rw [List.any_eq_true]
    exact ⟨x, List.mem_of_getElem? (i := i) (by rw [List.getElem?_take, if_pos hij]; exact hi), by rw [e]; exact beq_self_eq_true _⟩
  cases hk : keyB y.name with
  | false => rw [hk] at h0; cases h0
  | true =>
    rw [hk, hn] at h0
    cases h0
theorem singers_key {V : List VoiceV} (h : voicesF V = 0) {t : Int} : ∀ p ∈ singersL V t, keyB p = true := fun p hp => by
  unfold singersL at hp
  rw [onceL_mem] at hp
  obtain ⟨x, hx, rfl⟩ := List.mem_map.1 hp
  exact (voices_right h x (List.mem_of_mem_take (List.mem_filter.1 hx).1)).1
section
variable {w : World} {vp pp : Option Addr} {vc pc : Nat} {V : List VoiceV} {P : List PartV}
end
end Go.Proofs.YtdehmioobkneiaaGreatDoor
namespace Go.Proofs.YtdehmioobkneiaaGreatDoor
section
variable {P : List PartV}
theorem divG_ok : ∀ (C : List (List Int)) (N : List Nat), fromF P C N ≠ -1 → (divG P C N).length = C.length ∧ ∀ i k, (divG P C N)[i]? = some k → k < P.length ∧ 0 ≤ (C.getD i []).getD k (-1)
  | [], N, _ => ⟨rfl, fun i k h => by simp [divG] at h⟩
  | r :: C, N, h => by
    obtain ⟨hp1, hp2, hp3⟩ := pickP_hit h
    obtain ⟨h1, h2, h3⟩ := withV_some (by rw [hp2]; exact h : withV P (fromF P C) r N (pickP P C r N) ≠ -1)
    obtain ⟨a, b⟩ := divG_ok C (incN N (pickP P C r N)) h2
    refine ⟨by simp only [divG, List.length_cons, a], fun i k hk => ?_⟩
    cases i with
    | zero =>
      obtain rfl : pickP P C r N = k := by simpa [divG] using hk
      exact ⟨hp1, bar_pos h1⟩
    | succ i => exact b i k (by simpa [divG] using hk)
/-- The pair of a singer. -/
theorem divN_at {S : List ByteArray} {C : List (List Int)} {N : List Nat} {i k : Nat} {s : ByteArray} {x : PartV} (hs : S[i]? = some s) (hk : (divG P C N)[i]? = some k) (hx : P[k]? = some x) : (divN P S C N)[i]? = some (s, x.name) := by
  unfold divN
  rw [List.getElem?_zipWith, hs, hk]
  simp only [List.getD_eq_getElem?_getD, hx, Option.getD_some]
theorem divN_len {S : List ByteArray} {C : List (List Int)} {N : List Nat} (h : fromF P C N ≠ -1) (hl : C.length = S.length) : (divN P S C N).length = C.length := by
  unfold divN
  rw [List.length_zipWith, (divG_ok C N h).1, hl, Nat.min_self]
end
end Go.Proofs.YtdehmioobkneiaaGreatDoor
