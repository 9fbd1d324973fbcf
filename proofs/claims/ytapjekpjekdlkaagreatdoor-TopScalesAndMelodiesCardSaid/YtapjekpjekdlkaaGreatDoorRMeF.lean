/- Which intervals each note can have: the maps that tune.ways makes. Conditions: all choices are right, sizes. -/
import Derived.Test.YtapjekpjekdlkaaGreatDoorRJ21
set_option linter.unusedSimpArgs false
set_option linter.unusedVariables false
namespace Go.Proofs.YtapjekpjekdlkaaGreatDoor
open Go Go.RowKit Go.Maps

/-- Maps that tell what each note can have, in a row of the call's own. -/
structure MapsR (w : World) (B : Nat) (C : List (List I4)) (vb vc n : Nat) (vs : List Value) : Prop where
  row : w.ownsRow B 97 1 (.slice (some ⟨vb, 0, none⟩) n vc) n vs
  at_ : ∀ j, j < n → ∃ b ks f, vs[j]? = some (.map (some b)) ∧ OwnL ivB w b ks f ∧ TellsR C j f ∧ ks.length ≤ 20000
theorem MapsR.ext {w w' : World} {B vb vc n : Nat} {C : List (List I4)} {vs : List Value} (h : MapsR w B C vb vc n vs) (he : Ext w w') : MapsR w' B C vb vc n vs :=
  ⟨own_ext he h.row, fun j hj => let ⟨b, ks, f, h1, h2, h3⟩ := h.at_ j hj; ⟨b, ks, f, h1, h2.ext he, h3⟩⟩
theorem MapsR.lt {w : World} {B vb vc n : Nat} {C : List (List I4)} {vs : List Value} (h : MapsR w B C vb vc n vs) : vb < w.heap.size := (h.row.lt vb rfl).2
theorem MapsR.cell {w : World} {B vb vc n : Nat} {C : List (List I4)} {vs : List Value} (h : MapsR w B C vb vc n vs) {j : Nat} (hj : j < n) : w.cell? ⟨vb, j, none⟩ = vs[j]? := by
  exact h.row.cellAt j (by omega)
theorem MapsR.app {w w' : World} {B vb vc vb' vc' n g : Nat} {C : List (List I4)} {vs : List Value} {ns : List I4} {nf : I4 → Option Bool} (h : MapsR w B C vb vc n vs) (hg : w.grownBy w' (some vb)) (hN : OwnL ivB w g ns nf) (hT : TellsR C n nf) (hl : ns.length ≤ 20000)
    (hrow : w'.ownsRow B 97 1 (.slice (some ⟨vb', 0, none⟩) (n + 1) vc') (n + 1) (vs ++ [.map (some g)])) : MapsR w' B C vb' vc' (n + 1) (vs ++ [.map (some g)]) := by
  have hne : ∀ {b ks f}, OwnL ivB w b ks f → some b ≠ some vb := fun ho e => own_mapX_ne ho.1 h.row e.symm
  have hvl : vs.length = n := by have := h.row.1; omega
  refine ⟨hrow, fun j hj => ?_⟩
  rcases Nat.lt_or_ge j n with hlt | hge
  · obtain ⟨b, ks, f, h1, h2, h3, h4⟩ := h.at_ j hlt
    exact ⟨b, ks, f, by rw [List.getElem?_append_left (by omega)]; exact h1, h2.grown hg (hne h2), h3, h4⟩
  · obtain rfl : j = n := by omega
    exact ⟨g, ns, nf, by rw [List.getElem?_append_right (by omega), hvl, Nat.sub_self]; rfl, hN.grown hg (hne hN), hT, hl⟩
/-- What the next note can have, behind some intervals and choices. -/
def NextT (r seen : List I4) (i : I4) (j : Nat) (nf : I4 → Option Bool) : Prop := ∀ x, (nf x = some true ↔ rightB x = true ∧ ((∃ i ∈ seen, ∃ c ∈ r, x = addI i c) ∨ ∃ c ∈ r.take j, x = addI i c)) ∧ (nf x = some true ∨ nf x = none)
theorem NextT.none (r : List I4) : NextT r [] zeroI 0 (fun _ => none) := fun x => ⟨⟨fun h => by (cases h), fun ⟨_, h⟩ => by
  rcases h with ⟨_, h, _⟩ | ⟨_, h, _⟩
  · cases h
  · simp at h⟩, .inr rfl⟩
theorem NextT.start {r seen : List I4} {i0 : I4} {nf : I4 → Option Bool} (h : NextT r seen i0 0 nf) (i : I4) : NextT r seen i 0 nf := fun x => by
  have := h x
  simpa using this
theorem NextT.done {r seen : List I4} {i : I4} {nf : I4 → Option Bool} (h : NextT r seen i r.length nf) : NextT r (seen ++ [i]) zeroI 0 nf := fun x => by
  refine ⟨(h x).1.trans ?_, (h x).2⟩
  rw [List.take_length, List.take_zero]
  refine and_congr_right fun _ => ⟨fun h => ?_, fun h => ?_⟩
  · rcases h with ⟨q, h1, h2⟩ | h2
    · exact .inl ⟨q, List.mem_append_left _ h1, h2⟩
    · exact .inl ⟨i, List.mem_append_right _ (List.mem_singleton.2 rfl), h2⟩
  · rcases h with ⟨q, h1, h2⟩ | ⟨_, h2, _⟩
    · rcases List.mem_append.1 h1 with h1 | h1
      · exact .inl ⟨q, h1, h2⟩
      · rw [List.mem_singleton.1 h1] at h2; exact .inr h2
    · cases h2
theorem NextT.bad {r seen : List I4} {i : I4} {j : Nat} {c : I4} {nf : I4 → Option Bool} (h : NextT r seen i j nf) (hc : r[j]? = some c) (hr : rightB (addI i c) = false) : NextT r seen i (j + 1) nf := fun x => by
  refine ⟨(h x).1.trans ?_, (h x).2⟩
  obtain ⟨hj, e⟩ := List.getElem?_eq_some_iff.1 hc
  rw [List.take_succ_eq_append_getElem hj, e]
  refine and_congr_right fun hx => or_congr_right ⟨fun ⟨q, h1, h2⟩ => ⟨q, List.mem_append_left _ h1, h2⟩, fun ⟨q, h1, h2⟩ => ?_⟩
  rcases List.mem_append.1 h1 with h1 | h1
  · exact ⟨q, h1, h2⟩
  · rw [List.mem_singleton.1 h1] at h2
    rw [h2, hr] at hx; cases hx
theorem NextT.good {r seen : List I4} {i : I4} {j : Nat} {c : I4} {nf : I4 → Option Bool} (h : NextT r seen i j nf) (hc : r[j]? = some c) (hr : rightB (addI i c) = true) : NextT r seen i (j + 1) (updK nf (addI i c) true) := fun x => by
  obtain ⟨hj, e⟩ := List.getElem?_eq_some_iff.1 hc
  rw [List.take_succ_eq_append_getElem hj, e]
  unfold updK
  by_cases hx : x = addI i c
  · rw [if_pos hx]
    exact ⟨⟨fun _ => ⟨by rw [hx]; exact hr, .inr ⟨c, List.mem_append_right _ (List.mem_singleton.2 rfl), hx⟩⟩, fun _ => rfl⟩, .inl rfl⟩
  · rw [if_neg hx]
    refine ⟨(h x).1.trans (and_congr_right fun _ => or_congr_right ⟨fun ⟨q, h1, h2⟩ => ⟨q, List.mem_append_left _ h1, h2⟩, fun ⟨q, h1, h2⟩ => ?_⟩), (h x).2⟩
    rcases List.mem_append.1 h1 with h1 | h1
    · exact ⟨q, h1, h2⟩
    · rw [List.mem_singleton.1 h1] at h2; exact absurd h2 hx
/-- All intervals of a note are seen: then the next map tells what the next note can have. -/
theorem NextT.tells {C : List (List I4)} {k : Nat} {r seen : List I4} {f nf : I4 → Option Bool} (h : NextT r seen zeroI 0 nf) (hr : C[k]? = some r) (hT : TellsR C k f) (hs : ∀ x, okK x → (x ∈ seen ↔ (f x).isSome = true)) (hok : ∀ x ∈ seen, okK x) : TellsR C (k + 1) nf := fun x => by
  refine ⟨(h x).1.trans ?_, (h x).2⟩
  have hd : C.getD k [] = r := by rw [List.getD_eq_getElem?_getD, hr]; rfl
  show _ ↔ rightB x = true ∧ ∃ i c, Rch C k i ∧ c ∈ C.getD k [] ∧ x = addI i c
  rw [hd, List.take_zero]
  have hsome : ∀ i, (f i).isSome = true ↔ Rch C k i := fun i => by
    rw [← (hT i).1]
    rcases (hT i).2 with h | h <;> simp [h]
  refine and_congr_right fun _ => ⟨fun h => ?_, fun ⟨i, c, h1, h2, h3⟩ => .inl ⟨i, (hs i (okK_right (rch_right h1))).2 ((hsome i).2 h1), c, h2, h3⟩⟩
  rcases h with ⟨i, h1, c, h2, h3⟩ | ⟨_, h2, _⟩
  · exact ⟨i, c, (hsome i).1 ((hs i (hok i h1)).1 h1), h2, h3⟩
  · cases h2
theorem tells_first {C : List (List I4)} : TellsR C 0 (updK (fun _ => none) zeroI true) := fun x => by
  show (_ ↔ x = zeroI) ∧ _
  unfold updK
  by_cases h : x = zeroI <;> simp [h]
theorem mapBInfo : (Tryz.prog.info? 97).map (fun i => (i.zero, i.size, i.bytes)) = some (some (.map none), 1, 8) := by kernel_rfl

set_option maxRecDepth 100000 in
set_option maxHeartbeats 6400000 in
theorem ways_any {w : World} {p : Option Addr} {m c : Nat} {C : List (List I4)} (h : RowsI w p m c C) (hm : m ≤ 1000) (hl : ∀ r ∈ C, r.length ≤ 1000) :
    Calls Tryz.prog 31 #[.slice p m c] w fun e w' => Ext w w' ∧ ((∃ vb vc vs, e = .returned (.tuple #[.slice (some ⟨vb, 0, none⟩) (m + 1) vc, .int .i64 0]) ∧ MapsR w' w.heap.size C vb vc (m + 1) vs) ∨
      (e = .returned (.tuple #[.slice none 0 0, .int .i64 12]) ∧ ∃ k ks, k ≤ m ∧ List.Nodup ks ∧ (∀ x ∈ ks, Rch C k x) ∧ 20000 < ks.length)) := by
  have hmm := @run_makeMap Tryz.prog
  have hlen := h.len
  obtain ⟨w2, ks2, hrun0, hO2, hg2, -, hks2⟩ := (OwnL.made (M := ivB) w).put (k := zeroI) (okK_right right_zero) (by simp) true
  have hrun : (Instr.mapUpdate 97 (.map (some w.heap.size)) (.agg #[.int .i64 0, .int .i64 0, .int .i64 0, .int .i64 0]) (.bool true)).run Tryz.prog (w.alloc (.map #[] 0)) = .ok () w2 := hrun0
  clear hrun0
  have hE2 : Ext w w2 := ((Ext.refl w).alloc _).grown hg2 fun k e => by cases e; exact Nat.le_refl _
  have hks2 : ks2.length ≤ 20000 := by simp at hks2; omega
  have hE3 : Ext w2 (w2.alloc (.cells #[.map (some w.heap.size)] 97)) := (Ext.refl _).alloc _
  have hM0 : MapsR (w2.alloc (.cells #[.map (some w.heap.size)] 97)) w.heap.size C w2.heap.size 1 1 [.map (some w.heap.size)] :=
    ⟨own_of_blk (Blk.new' rfl) hE2.size rfl (by decide), fun j hj => by
      obtain rfl : j = 0 := by omega
      exact ⟨_, ks2, _, rfl, hO2.ext hE3, tells_first, hks2⟩⟩
  have hEw := hE2.trans hE3
  replace hM0 := Lib.hid hM0
  replace hEw := Lib.hid hEw
  clear hO2 hg2 hE2 hE3 hks2
  go_enter Tryz.func31, Tryz.ntmps31
  go_wp2_with (refine wpList_insM rfl _ _ _ 97 rfl (.map (some w.heap.size)) (.agg #[.int .i64 0, .int .i64 0, .int .i64 0, .int .i64 0]) (.bool true) rfl rfl rfl w2 hrun ?_)
  generalize w2.alloc (.cells #[.map (some w.heap.size)] 97) = W at *
  generalize w2.heap.size = vb0 at *
  clear hrun
  go_loopw [4, 18] (fun v4 v18 wr => ∃ (k vb vc : Nat) (vs : List Value), v18 = .int .i64 k ∧ v4 = .slice (some ⟨vb, 0, none⟩) (k + 1) vc ∧ k ≤ m ∧ MapsR wr w.heap.size C vb vc (k + 1) vs ∧ Ext w wr) (fun _ v18 _ => m - (intOf v18).toNat)
  case atStart => exact ⟨0, vb0, 1, _, rfl, rfl, Nat.zero_le _, hM0.out, hEw.out⟩
  case round =>
    clear hM0 hEw
    obtain ⟨k, vb, vc, vs, rfl, rfl, hk, hM, he⟩ := hrel
    by_cases hlt : k < m
    · obtain ⟨r, hr⟩ := getD_some hlen hlt
      have hr1000 := hl r (List.mem_of_getElem? hr)
      obtain ⟨pb, poff, q, d, rfl, hpb, c0, hSr⟩ := (h.ext he).at_ hr
      obtain ⟨b, ks, f, hvs, hO, hT, hn⟩ := hM.at_ k (Nat.lt_succ_self k)
      have cm := hM.cell (Nat.lt_succ_self k)
      rw [hvs] at cm
      have hvb := hM.lt
      have hE1 : Ext wr (wr.alloc (.map #[] 0)) := (Ext.refl _).alloc _
      have hO1 := hO.ext hE1
      have hN1 : OwnL ivB (wr.alloc (.map #[] 0)) wr.heap.size [] (fun _ => none) := OwnL.made wr
      have hbl := hO.lt
      have hkI : (k : Int) < m := by omega
      replace hM := Lib.hid hM
      replace hN1 := Lib.hid hN1
      replace hT := Lib.hid hT
      go_wp2_with (at_range; go_loud (refine wpList_range_X (M := ivB) _ rfl _ rfl b ks.length f rfl hO1.1 ?_; intro w6 hr6 hg6 hs6))
      go_frame
      have hN6 := hN1.out.grown hg6 (by simp)
      have hE6 : Ext wr w6 := hE1.grown hg6 fun k e => by cases e
      have hrr : (wr.alloc (.map #[] 0)).heap.size = wr.heap.size + 1 := by simp
      rw [hrr] at hr6
      rw [hrr]
      clear hN1 hg6 hs6 hO hO1 hE1 hrr
      replace hr6 := Lib.hid hr6
      replace hN6 := Lib.hid hN6
      replace hE6 := Lib.hid hE6
      obtain ⟨wo, rfl⟩ : ∃ wo, wo = wr := ⟨wr, rfl⟩
      go_loopw [] (fun wr' => ∃ (seen : List I4) (cnt : Nat) (ns : List I4) (nf : I4 → Option Bool), RngX ivB wr' b (wo.heap.size + 1) ks.length f seen cnt ∧ OwnL ivB wr' wo.heap.size ns nf ∧ ns.length ≤ 1000 * seen.length ∧ NextT r seen zeroI 0 nf ∧ Ext wo wr') (fun wr' => wr'.rangeLeft b (wo.heap.size + 1))
      case atStart => exact ⟨[], ks.length, [], _, hr6.out, hN6.out, by simp, NextT.none r, hE6.out⟩
      case round =>
        clear hr6 hN6 hE6
        obtain ⟨seen, cnt, ns, nf, hR, hN, hns, hnx, hE⟩ := hrel
        obtain ⟨hoks, hcn⟩ := hR.oks
        have hbne : b ≠ wo.heap.size := by omega
        go_wp2_with (at_next; go_loud (refine wpList_next_X (M := ivB) _ rfl _ rfl boolRd_shape datB_inj b (wo.heap.size + 1) ks.length f seen cnt rfl hR ?_ ?_))
        · intro hc0 hall
          have hTn := hnx.tells hr hT.out hall hoks
          have hvbE := Nat.lt_of_lt_of_le hvb hE.size
          by_cases hbig : 20000 < ns.length
          · have hbI : (20000 : Int) < ns.length := by omega
            go_wp2_with (at_len; go_loud (refine wpList_len_X (M := ivB) rfl _ rfl wo.heap.size ns.length nf rfl hN.1 ?_))
            go_ret2
            refine ⟨he.trans hE, .inr ⟨rfl, k + 1, ns, hlt, hN.2.1, fun x hx => ?_, hbig⟩⟩
            rcases (hTn x).2 with h1 | h1
            · exact (hTn x).1.1 h1
            · have := (hN.2.2.1 x).1 hx; rw [h1] at this; cases this
          · have hbI : ¬ (20000 : Int) < ns.length := by omega
            have hEa : Ext wr (wr.alloc (.cells #[.map (some wo.heap.size)] 97)) := (Ext.refl _).alloc _
            have hM5 := (hM.out.ext hE).ext hEa
            have hN5 := hN.ext hEa
            have hBl : w.heap.size ≤ (wr.alloc (.cells #[.map (some wo.heap.size)] 97)).heap.size := ((he.trans hE).trans hEa).size
            have hEf := (he.trans hE).trans hEa
            replace hM5 := Lib.hid hM5
            replace hEf := Lib.hid hEf
            replace hTn := Lib.hid hTn
            clear hall hEa
            go_wp2_with (first
              | (at_len; go_loud (refine wpList_len_X (M := ivB) rfl _ rfl wo.heap.size ns.length nf rfl hN.1 ?_))
              | (at_builtin; go_loud (refine wp_appL _ (.tmp 52) (.tmp 54) 74 97 1 8 (.map none) rfl rfl Tryz.underlying74 mapBInfo rfl (by decide) (by decide) w.heap.size (some ⟨vb, 0, none⟩) (k + 1) vc vs rfl hM5.out.row wr.heap.size [.map (some wo.heap.size)] rfl rfl (Blk.new' rfl) (by simp [Value.oneCell']) (by omega) hBl ?_; intro vb' vc' w8 hown8 hgrow8 _)))
            go_roundw
            case rel => exact ⟨k + 1, vb', vc', _, by go_num, rfl, by omega, hM5.out.app hgrow8 hN5 hTn.out (by omega) hown8, hEf.out.grown hgrow8 fun j e => by cases e; exact ((hM5.out.row.lt vb rfl).1)⟩
            case measure => simp [intOf]; omega
        · intro i u w7 cnt2 hio his hin hrg2 hlt2 hg2 hs2 hen
          rw [show ivB.kv i = Value.agg #[.int .i64 i.a, .int .i64 i.b, .int .i64 i.c, .int .i64 i.d] from rfl] at hen ⊢
          have hRl0 := hR.left_eq
          have hN7 := hN.grown hg2 (by simp)
          have hE7 : Ext wo w7 := hE.grown hg2 fun k e => by cases e; exact Nat.le_succ _
          have hE8 : Ext w7 (w7.alloc (.cells #[.int .i64 i.a, .int .i64 i.b, .int .i64 i.c, .int .i64 i.d] 27)) := (Ext.refl _).alloc _
          have hX8 : Blk (w7.alloc (.cells #[.int .i64 i.a, .int .i64 i.b, .int .i64 i.c, .int .i64 i.d] 27)) w7.heap.size 27 #[.int .i64 i.a, .int .i64 i.b, .int .i64 i.c, .int .i64 i.d] := Blk.new' rfl
          have hR8 := hrg2.ext hE8
          have hN8 := hN7.ext hE8
          have hEo8 := hE7.trans hE8
          replace hR8 := Lib.hid hR8
          replace hN8 := Lib.hid hN8
          replace hEo8 := Lib.hid hEo8
          replace hX8 := Lib.hid hX8
          have hgXl : wo.heap.size < w7.heap.size := hrg2.lt.1 |> fun h => by omega
          have hsn : (seen ++ [i]).length = seen.length + 1 := by simp
          have hcn2 := hrg2.oks.2
          rw [hsn] at hcn2
          clear hR hN hE hg2 hs2 hN7 hE7 hE8 hrg2
          go_upto_region 9 with fail
          generalize w7.alloc (.cells #[.int .i64 i.a, .int .i64 i.b, .int .i64 i.c, .int .i64 i.d] 27) = W8 at *
          generalize w7.heap.size = gX at *
          clear hen
          go_wp2
          go_loopw [36] (fun v36 wr' => ∃ (j : Nat) (ns : List I4) (nf : I4 → Option Bool), v36 = .int .i64 j ∧ j ≤ r.length ∧ RngX ivB wr' b (wo.heap.size + 1) ks.length f (seen ++ [i]) cnt2 ∧ OwnL ivB wr' wo.heap.size ns nf ∧ ns.length ≤ 1000 * seen.length + j ∧ NextT r seen i j nf ∧ Ext wo wr' ∧ wo.heap.size < gX ∧
            Blk wr' gX 27 #[.int .i64 i.a, .int .i64 i.b, .int .i64 i.c, .int .i64 i.d]) (fun v36 _ => r.length - (intOf v36).toNat)
          case atStart => exact ⟨0, ns, nf, rfl, Nat.zero_le _, hR8.out, hN8.out, by omega, hnx.start i, hEo8.out, hgXl, hX8.out⟩
          case round =>
            clear hR8 hN8 hEo8 hX8 hnx hns
            obtain ⟨j, ns, nf, rfl, hj, hR, hN, hns, hnx, hE, hgXl, hX⟩ := hrel
            by_cases hlj : j < r.length
            · obtain ⟨cc, hcc⟩ := getD_some (rfl : r.length = r.length) hlj
              obtain ⟨-, ⟨_, e9⟩ | ⟨qb, qoff, rfl, hqb, hEl⟩⟩ := slcC hSr
              · rw [e9] at hcc; cases hcc
              obtain ⟨c1, c2, c3, c4⟩ := (hEl.ext hE hqb).iv hcc
              have hqbl := Nat.lt_of_lt_of_le hqb hE.size
              have hljI : (j : Int) < r.length := by omega
              obtain ⟨x1, -⟩ := hX.walk
              have hXl := hX.lt
              have hgood := fun h => hnx.good hcc h
              have hbad := fun h => hnx.bad hcc h
              obtain ⟨x, hx⟩ : ∃ x, addI i cc = x := ⟨_, rfl⟩
              have hsum := fun u => sum_any i cc u
              rw [hx] at hsum hgood hbad
              have hchk := fun u => checkInterval_any x u
              replace hsum := Lib.hid hsum
              replace hchk := Lib.hid hchk
              replace hgood := Lib.hid hgood
              replace hbad := Lib.hid hbad
              replace hR := Lib.hid hR
              replace hN := Lib.hid hN
              replace hX := Lib.hid hX
              clear hx hcc hnx
              cases hrx : rightB x
              · have hF : faultI x = 1 := by unfold faultI; rw [hrx]; rfl
                replace hrx := Lib.hid hrx
                go_wp2_with (first
                  | (go_at_call 33; (with_reducible refine Calls.mono (hsum.out _) ?_); rintro e w9 ⟨rfl, hb9⟩)
                  | (go_at_call 29; (with_reducible refine Calls.mono (hchk.out _) ?_); rintro e w10 ⟨rfl, hb10⟩))
                have hEz : Ext wr w10 := ((((Ext.refl wr).alloc _).trans hb9).alloc _).trans hb10
                go_roundw
                case rel => exact ⟨j + 1, ns, nf, by go_num, by omega, hR.out.ext hEz, hN.out.ext hEz, by omega, hbad.out hrx.out, hE.trans hEz, hgXl, hX.out.ext hEz⟩
                case measure => simp [intOf]; omega
              · have hF : faultI x = 0 := by unfold faultI; rw [hrx]; rfl
                replace hrx := Lib.hid hrx
                go_upto_region 14 with (first
                  | (go_at_call 33; (with_reducible refine Calls.mono (hsum.out _) ?_); rintro e w9 ⟨rfl, hb9⟩)
                  | (go_at_call 29; (with_reducible refine Calls.mono (hchk.out _) ?_); rintro e w10 ⟨rfl, hb10⟩))
                have hEz : Ext wr w10 := ((((Ext.refl wr).alloc _).trans hb9).alloc _).trans hb10
                have hY : Blk w10 w9.heap.size 27 #[.int .i64 x.a, .int .i64 x.b, .int .i64 x.c, .int .i64 x.d] := (Blk.new' rfl).ext hb10
                obtain ⟨y1, -⟩ := hY.walk
                have hYl := hY.lt
                have hRz := hR.out.ext hEz
                have hXz := hX.out.ext hEz
                obtain ⟨w12, ks2, hrun0, hN12, hg12, hk1, hk2⟩ := (hN.out.ext hEz).put (k := x) (okK_right hrx.out) (by omega) true
                have hrun : (Instr.mapUpdate 97 (.map (some wo.heap.size)) (.agg #[.int .i64 x.a, .int .i64 x.b, .int .i64 x.c, .int .i64 x.d]) (.bool true)).run Tryz.prog w10 = .ok () w12 := hrun0
                have hR12 := hRz.kept hg12 (by simp; omega) (by simp)
                have hX12 : Blk w12 gX 27 #[.int .i64 i.a, .int .i64 i.b, .int .i64 i.c, .int .i64 i.d] := (hg12.block gX hXz.lt fun e => by cases e; omega).trans hXz
                have hE12 := (hE.trans hEz).grown hg12 fun j e => by cases e; exact Nat.le_refl _
                replace hN12 := Lib.hid hN12
                replace hR12 := Lib.hid hR12
                clear hrun0 hR hN hX hRz hXz hEz hb9 hb10 hg12
                go_wp2_with (refine wpList_putM rfl _ _ _ 97 rfl (.map (some wo.heap.size)) (.agg #[.int .i64 x.a, .int .i64 x.b, .int .i64 x.c, .int .i64 x.d]) (.bool true) rfl rfl rfl w12 hrun ?_)
                go_roundw
                case rel => exact ⟨j + 1, ks2, _, by go_num, by omega, hR12.out, hN12.out, by omega, hgood.out hrx.out, hE12, hgXl, hX12⟩
                case measure => simp [intOf]; omega
            · obtain rfl : j = r.length := by omega
              have hRl := hR.left_eq
              go_wp2
              go_roundw
              case rel => exact ⟨seen ++ [i], cnt2, ns, nf, hR, hN, by rw [hsn]; omega, hnx.done, hE⟩
              case measure => omega
    · obtain rfl : k = m := by omega
      go_wp2
      go_ret2
      exact ⟨he, .inl ⟨vb, vc, vs, rfl, hM⟩⟩
end Go.Proofs.YtapjekpjekdlkaaGreatDoor
