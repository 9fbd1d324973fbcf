/- What is wrong with an order of sections, by both texts: the walks. Conditions: names lie in memory. No stands hide fewer than the best ones; rows by height are right stands: plain mathematics. Conditions: as each theorem says. Rows by sections are right stands of all people; with one section they are rows by height: plain mathematics. Conditions: as each theorem says. Rows by sections: right stands of all people; by one section they are rows by height. Plain mathematics. Conditions: as each theorem says. -/
import Derived.Test.YtdehmioobkneiaaGreatDoorTdRoI
import Derived.Test.YtdehmioobkneiaaGreatDoorTdJ39
import Derived.Test.YtdehmioobkneiaaGreatDoorTdJ5
import Derived.Test.YtdehmioobkneiaaGreatDoorTdJ34
set_option linter.unusedSimpArgs false
set_option linter.unusedVariables false
namespace Go.Proofs.YtdehmioobkneiaaGreatDoor
open Go Go.RowKit
def chkOrd (O : List ByteArray) (i : Nat) : Int := if keyB (atL default O i) then (if inN (O.take i) (atL default O i) then 6 else 0) else 5
def orderF (O : List ByteArray) : Int := if 20 < O.length then 2 else scanF O.length (chkOrd O)
theorem orderF_ok {O : List ByteArray} (h : orderF O = 0) : O.length ≤ 20 ∧ O.Nodup := by
  unfold orderF at h
  by_cases hl : 20 < O.length
  · rw [if_pos hl] at h; cases h
  rw [if_neg hl] at h
  have hz := scan_all h
  refine ⟨by omega, ?_⟩
  have hat : ∀ (i : Nat) (x : ByteArray), O[i]? = some x → x ∉ O.take i := by
    intro i x hx
    have h4 := hz i (List.getElem?_eq_some_iff.1 hx).1
    unfold chkOrd at h4
    rw [atL_of hx] at h4
    cases k0 : keyB x
    · rw [k0] at h4; simp at h4
    cases k1 : inN (O.take i) x
    · exact inN_false.1 k1
    · rw [k0, k1] at h4; simp at h4
  rw [List.nodup_iff_pairwise_ne, List.pairwise_iff_getElem]
  intro i j hi hj hij e
  refine hat j O[j] (List.getElem?_eq_getElem hj) ?_
  rw [← e]
  exact List.mem_of_getElem? (i := i) (by rw [List.getElem?_take_of_lt hij, List.getElem?_eq_getElem hi])
set_option maxRecDepth 100000 in
set_option maxHeartbeats 3200000 in
theorem orderFault_any {gp : Option Addr} {gc : Nat} {O : List ByteArray} {w : World} (hG : Slc 1 strC w gp O.length gc O) (hGl : O.length ≤ 1000) (hsz : ∀ x ∈ O, x.size ≤ 1000) :
    Calls Tryz.prog 35 #[.slice gp O.length gc] w fun e w' => e = .returned (.int .i64 (orderF O)) ∧ Ext w w' := by
  by_cases hl : 20 < O.length
  · have hF : orderF O = 2 := by unfold orderF; rw [if_pos hl]
    have hlI : (20 : Int) < O.length := by omega
    rw [hF]
    clear hF hsz
    go_enter Tryz.func35, Tryz.ntmps35
    go_wp2
    go_ret
    exact ⟨rfl, Ext.refl _⟩
  have hF : orderF O = scanF O.length (chkOrd O) := by unfold orderF; rw [if_neg hl]
  have hlI : ¬ (20 : Int) < O.length := by omega
  replace hF := Lib.hid hF
  go_enter Tryz.func35, Tryz.ntmps35
  go_wp2
  go_loopw [10] (fun v10 wr => ∃ k : Nat, v10 = .int .i64 k ∧ k ≤ O.length ∧ Zeros (chkOrd O) k ∧ Ext w wr) (fun v10 _ => O.length - (intOf v10).toNat)
  case atStart => exact ⟨0, rfl, Nat.zero_le _, (fun j hj => by omega), Ext.refl _⟩
  case round =>
    obtain ⟨k, rfl, hk, hz, hE⟩ := hrel
    by_cases hlt : k < O.length
    · obtain ⟨x, hx⟩ := getD_some (rfl : O.length = O.length) hlt
      have hxs := hsz x (List.mem_of_getElem? hx)
      have hat : chkOrd O k = if keyB x then (if inN (O.take k) x then 6 else 0) else 5 := by unfold chkOrd; rw [atL_of hx]
      have hgc := hG.2.1
      rcases (slcC hG).2 with ⟨-, e⟩ | ⟨gb, go, rfl, hgb, hgE⟩
      · rw [e] at hx; cases hx
      have c0 := (hgE.ext hE hgb).str hx
      have hbl := Nat.lt_of_lt_of_le hgb hE.size
      have hkI : (k : Int) < O.length := by omega
      cases hm : keyB x
      · rw [hm] at hat
        have hsc : (5 : Int) = scanF O.length (chkOrd O) := scan_is hz hlt hat (by omega)
        have hke := isKey_is hm (by omega) wr
        replace hsc := Lib.hid hsc; replace hke := Lib.hid hke; clear hgE hx hat hz hm
        go_wp2_with (go_at_call 80; (with_reducible refine Calls.mono hke.out ?_); rintro e w1 ⟨rfl, hb1⟩)
        go_ret
        exact ⟨(by rw [hF.out, ← hsc.out]; try rfl), hE.trans hb1⟩
      · rw [hm] at hat
        have hke := isKey_is hm (by omega) wr
        have hct := fun u (hu : Ext wr u) v (hv : inN (O.take k) x = v) => containsS_take (some ⟨gb, go, none⟩) O.length gc O x u ((hG.ext hE).ext hu) (by omega) hk hv
        replace hct := Lib.hid hct; replace hke := Lib.hid hke; clear hgE hx hm
        have hkc : (k : Int) ≤ gc := by omega
        cases hd : inN (O.take k) x
        · rw [hd] at hat
          have hz2 := hz.succ hat
          replace hz2 := Lib.hid hz2; clear hz hat
          go_wp2_with (first
            | (go_at_call 80; (with_reducible refine Calls.mono hke.out ?_); rintro e w1 ⟨rfl, hb1⟩)
            | (go_at_call 81; (with_reducible refine Calls.mono (hct.out _ hb1 _ hd) ?_); rintro e w2 ⟨rfl, hb2⟩))
          go_roundw
          case rel => exact ⟨k + 1, by go_num, by omega, hz2.out, (hE.trans hb1).trans hb2⟩
          case measure => simp [intOf]; omega
        · rw [hd] at hat
          have hsc : (6 : Int) = scanF O.length (chkOrd O) := scan_is hz hlt hat (by omega)
          replace hsc := Lib.hid hsc; clear hz hat
          go_wp2_with (first
            | (go_at_call 80; (with_reducible refine Calls.mono hke.out ?_); rintro e w1 ⟨rfl, hb1⟩)
            | (go_at_call 81; (with_reducible refine Calls.mono (hct.out _ hb1 _ hd) ?_); rintro e w2 ⟨rfl, hb2⟩))
          go_ret
          exact ⟨(by rw [hF.out, ← hsc.out]; try rfl), (hE.trans hb1).trans hb2⟩
    · obtain rfl : k = O.length := by omega
      have hsc : scanF O.length (chkOrd O) = 0 := scan_zero hz
      replace hsc := Lib.hid hsc
      go_wp2
      go_ret
      exact ⟨(by rw [hF.out, hsc.out]; try rfl), hE⟩
end Go.Proofs.YtdehmioobkneiaaGreatDoor
namespace Go.Proofs.YtdehmioobkneiaaGreatDoor
open Go Go.RowKit
section
variable {P : List PersonV} {wide high : List Int} {all : List StandV}
end
/-- A place of the stage. -/
def OnP (wide : List Int) (x : StandV) : Prop := (0 ≤ x.row ∧ x.row ≤ wide.length - 1) ∧ 0 ≤ x.place ∧ x.place ≤ wide.getD x.row.toNat 0 - 1
theorem hasP_of {P : List PersonV} {x : PersonV} (h : x ∈ P) : hasP P x.name = true := by
  unfold hasP
  rw [List.any_eq_true]
  exact ⟨x, h, by simp⟩
theorem people_names {P : List PersonV} (h : PeopleOk P) : (P.map (·.name)).Nodup := by
  rw [List.nodup_iff_pairwise_ne, List.pairwise_map, List.pairwise_iff_getElem]
  intro i j hi hj hij e
  have := h.less (List.getElem?_eq_getElem hi) (List.getElem?_eq_getElem hj) hij
  rw [e, cmpS_refl] at this
  cases this
/-! ### rows by height -/
theorem leftN_sum {wide : List Int} (hwo : WideOk wide) (n : Nat) : ∀ r, r ≤ wide.length → (leftN wide n r : Int) = max 0 (n - sumT wide r)
  | 0, _ => by simp [leftN, sumT]
  | r + 1, hr => by
    have ih := leftN_sum hwo n r (by omega)
    obtain ⟨v, hv⟩ := getD_some (rfl : wide.length = wide.length) (show r < wide.length by omega)
    obtain ⟨v1, v2⟩ := hwo.2 v (List.mem_of_getElem? hv)
    have e : wide.getD r 0 = v := by rw [List.getD_eq_getElem?_getD, hv]; rfl
    rw [leftN_succ, sumT_succ hv]
    unfold takeN
    rw [e]
    omega
theorem rowP_on {wide : List Int} {r : Nat} {Q : List PersonV} {x : StandV} (hr : r < wide.length) (hq : Q.length ≤ (wide.getD r 0).toNat) (h : x ∈ rowP wide r Q) : OnP wide x ∧ x.row = r := by
  obtain ⟨i, y, hy, rfl⟩ := rowP_mem h
  have hi := (List.getElem?_eq_some_iff.1 hy).1
  refine ⟨⟨⟨?_, ?_⟩, ?_, ?_⟩, rfl⟩
  · show (0 : Int) ≤ r; omega
  · show (r : Int) ≤ wide.length - 1; omega
  · show (0 : Int) ≤ (wide.getD r 0 - Q.length) / 2 + i; omega
  · show (wide.getD r 0 - Q.length) / 2 + i ≤ wide.getD r 0 - 1; omega
theorem rowP_lt (wide : List Int) (r : Nat) (Q : List PersonV) : (rowP wide r Q).Pairwise (fun a b => ltV a b = true) := by
  unfold rowP
  rw [List.pairwise_map]
  exact (List.pairwise_lt_range).imp fun {a b} h => by simp [ltV]; omega
end Go.Proofs.YtdehmioobkneiaaGreatDoor
namespace Go.Proofs.YtdehmioobkneiaaGreatDoor
open Go Go.RowKit
/-- As long as places are left all who are left have been taken. -/
theorem ovT_all {Lf C : List Int} {ov : Int} (h0 : 0 ≤ ov) (hl : C.length = Lf.length) (hC : ∀ (k : Nat) (c : Int), C[k]? = some c → 0 ≤ c ∧ ∃ y : Int, Lf[k]? = some y ∧ c ≤ y) : ∀ k, k ≤ C.length → ovT Lf C ov k = 0 ∨ ((shL Lf C ov).take k).sum = (Lf.take k).sum
  | 0, _ => .inr (by simp)
  | k + 1, hk => by
    obtain ⟨c, hc⟩ := getD_some (rfl : C.length = C.length) (show k < C.length by omega)
    obtain ⟨c0, y, hy, hcy⟩ := hC k c hc
    obtain ⟨m0, m1, m2⟩ := mT_ok h0 hl hC hc hy
    have ho := (ovT_ok h0 hl hC k (by omega)).1
    rw [ovT_succ, sum_snoc (shL_at hc), sum_snoc hy]
    rcases ovT_all h0 hl hC k (by omega) with h | h
    · left; omega
    · by_cases hz : ovT Lf C ov k - mT Lf C ov k = 0
      · exact .inl hz
      · right; omega
theorem ShOk.full {n : Int} {A Lf : List Int} (h : ShOk n A Lf) (hn : n ≤ Lf.sum) : (shrL n A Lf).sum = n := by
  obtain ⟨c1, c2, c3⟩ := h.cap
  have h1 := ovT_all (Lf := Lf) (C := capL (partsL n A) Lf) c2 c1 c3 (capL (partsL n A) Lf).length (Nat.le_refl _)
  have h2 := (ovT_ok (Lf := Lf) (C := capL (partsL n A) Lf) c2 c1 c3 (capL (partsL n A) Lf).length (Nat.le_refl _))
  have e1 : (shL Lf (capL (partsL n A) Lf) (n - (capL (partsL n A) Lf).sum)).take (capL (partsL n A) Lf).length = shrL n A Lf := List.take_of_length_le (by rw [shL_len]; exact Nat.le_refl _)
  have e2 : Lf.take (capL (partsL n A) Lf).length = Lf := List.take_of_length_le (by omega)
  have e3 : (capL (partsL n A) Lf).take (capL (partsL n A) Lf).length = capL (partsL n A) Lf := List.take_length
  rw [e1, e2] at h1
  rw [e1, e3] at h2
  obtain ⟨h3, h4, h5⟩ := h2
  rcases h1 with h1 | h1 <;> omega
/-- Those who are left behind a row. -/
theorem next_sum {G : List (List PersonV)} {T : List Int} (hl : T.length = G.length) (hT : ∀ (k : Nat) (s : Int), T[k]? = some s → 0 ≤ s ∧ ∃ y : Int, (lensL G)[k]? = some y ∧ s ≤ y) : ∀ k, k ≤ G.length → ((lensL (nextG G T)).take k).sum = ((lensL G).take k).sum - (T.take k).sum
  | 0, _ => by simp
  | k + 1, hk => by
    have ih := next_sum hl hT k (by omega)
    obtain ⟨g, hg⟩ := getD_some (rfl : G.length = G.length) (show k < G.length by omega)
    obtain ⟨t, ht⟩ := getD_some hl (show k < G.length by omega)
    obtain ⟨t0, y, hy, hty⟩ := hT k t ht
    rw [lensL_at hg] at hy
    have e : (g.length : Int) = y := by simpa using hy
    rw [sum_snoc (lensL_at (nextG_at hg ht)), sum_snoc (lensL_at hg), sum_snoc ht, ih, List.length_drop]
    omega
theorem head_next {G : List (List PersonV)} {T : List Int} (hl : T.length = G.length) : ∀ k, k ≤ G.length → (headG G T k ++ ((nextG G T).take k ++ G.drop k).flatten).Perm G.flatten
  | 0, _ => by simp [headG]
  | k + 1, hk => by
    have ih := head_next (G := G) (T := T) hl k (by omega)
    obtain ⟨g, hg⟩ := getD_some (rfl : G.length = G.length) (show k < G.length by omega)
    obtain ⟨t, ht⟩ := getD_some hl (show k < G.length by omega)
    have hd : G.drop k = g :: G.drop (k + 1) := by
      rw [List.drop_eq_getElem_cons (show k < G.length by omega)]
      congr 1
      have := (List.getElem?_eq_some_iff.1 hg).2
      exact this
    rw [headG_succ hg ht, take_snocL (nextG_at hg ht)]
    refine List.Perm.trans ?_ ih
    rw [hd]
    simp only [List.flatten_append, List.flatten_cons, List.flatten_nil, List.append_nil, List.append_assoc]
    refine List.Perm.append_left _ ?_
    have e : g ++ (G.drop (k + 1)).flatten = g.take t.toNat ++ (g.drop t.toNat ++ (G.drop (k + 1)).flatten) := by rw [← List.append_assoc, List.take_append_drop]
    rw [e]
    exact List.perm_append_comm_assoc _ _ _
section
variable {wide : List Int} {n : Nat} {A : List Int} {G0 : List (List PersonV)}
/-- All who should stand in row r stand there. -/
theorem sec_all (hok : SecOk A G0) (hs : (lensL G0).sum = n) : ∀ r, (lensL (secG wide n A G0 r)).sum = leftN wide n r ∧ (∀ q, q < r → (secQ wide n A G0 q).length = takeN wide n q) ∧ (((List.range r).flatMap fun q => secQ wide n A G0 q) ++ (secG wide n A G0 r).flatten).Perm G0.flatten
  | 0 => ⟨hs, fun q hq => by omega, by simp [secG]⟩
  | r + 1 => by
    obtain ⟨i1, i2, i3⟩ := sec_all hok hs r
    have htk := takeN_le wide n r
    have hgl := secG_len wide n A G0 r
    -- this row
    have key : (lensL (secG wide n A G0 (r + 1))).sum = leftN wide n (r + 1) ∧ (secQ wide n A G0 r).length = takeN wide n r ∧ (secQ wide n A G0 r ++ (secG wide n A G0 (r + 1)).flatten).Perm (secG wide n A G0 r).flatten := by
      by_cases h0 : takeN wide n r = 0
      · have hT : secT wide n A G0 r = [] := by unfold secT; rw [if_pos h0]
        have hn : secG wide n A G0 (r + 1) = secG wide n A G0 r := by
          rw [secG_succ, hT]
          unfold nextG
          apply List.ext_getElem
          · simp
          · intro i h1 h2
            simp [h2]
        rw [hn, secQ_zero h0, leftN_succ, h0, i1]
        exact ⟨by simp, by simp, by simp⟩
      · have hsh := hok.sh (wide := wide) (n := n) r
        obtain ⟨s1, s2, s3⟩ := hsh.sh
        have hT : secT wide n A G0 r = shrL (takeN wide n r) A (lensL (secG wide n A G0 r)) := by unfold secT; rw [if_neg h0]
        have hfull := hsh.full (by rw [i1]; omega)
        have hl : (secT wide n A G0 r).length = (secG wide n A G0 r).length := by rw [hT, s1, hgl, hok.len]
        rw [← hT] at hfull s3
        have hn := next_sum hl s3 _ (Nat.le_refl _)
        have hh := headG_len hl s3 _ (Nat.le_refl _)
        have hp := head_next (T := secT wide n A G0 r) hl _ (Nat.le_refl _)
        have e1 : (secT wide n A G0 r).take (secG wide n A G0 r).length = secT wide n A G0 r := List.take_of_length_le (by omega)
        have e2 : (lensL (secG wide n A G0 r)).take (secG wide n A G0 r).length = lensL (secG wide n A G0 r) := List.take_of_length_le (by rw [lensL_len]; exact Nat.le_refl _)
        have e3 : (lensL (nextG (secG wide n A G0 r) (secT wide n A G0 r))).take (secG wide n A G0 r).length = lensL (nextG (secG wide n A G0 r) (secT wide n A G0 r)) := List.take_of_length_le (by rw [lensL_len, nextG_len]; exact Nat.le_refl _)
        have e4 : (nextG (secG wide n A G0 r) (secT wide n A G0 r)).take (secG wide n A G0 r).length = nextG (secG wide n A G0 r) (secT wide n A G0 r) := List.take_of_length_le (by rw [nextG_len]; exact Nat.le_refl _)
        rw [e1, e2, e3, hfull, i1] at hn
        rw [e1, hfull] at hh
        rw [e4, List.drop_length, List.append_nil] at hp
        have hq : secQ wide n A G0 r = headG (secG wide n A G0 r) (secT wide n A G0 r) (secG wide n A G0 r).length := by unfold secQ; rw [hgl]
        rw [hq, secG_succ, leftN_succ]
        exact ⟨by omega, by omega, hp⟩
    obtain ⟨k1, k2, k3⟩ := key
    refine ⟨k1, fun q hq => ?_, ?_⟩
    · rcases Nat.lt_or_ge q r with h | h
      · exact i2 q h
      · obtain rfl : q = r := by omega
        exact k2
    · rw [List.range_succ, List.flatMap_append, List.append_assoc]
      simp only [List.flatMap_cons, List.flatMap_nil, List.append_nil]
      exact (List.Perm.append_left _ k3).trans i3
theorem bsL_on (hok : SecOk A G0) {r : Nat} (hr : r ≤ wide.length) {x : StandV} (h : x ∈ bsL wide n A G0 r) : OnP wide x := by
  unfold bsL at h
  obtain ⟨k, hk, hx⟩ := List.mem_flatMap.1 h
  have hk := List.mem_range.1 hk
  have h1 := hok.q_len (wide := wide) (n := n) k
  have h2 := takeN_wide wide n k
  exact (rowP_on (by omega) (by omega) hx).1
theorem bsL_lt (hok : SecOk A G0) {r : Nat} (hr : r ≤ wide.length) : (bsL wide n A G0 r).Pairwise (fun a b => ltV a b = true) := by
  unfold bsL
  rw [List.pairwise_flatMap]
  refine ⟨fun k _ => rowP_lt wide k _, ?_⟩
  rw [List.pairwise_iff_getElem]
  intro i j hi hj hij
  simp only [List.length_range] at hi hj
  simp only [List.getElem_range]
  intro x hx y hy
  have hq := fun k => hok.q_len (wide := wide) (n := n) k
  have ht := fun k => takeN_wide wide n k
  have a1 := hq i
  have a2 := ht i
  have a3 := hq j
  have a4 := ht j
  have h1 := (rowP_on (by omega) (by omega) hx).2
  have h2 := (rowP_on (by omega) (by omega) hy).2
  simp [ltV]
  omega
theorem rowP_names (wide : List Int) (r : Nat) (Q : List PersonV) : (rowP wide r Q).map (·.name) = Q.map (·.name) := by
  apply List.ext_getElem
  · simp [rowP_len]
  · intro i h1 h2
    have hi : i < Q.length := by simpa using h2
    have h3 := rowP_at (wide := wide) (r := r) (List.getElem?_eq_getElem hi)
    have h4 := (List.getElem?_eq_some_iff.1 h3).2
    simp [h4]
theorem bsL_names (wide : List Int) (n : Nat) (A : List Int) (G0 : List (List PersonV)) (r : Nat) : (bsL wide n A G0 r).map (·.name) = ((List.range r).flatMap fun q => secQ wide n A G0 q).map (·.name) := by
  unfold bsL
  rw [List.map_flatMap, List.map_flatMap]
  congr 1
  funext q
  exact rowP_names wide q _
end
end Go.Proofs.YtdehmioobkneiaaGreatDoor
namespace Go.Proofs.YtdehmioobkneiaaGreatDoor
open Go Go.RowKit
theorem flat_set {G : List (List PersonV)} {i : Nat} {g : List PersonV} (x : PersonV) (h : G[i]? = some g) : (G.set i (g ++ [x])).flatten.Perm (G.flatten ++ [x]) := by
  induction G generalizing i with
  | nil => cases h
  | cons a G ih =>
    cases i with
    | zero =>
      have e : a = g := by simpa using h
      subst e
      simp only [sCZ, List.flatten_cons, List.append_assoc]
      refine List.Perm.append_left _ ?_
      exact List.perm_append_comm
    | succ i =>
      have := ih (i := i) (by simpa using h)
      simp only [sCS, List.flatten_cons, List.append_assoc]
      exact List.Perm.append_left _ this
theorem grps_flat {O : List ByteArray} (hn : O.Nodup) {M : List PersonV} (hM : ∀ x ∈ M, x.sect ∈ O) : ∀ j, j ≤ M.length → (grpsL O (M.take j)).flatten.Perm (M.take j)
  | 0, _ => by
    rw [List.take_zero, grps_nil]
    have : ∀ k : Nat, (List.replicate k ([] : List PersonV)).flatten = [] := fun k => by simp
    rw [this]
  | j + 1, hj => by
    have ih := grps_flat hn hM j (by omega)
    obtain ⟨x, hx⟩ := getD_some (rfl : M.length = M.length) (show j < M.length by omega)
    obtain ⟨i, hil, hi⟩ := List.getElem_of_mem (hM x (List.mem_of_getElem? hx))
    have hi2 : O[i]? = some x.sect := by rw [List.getElem?_eq_getElem hil, hi]
    obtain ⟨g1, g2⟩ := grps_snoc hn hx hi2
    rw [g1, take_snocL hx]
    exact (flat_set x g2).trans (ih.append_right _)
theorem flat_empty {G : List (List PersonV)} (h : (lensL G).sum = 0) : G.flatten = [] := by
  rw [List.flatten_eq_nil_iff]
  intro g hg
  have := (mem_le_sum (lensL_nonneg G) (List.mem_map.2 ⟨g, hg, rfl⟩)).1
  exact List.eq_nil_of_length_eq_zero (by omega)
theorem full_left {P M : List PersonV} {wide : List Int} (hwo : WideOk wide) (hf : fullF P wide = 0) (hM : ByH P M) : leftN wide M.length wide.length = 0 := by
  have hml := hM.1.length_eq
  have h1 := leftN_sum hwo M.length wide.length (Nat.le_refl _)
  unfold fullF at hf
  split at hf
  · cases hf
  · omega
theorem bs_right {P M : List PersonV} {wide high : List Int} {O : List ByteArray} (h0 : ostF P wide high = 0) (hok : PeopleOk P) (hwo : WideOk wide) (hf : fullF P wide = 0) (hM : ByH P M) (hn : O.Nodup) (hc : ∀ x ∈ P, x.sect ∈ O) :
    (bsL wide M.length (lensL (grpsL O M)) (grpsL O M) wide.length).length = P.length ∧ standsF P wide high (bsL wide M.length (lensL (grpsL O M)) (grpsL O M) wide.length) = 0 := by
  have hml := hM.1.length_eq
  have hcM : ∀ x ∈ M, x.sect ∈ O := fun x hx => hc x (hM.1.subset hx)
  have hsum := grps_sum hn hcM M.length (Nat.le_refl _)
  have hflat := grps_flat hn hcM M.length (Nat.le_refl _)
  rw [List.take_length] at hsum hflat
  by_cases hm0 : M.length = 0
  · have := bsL_bound (A := lensL (grpsL O M)) (G0 := grpsL O M) hwo (n := M.length) (fun h => absurd hm0 h) wide.length
    have e : bsL wide M.length (lensL (grpsL O M)) (grpsL O M) wide.length = [] := List.eq_nil_of_length_eq_zero (by omega)
    rw [e]
    exact ⟨by simp; omega, standsF_mk h0 (by simp) (fun x hx => by cases hx) List.Pairwise.nil List.Pairwise.nil⟩
  · have hsk : SecOk (lensL (grpsL O M)) (grpsL O M) := ⟨lensL_nonneg _, by omega, by rw [lensL_len]⟩
    obtain ⟨i1, i2, i3⟩ := sec_all (wide := wide) hsk hsum wide.length
    rw [full_left hwo hf hM] at i1
    rw [flat_empty i1, List.append_nil] at i3
    have hp := i3.trans hflat
    have hnm := bsL_names wide M.length (lensL (grpsL O M)) (grpsL O M) wide.length
    have hpn := hp.map (·.name)
    rw [← hnm] at hpn
    have hlt := bsL_lt (wide := wide) (n := M.length) hsk (Nat.le_refl _)
    have hon := fun x hx => bsL_on (wide := wide) (n := M.length) hsk (Nat.le_refl _) (x := x) hx
    have hlen : (bsL wide M.length (lensL (grpsL O M)) (grpsL O M) wide.length).length = M.length := by simpa using hpn.length_eq
    have hnd : (namesS (bsL wide M.length (lensL (grpsL O M)) (grpsL O M) wide.length)).Nodup := hpn.nodup_iff.2 (((hM.1.map (·.name)).nodup_iff).2 (people_names hok))
    refine ⟨by omega, standsF_mk h0 (by omega) (fun x hx => ?_) hlt hnd⟩
    have : x.name ∈ M.map (·.name) := hpn.subset (List.mem_map.2 ⟨x, hx, rfl⟩)
    obtain ⟨q, hq, hqn⟩ := List.mem_map.1 this
    have h9 := hasP_of (hM.1.subset hq)
    rw [hqn] at h9
    exact ⟨h9, hon x hx⟩
/-! ### one section -/
end Go.Proofs.YtdehmioobkneiaaGreatDoor
