/- Who can sing in a range: voice.Who and gleeref1.WhoOf. Conditions: sizes. Singers who are divided among parts, as people of sections: plain mathematics. Conditions: as each theorem says. -/
import Derived.Test.YtdehmioobkneiaaGreatDoorTdJ21
import Derived.Maps.RangeWalk
import Derived.Sort.KeysCollected
import Derived.Test.YtdehmioobkneiaaGreatDoorTdJ19
import Derived.Test.YtdehmioobkneiaaGreatDoorTdJ30
import Derived.Test.YtdehmioobkneiaaGreatDoorTdJ42
import Derived.Test.YtdehmioobkneiaaGreatDoorTdStR
import Derived.Test.YtdehmioobkneiaaGreatDoorTdJ34
set_option linter.unusedSimpArgs false
set_option linter.unusedVariables false
namespace Go.Proofs.YtdehmioobkneiaaGreatDoor
open Go Go.RowKit Go.Sort Go.Maps
theorem cb_lt : ∀ {a b : List UInt8}, Lib.compareBytes a b = -1 → a < b
  | [], [], h => by cases h
  | [], _ :: _, _ => by simp
  | _ :: _, [], h => by cases h
  | a :: x, b :: y, h => by
    unfold Lib.compareBytes at h
    rw [List.cons_lt_cons_iff]
    by_cases h1 : a < b
    · exact .inl h1
    · rw [if_neg h1] at h
      by_cases h2 : b < a
      · rw [if_pos h2] at h; cases h
      · rw [if_neg h2] at h
        exact .inr ⟨u8_tri h1 h2, cb_lt h⟩
theorem rise_cmp {S : List ByteArray} (h : RiseN S) : S.Pairwise fun a b => cmpS a b = -1 := h.imp fun {a b} h => by
  rcases cmpS_three a b with e | e | e
  · exact e
  · exact absurd (cmpS_zero e) h.2
  · exact absurd (cb_lt (cmpS_anti e)) (List.not_lt.2 h.1)
end Go.Proofs.YtdehmioobkneiaaGreatDoor
namespace Go.Proofs.YtdehmioobkneiaaGreatDoor
open Go Go.RowKit
theorem vrOut_names (L : Src) (a : Nat) : ∀ j, j ≤ 5 → ∀ x ∈ (vrOut L a j).1, x.name ∈ nm5
  | 0, _, x, hx => by cases hx
  | j + 1, hj, x, hx => by
    have ih := vrOut_names L a j (by omega)
    unfold vrOut at hx
    rcases List.mem_append.1 hx with h | h
    · exact ih x h
    · unfold vrIn at h
      obtain ⟨t, _, rfl⟩ := List.mem_map.1 h
      show nm5.getD j ⟨#[]⟩ ∈ nm5
      have hl : nm5.length = 5 := rfl
      rw [List.getD_eq_getElem?_getD, List.getElem?_eq_getElem (by omega)]
      exact List.getElem_mem _
theorem vrF_names (L : Src) (a : Nat) : ∀ x ∈ (vrF L a 5).1, x.name ∈ nm5 ∨ x.name = ⟨#[]⟩ := by
  have hr := rgF_in (L := L) (a := a) (lo := 0) (hi := 5) (by omega)
  have hj : (rgF L a 0 5).toNat ≤ 5 := by omega
  have hn := vrOut_names L (a + 1) _ hj
  intro x hx
  unfold vrF at hx
  rw [show ((5 : Nat) : Int) = 5 from rfl] at hx
  generalize vrOut L (a + 1) (rgF L a 0 5).toNat = st at *
  by_cases h0 : st.1.length = 0
  · rw [if_pos h0] at hx
    exact .inl (hn x hx)
  · rw [if_neg h0] at hx
    cases hf : flF L st.2 12
    · rw [hf] at hx
      exact .inl (hn x hx)
    · rw [hf, if_pos rfl] at hx
      rcases List.mem_or_eq_of_mem_set hx with h | h
      · exact .inl (hn x h)
      · subst h
        have h2 := smF_mem (L := L) (a := st.2 + 2) (xs := [(st.1.getD (nxF L (st.2 + 1) st.1.length) default).name, ⟨#[]⟩, ⟨#[97, 110, 110]⟩]) (by simp)
        simp only at h2 ⊢
        have hi := nxF_lt L (st.2 + 1) st.1.length (by omega)
        have h3 : (st.1.getD (nxF L (st.2 + 1) st.1.length) default) ∈ st.1 := by
          rw [List.getD_eq_getElem?_getD, List.getElem?_eq_getElem hi]
          exact List.getElem_mem _
        rcases List.mem_cons.1 h2 with e | h2
        · rw [e]; exact .inl (hn _ h3)
        · rcases List.mem_cons.1 h2 with e | h2
          · rw [e]; exact .inr rfl
          · rw [List.mem_singleton.1 h2]; exact .inl (by unfold nm5; exact List.mem_cons_self ..)
theorem rvF_names (L : Src) : ∀ t a, ∀ x ∈ (rvF L 5 t a).1, x.name ∈ nm5 ∨ x.name = ⟨#[]⟩
  | 0, a, x, hx => by cases hx
  | t + 1, a, x, hx => by
    unfold rvF at hx
    split at hx
    · exact vrF_names L a x hx
    · exact rvF_names L t _ x hx
theorem nodup_sub {α : Type} [DecidableEq α] : ∀ {S M : List α}, S.Nodup → (∀ x ∈ S, x ∈ M) → S.length ≤ M.length
  | [], _, _, _ => Nat.zero_le _
  | a :: S, M, h, hs => by
    obtain ⟨h1, h2⟩ := List.nodup_cons.1 h
    have ha := hs a (List.mem_cons_self ..)
    have ih := nodup_sub (M := M.erase a) h2 fun x hx => (List.mem_erase_of_ne (fun e => h1 (by rw [← e]; exact hx))).2 (hs x (List.mem_cons_of_mem _ hx))
    rw [List.length_erase_of_mem ha] at ih
    have := List.length_pos_of_mem ha
    rw [List.length_cons]; omega
theorem singers_five {L : Src} {V : List VoiceV} {t0 a k : Nat} (hF : rvF L 5 t0 a = (V, k)) (hv : voicesF V = 0) (t : Int) : (singersL V t).length ≤ 5 := by
  refine nodup_sub (M := nm5) (singers_rise V t).nodup fun p hp => ?_
  have hk := singers_key (t := t) hv p hp
  unfold singersL at hp
  rw [onceL_mem] at hp
  unfold namesAt at hp
  obtain ⟨x, hx, rfl⟩ := List.mem_map.1 hp
  have hx2 := List.mem_of_mem_take (List.mem_filter.1 hx).1
  rcases rvF_names L t0 a x (by rw [hF]; exact hx2) with h | h
  · exact h
  · rw [h] at hk
    exact absurd hk (by decide +kernel)
/-! ### the order of sections in a row -/
section
variable {wide : List Int} {n : Nat} {A : List Int} {G0 : List (List PersonV)}
theorem secG_sub : ∀ (r i : Nat) (g : List PersonV), (secG wide n A G0 r)[i]? = some g → ∃ g0, G0[i]? = some g0 ∧ ∀ x ∈ g, x ∈ g0
  | 0, i, g, h => ⟨g, h, fun x hx => hx⟩
  | r + 1, i, g, h => by
    rw [secG_succ] at h
    have hi := (List.getElem?_eq_some_iff.1 h).1
    rw [nextG_len] at hi
    obtain ⟨g1, hg1⟩ := getD_some (rfl : (secG wide n A G0 r).length = _) hi
    obtain ⟨g0, hg0, hsub⟩ := secG_sub r i g1 hg1
    refine ⟨g0, hg0, fun x hx => hsub x ?_⟩
    unfold nextG at h
    rw [List.getElem?_map, List.getElem?_range hi] at h
    simp only [Option.map_some, Option.some.injEq] at h
    simp only [List.getD_eq_getElem?_getD, hg1, Option.getD_some] at h
    rw [← h] at hx
    exact List.mem_of_mem_drop hx
/-- In a row the sections come one after the other. -/
theorem secQ_order {kf : ByteArray → Nat} (hk : ∀ (i : Nat) (g : List PersonV), G0[i]? = some g → ∀ x ∈ g, kf x.name = i) (r : Nat) : (secQ wide n A G0 r).Pairwise fun a b => kf a.name ≤ kf b.name := by
  unfold secQ headG
  have hin : ∀ i, ∀ x ∈ ((secG wide n A G0 r).getD i []).take ((secT wide n A G0 r).getD i 0).toNat, kf x.name = i := fun i x hx => by
    have hx2 := List.mem_of_mem_take hx
    rw [List.getD_eq_getElem?_getD] at hx2
    cases hg : (secG wide n A G0 r)[i]? with
    | none => rw [hg] at hx2; cases hx2
    | some g =>
      rw [hg] at hx2
      obtain ⟨g0, hg0, hsub⟩ := secG_sub r i g hg
      exact hk i g0 hg0 x (hsub x hx2)
  rw [List.pairwise_flatMap]
  refine ⟨fun i _ => List.Pairwise.imp_of_mem (R := fun _ _ => True) (fun {a b} ha hb _ => by rw [hin i a ha, hin i b hb]; exact Nat.le_refl _) (List.pairwise_of_forall (fun _ _ => trivial)), ?_⟩
  rw [List.pairwise_iff_getElem]
  intro i j hi hj hij x hx y hy
  simp only [List.getElem_range] at hx hy
  rw [hin i x hx, hin j y hy]
  omega
theorem rowP_row {wide : List Int} {r : Nat} {Q : List PersonV} {z : StandV} (h : z ∈ rowP wide r Q) : z.row = r := by
  unfold rowP at h
  obtain ⟨i, _, rfl⟩ := List.mem_map.1 h
  rfl
theorem bsL_order {kf : ByteArray → Nat} (hk : ∀ (i : Nat) (g : List PersonV), G0[i]? = some g → ∀ x ∈ g, kf x.name = i) (m : Nat) : (bsL wide n A G0 m).Pairwise fun a b => a.row = b.row → kf a.name ≤ kf b.name := by
  unfold bsL
  rw [List.pairwise_flatMap]
  refine ⟨fun r _ => ?_, ?_⟩
  · have h1 := secQ_order (wide := wide) (n := n) (A := A) hk r
    have h2 : ((secQ wide n A G0 r).map (·.name)).Pairwise fun a b => kf a ≤ kf b := List.pairwise_map.2 h1
    rw [← rowP_names wide r, List.pairwise_map] at h2
    refine List.Pairwise.imp ?_ h2
    intro a b h _
    exact h
  · rw [List.pairwise_iff_getElem]
    intro i j hi hj hij x hx y hy e
    simp only [List.getElem_range] at hx hy
    have := rowP_row hx
    have := rowP_row hy
    omega
end
/-! ### people of a division -/
structure PeoT (T : List (ByteArray × ByteArray)) (Q : List PersonV) : Prop where
  len : Q.length ≤ T.length
  at_ : ∀ (j : Nat) (x : PersonV), Q[j]? = some x → T[j]? = some (x.name, x.sect) ∧ 500 ≤ x.high ∧ x.high ≤ 2500
theorem PeoT.nil (T : List (ByteArray × ByteArray)) : PeoT T [] := ⟨Nat.zero_le _, fun j x h => by cases h⟩
theorem PeoT.snoc {T : List (ByteArray × ByteArray)} {Q : List PersonV} (h : PeoT T Q) {t : ByteArray × ByteArray} {v : Int} (ht : T[Q.length]? = some t) (hv : 500 ≤ v ∧ v ≤ 2500) : PeoT T (Q ++ [⟨t.1, v, t.2⟩]) := by
  refine ⟨?_, fun j x hx => ?_⟩
  · have := (List.getElem?_eq_some_iff.1 ht).1
    rw [List.length_append, List.length_singleton]; omega
  · rcases Nat.lt_or_ge j Q.length with hj | hj
    · rw [List.getElem?_append_left hj] at hx
      exact h.at_ j x hx
    · rw [List.getElem?_append_right hj] at hx
      have h0 : j - Q.length = 0 := by have := (List.getElem?_eq_some_iff.1 hx).1; simp at this; omega
      rw [h0] at hx
      obtain rfl : (⟨t.1, v, t.2⟩ : PersonV) = x := by simpa using hx
      obtain rfl : j = Q.length := by omega
      exact ⟨ht, hv⟩
theorem leB_rise {a b : ByteArray} (h : cmpS a b = -1) : leB b a = false := by
  unfold leB
  rw [less_cb, Lib.toList_data, Lib.toList_data]
  have h1 : Lib.compareBytes b.data.toList a.data.toList ≠ -1 := fun e => by
    have e2 := cb_trans h e
    have e3 := cb_refl a.data.toList
    rw [e2] at e3; cases e3
  have h2 : (b.data.toList == a.data.toList) = false := by
    cases hq : (b.data.toList == a.data.toList)
    · rfl
    · have e := beq_iff_eq.1 hq
      unfold cmpS at h
      rw [e, cb_refl] at h; cases h
  rw [h2, decide_eq_false h1]; rfl
theorem PeoT.people {T : List (ByteArray × ByteArray)} {Q : List PersonV} (h : PeoT T Q) (hT : T.length ≤ 200) (hk : ∀ t ∈ T, keyB t.1 = true ∧ keyB t.2 = true) (hr : T.Pairwise fun a b => cmpS a.1 b.1 = -1) : peopleF Q = 0 := by
  unfold peopleF
  rw [if_neg (by have := h.len; omega)]
  refine scan_zero fun i hi => ?_
  obtain ⟨x, hx⟩ := getD_some (rfl : Q.length = Q.length) hi
  obtain ⟨h1, h2, h3⟩ := h.at_ i x hx
  obtain ⟨k1, k2⟩ := hk _ (List.mem_of_getElem? h1)
  unfold chkPer
  rw [atL_of hx, k1, k2, inB_iff.2 ⟨h2, h3⟩]
  simp only [Bool.and_self, if_true]
  rw [if_neg]
  simp only [Bool.and_eq_true, decide_eq_true_eq, not_and, Bool.not_eq_true]
  intro h0
  obtain ⟨y, hy⟩ := getD_some (rfl : Q.length = Q.length) (show i - 1 < Q.length by omega)
  obtain ⟨h4, -⟩ := h.at_ (i - 1) y hy
  rw [atL_of hy]
  obtain ⟨l1, e1⟩ := List.getElem?_eq_some_iff.1 h1
  obtain ⟨l4, e4⟩ := List.getElem?_eq_some_iff.1 h4
  have h5 := (List.pairwise_iff_getElem.1 hr) (i - 1) i l4 l1 (by omega)
  rw [e1, e4] at h5
  exact leB_rise h5
theorem smallT_of {P : List PersonV} {wide high : List Int} {S : List StandV} (h : standsF P wide high S = 0) (hP : ∀ x ∈ P, x.Small) : ∀ x ∈ S, x.Small := fun x hx => by
  obtain ⟨a1, ⟨a2, a3⟩, a4, a5⟩ := (standsF_right h).2.2.1 x hx
  have hwo := (standsF_ok h).1.wo
  unfold hasP at a1
  obtain ⟨p, hp, e⟩ := List.any_eq_true.1 a1
  have e2 : p.name = x.name := baL.1 e
  have h7 : wide.getD x.row.toNat 0 ≤ 30 := by
    rw [List.getD_eq_getElem?_getD]
    cases hg : wide[x.row.toNat]? with
    | none => simp
    | some v => simpa using (hwo.2 v (List.mem_of_getElem? hg)).2
  have h8 := hwo.1
  exact ⟨by rw [← e2]; exact (hP p hp).1, by omega, by omega, by omega, by omega⟩
theorem slc_of_blkT {α : Type} {k : Nat} {enc : α → List Value} (hk : ∀ x, (enc x).length = k) {w : World} {g : Nat} {t : TypeId} {xs : List α} (h : Blk w g t (xs.flatMap enc).toArray) (hl : xs.length ≤ 1000) : Slc k enc w (some ⟨g, 0, none⟩) xs.length xs.length xs := by
  refine ⟨⟨rfl, by omega, fun _ => ⟨g, 0, rfl, h.lt, fun i x hx j u hu => ?_⟩⟩, Nat.le_refl _, (fun e => by cases e), fun a ha => by cases ha; exact ⟨g, 0, rfl, h.lt⟩⟩
  rw [Nat.zero_add, h.cell, List.getElem?_toArray]
  exact flat_at hk xs i x hx j u hu
theorem orderF_of {O : List ByteArray} (hl : O.length ≤ 20) (hk : ∀ x ∈ O, keyB x = true) (hn : O.Nodup) : orderF O = 0 := by
  unfold orderF
  rw [if_neg (by omega)]
  refine scan_zero fun i hi => ?_
  obtain ⟨x, hx⟩ := getD_some (rfl : O.length = O.length) hi
  have hno : inN (O.take i) x = false := by
    refine inN_false.2 fun h => ?_
    obtain ⟨j, hj⟩ := List.getElem?_of_mem h
    have hjl := (List.getElem?_eq_some_iff.1 hj).1
    rw [List.length_take] at hjl
    rw [List.getElem?_take_of_lt (by omega)] at hj
    have := (List.getElem?_inj (by omega) hn).1 (hj.trans hx.symm)
    omega
  unfold chkOrd
  rw [atL_of hx, hk x (List.mem_of_getElem? hx), hno]
  rfl
theorem stage33 : stageF [3, 3] [0, 100] = 0 := by decide +kernel
theorem PeoT.ost {T : List (ByteArray × ByteArray)} {Q : List PersonV} (h : PeoT T Q) (hT : T.length ≤ 200) (hk : ∀ t ∈ T, keyB t.1 = true ∧ keyB t.2 = true) (hr : T.Pairwise fun a b => cmpS a.1 b.1 = -1) : ostF Q [3, 3] [0, 100] = 0 := by
  unfold ostF
  rw [if_pos (h.people hT hk hr)]
  exact stage33
theorem full33 {Q : List PersonV} (h : Q.length ≤ 5) : fullF Q [3, 3] = 0 := by
  unfold fullF
  rw [if_neg]
  have : sumT [3, 3] ([3, 3] : List Int).length = 6 := by decide
  rw [this]
  omega
end Go.Proofs.YtdehmioobkneiaaGreatDoor
