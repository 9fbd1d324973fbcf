/- No stands hide fewer than the best ones; rows by height are right stands: plain mathematics. Conditions: as each theorem says. Rows by sections are right stands of all people; with one section they are rows by height: plain mathematics. Conditions: as each theorem says. Rows by sections: right stands of all people; by one section they are rows by height. Plain mathematics. Conditions: as each theorem says. -/
import Derived.Test.YtfbegdcmnfkhgaaGreatDoorRxBeK
import Derived.Test.YtfbegdcmnfkhgaaGreatDoorRxJ34
import Derived.Test.YtfbegdcmnfkhgaaGreatDoorRxJ19
import Derived.Test.YtfbegdcmnfkhgaaGreatDoorRxJ36
set_option linter.unusedSimpArgs false
set_option linter.unusedVariables false
namespace Go.Proofs.YtfbegdcmnfkhgaaGreatDoor
open Go Go.RowKit

section
variable {P : List PersonV} {wide high : List Int} {all : List StandV}
/-- Nothing that the search can reach is better. -/
theorem leG_min {U : List StandV} (hU : ∀ k, k < U.length → ∃ x ∈ all, U[k]? = some (putN P k x) ∧ inT (U.take k) x = false) : ∀ (m : Nat) (T : List StandV) (st : Int × List StandV), T.length + m = U.length → T = U.take T.length → (leG P wide high all m T st).1 ≤ hidT P wide high U
  | 0, T, st, hm, hT => by
    have e : T = U := by rw [hT, List.take_of_length_le (by omega)]
    subst e
    unfold leG
    split
    · exact Int.le_refl _
    · omega
  | m + 1, T, st, hm, hT => by
    obtain ⟨x, hx, hk, hin⟩ := hU T.length (by omega)
    rw [← hT] at hin
    have hnx : nxt P T x = U.take (T.length + 1) := by
      unfold nxt
      rw [take_snocL hk, ← hT]
    obtain ⟨l1, l2, e⟩ := List.append_of_mem hx
    have key : ∀ (l : List StandV) (st : Int × List StandV), (l.foldl (fun st x => if inT T x then st else leG P wide high all m (nxt P T x) st) st).1 ≤ st.1 := by
      intro l
      induction l with
      | nil => intro st; exact Int.le_refl _
      | cons x l ih =>
        intro st
        rw [List.foldl_cons]
        refine Int.le_trans (ih _) ?_
        split
        · exact Int.le_refl _
        · exact leG_le m _ st
    have hl : (nxt P T x).length = T.length + 1 := nxt_len P T x
    have hi := fun st' => leG_min hU m (nxt P T x) st' (by omega) (by rw [hl]; exact hnx)
    have e3 : leG P wide high all (m + 1) T st = all.foldl (fun st x => if inT T x then st else leG P wide high all m (nxt P T x) st) st := rfl
    have e4 : all.foldl (fun st x => if inT T x then st else leG P wide high all m (nxt P T x) st) st = l2.foldl (fun st x => if inT T x then st else leG P wide high all m (nxt P T x) st) (leG P wide high all m (nxt P T x) (l1.foldl (fun st x => if inT T x then st else leG P wide high all m (nxt P T x) st) st)) := by
      have : ∀ (l : List StandV), l = l1 ++ x :: l2 → l.foldl (fun st x => if inT T x then st else leG P wide high all m (nxt P T x) st) st = l2.foldl (fun st x => if inT T x then st else leG P wide high all m (nxt P T x) st) (leG P wide high all m (nxt P T x) (l1.foldl (fun st x => if inT T x then st else leG P wide high all m (nxt P T x) st) st)) := fun l hl => by
        rw [hl, List.foldl_append, List.foldl_cons, hin]
        rfl
      exact this all e
    rw [e3, e4]
    exact Int.le_trans (key l2 _) (hi _)
end
theorem plA_of {wide : List Int} {r p : Nat} (hr : r < wide.length) (hp : p < (wide.getD r 0).toNat) : (⟨⟨#[]⟩, r, p⟩ : StandV) ∈ plA wide :=
  List.mem_flatMap.2 ⟨r, List.mem_range.2 hr, List.mem_map.2 ⟨p, List.mem_range.2 hp, rfl⟩⟩
/-- A place of the stage. -/
def OnP (wide : List Int) (x : StandV) : Prop := (0 ≤ x.row ∧ x.row ≤ wide.length - 1) ∧ 0 ≤ x.place ∧ x.place ≤ wide.getD x.row.toNat 0 - 1
theorem least_min {P : List PersonV} {wide high : List Int} {U : List StandV} (hl : U.length = P.length) (hnm : ∀ k, k < P.length → (U.getD k default).name = (P.getD k default).name) (hon : ∀ x ∈ U, OnP wide x) (hap : U.Pairwise Apart) :
    (leF P wide high (plA wide) P.length [] (P.length + 1, [])).1 ≤ hidT P wide high U := by
  have h0 := leF_leG (P := P) (wide := wide) (high := high) (all := plA wide) P.length [] (P.length + 1, []) (by have := hidT_bound P wide high []; simp only [List.length_nil] at this ⊢; omega)
  rw [h0]
  refine leG_min (fun k hk => ?_) P.length [] _ (by simp [hl]) (by simp)
  obtain ⟨⟨o1, o2⟩, o3, o4⟩ := hon U[k] (List.getElem_mem hk)
  have hn := hnm k (by omega)
  rw [List.getD_eq_getElem?_getD, List.getElem?_eq_getElem hk] at hn
  refine ⟨⟨⟨#[]⟩, (U[k].row.toNat : Nat), (U[k].place.toNat : Nat)⟩, plA_of (by omega) (by omega), ?_, ?_⟩
  · rw [List.getElem?_eq_getElem hk]
    unfold putN
    rw [← hn, Int.toNat_of_nonneg o1, Int.toNat_of_nonneg o3]
    rfl
  · unfold inT
    rw [List.any_eq_false]
    intro y hy hs
    obtain ⟨j, hj, e⟩ := List.getElem_of_mem hy
    rw [List.length_take] at hj
    have hjU : j < U.length := by omega
    rw [List.getElem_take] at e
    have := List.pairwise_iff_getElem.1 hap j k hjU hk (by omega)
    rw [e] at this
    unfold Apart at this
    unfold sameP at hs
    simp at hs
    omega
theorem hidN_perm {P : List PersonV} {wide high : List Int} {S T : List StandV} (h : S.Perm T) : hidN P wide high S S = hidN P wide high T T := by
  unfold hidN
  have e : ∀ b, hidAny P wide high S b = hidAny P wide high T b := fun b => by
    unfold hidAny
    rw [Bool.eq_iff_iff, List.any_eq_true, List.any_eq_true]
    exact ⟨fun ⟨a, ha, k⟩ => ⟨a, h.subset ha, k⟩, fun ⟨a, ha, k⟩ => ⟨a, h.symm.subset ha, k⟩⟩
  have e2 : (fun b => hidAny P wide high S b) = fun b => hidAny P wide high T b := funext e
  rw [e2]
  exact (h.filter _).length_eq
theorem hasP_of {P : List PersonV} {x : PersonV} (h : x ∈ P) : hasP P x.name = true := by
  unfold hasP
  rw [List.any_eq_true]
  exact ⟨x, h, by simp⟩
theorem people_names {P : List PersonV} (h : PeopleOk P) : (P.map (·.name)).Nodup := by
  rw [List.nodup_iff_pairwise_ne, List.pairwise_map, List.pairwise_iff_getElem]
  intro i j hi hj hij e
  have := h.less (List.getElem?_eq_getElem hi) (List.getElem?_eq_getElem hj) hij
  rw [e, cmpS_refl] at this
  cases this
/-! ### rows by height -/
theorem leftN_sum {wide : List Int} (hwo : WideOk wide) (n : Nat) : ∀ r, r ≤ wide.length → (leftN wide n r : Int) = max 0 (n - sumT wide r)
  | 0, _ => by simp [leftN, sumT]
  | r + 1, hr => by
    have ih := leftN_sum hwo n r (by omega)
    obtain ⟨v, hv⟩ := getD_some (rfl : wide.length = wide.length) (show r < wide.length by omega)
    obtain ⟨v1, v2⟩ := hwo.2 v (List.mem_of_getElem? hv)
    have e : wide.getD r 0 = v := by rw [List.getD_eq_getElem?_getD, hv]; rfl
    rw [leftN_succ, sumT_succ hv]
    unfold takeN
    rw [e]
    omega
theorem bhL_names (wide : List Int) (M : List PersonV) : ∀ r, (bhL wide M r).map (·.name) = (M.take (M.length - leftN wide M.length r)).map (·.name)
  | 0 => by simp [bhL, leftN]
  | r + 1 => by
    rw [bhL_succ, List.map_append, bhL_names wide M r]
    have h1 := leftN_le wide M.length r
    have h2 := takeN_le wide M.length r
    have e : M.length - leftN wide M.length (r + 1) = (M.length - leftN wide M.length r) + takeN wide M.length r := by rw [leftN_succ]; omega
    rw [e, List.take_add, List.map_append]
    congr 1
    have e2 : (M.drop (M.length - leftN wide M.length r)).take (takeN wide M.length r) = headP wide M r := rfl
    rw [e2]
    apply List.ext_getElem
    · simp [rowP_len]
    · intro i h1 h2
      have hi : i < (headP wide M r).length := by simpa using h2
      have h3 := rowP_at (wide := wide) (r := r) (List.getElem?_eq_getElem hi)
      have h4 := (List.getElem?_eq_some_iff.1 h3).2
      simp [h4]
theorem rowP_on {wide : List Int} {r : Nat} {Q : List PersonV} {x : StandV} (hr : r < wide.length) (hq : Q.length ≤ (wide.getD r 0).toNat) (h : x ∈ rowP wide r Q) : OnP wide x ∧ x.row = r := by
  obtain ⟨i, y, hy, rfl⟩ := rowP_mem h
  have hi := (List.getElem?_eq_some_iff.1 hy).1
  refine ⟨⟨⟨?_, ?_⟩, ?_, ?_⟩, rfl⟩
  · show (0 : Int) ≤ r; omega
  · show (r : Int) ≤ wide.length - 1; omega
  · show (0 : Int) ≤ (wide.getD r 0 - Q.length) / 2 + i; omega
  · show (wide.getD r 0 - Q.length) / 2 + i ≤ wide.getD r 0 - 1; omega
theorem rowP_lt (wide : List Int) (r : Nat) (Q : List PersonV) : (rowP wide r Q).Pairwise (fun a b => ltV a b = true) := by
  unfold rowP
  rw [List.pairwise_map]
  exact (List.pairwise_lt_range).imp fun {a b} h => by simp [ltV]; omega
theorem bhL_on {wide : List Int} (M : List PersonV) {r : Nat} (hr : r ≤ wide.length) {x : StandV} (h : x ∈ bhL wide M r) : OnP wide x := by
  unfold bhL at h
  obtain ⟨k, hk, hx⟩ := List.mem_flatMap.1 h
  have hk := List.mem_range.1 hk
  exact (rowP_on (by omega) (by rw [headP_len]; exact takeN_wide _ _ _) hx).1
theorem bhL_lt {wide : List Int} (M : List PersonV) {r : Nat} (hr : r ≤ wide.length) : (bhL wide M r).Pairwise (fun a b => ltV a b = true) := by
  unfold bhL
  rw [List.pairwise_flatMap]
  refine ⟨fun k _ => rowP_lt wide k _, ?_⟩
  rw [List.pairwise_iff_getElem]
  intro i j hi hj hij
  simp only [List.length_range] at hi hj
  simp only [List.getElem_range]
  intro x hx y hy
  have h1 := (rowP_on (by omega) (by rw [headP_len]; exact takeN_wide _ _ _) hx).2
  have h2 := (rowP_on (by omega) (by rw [headP_len]; exact takeN_wide _ _ _) hy).2
  simp [ltV]
  omega
theorem ltV_apart {a b : StandV} (h : ltV a b = true) : Apart a b := by
  unfold ltV at h
  unfold Apart
  simp at h
  omega
theorem bhL_right {P M : List PersonV} {wide high : List Int} (h0 : ostF P wide high = 0) (hok : PeopleOk P) (hwo : WideOk wide) (hf : fullF P wide = 0) (hM : ByH P M) :
    (bhL wide M wide.length).length = P.length ∧ standsF P wide high (bhL wide M wide.length) = 0 ∧ (leF P wide high (plA wide) P.length [] (P.length + 1, [])).1 ≤ hidT P wide high (bhL wide M wide.length) := by
  have hml := hM.1.length_eq
  have hle : leftN wide M.length wide.length = 0 := by
    have h1 := leftN_sum hwo M.length wide.length (Nat.le_refl _)
    unfold fullF at hf
    split at hf
    · cases hf
    · omega
  have hln : (bhL wide M wide.length).length = P.length := by rw [bhL_len, hle]; omega
  have hnm := bhL_names wide M wide.length
  rw [hle, Nat.sub_zero, List.take_length] at hnm
  have hnd := people_names hok
  have hndM : (M.map (·.name)).Nodup := ((hM.1.map (·.name)).nodup_iff).2 hnd
  have hndA : (namesS (bhL wide M wide.length)).Nodup := by unfold namesS; rw [hnm]; exact hndM
  have hlt := bhL_lt (wide := wide) M (Nat.le_refl _)
  have hon := fun x hx => bhL_on (wide := wide) M (Nat.le_refl _) (x := x) hx
  generalize bhL wide M wide.length = A at *
  have hst : standsF P wide high A = 0 := by
    refine standsF_mk h0 (by omega) (fun x hx => ?_) hlt hndA
    have : x.name ∈ M.map (·.name) := by rw [← hnm]; exact List.mem_map.2 ⟨x, hx, rfl⟩
    obtain ⟨q, hq, hqn⟩ := List.mem_map.1 this
    have h9 := hasP_of (hM.1.subset hq)
    rw [hqn] at h9
    exact ⟨h9, hon x hx⟩
  refine ⟨hln, hst, ?_⟩
  -- in the people's order
  let f : PersonV → StandV := fun p => (A.find? fun x => x.name.toList == p.name.toList).getD default
  have hf9 : ∀ i (h : i < M.length) (h2 : i < A.length), f M[i] = A[i] := fun i h h2 => by
    have e1 : (A.map (·.name))[i]? = (M.map (·.name))[i]? := by rw [hnm]
    rw [List.getElem?_map, List.getElem?_map, List.getElem?_eq_getElem h, List.getElem?_eq_getElem h2] at e1
    have e2 : A[i].name = M[i].name := by simpa using e1
    show (A.find? fun x => x.name.toList == M[i].name.toList).getD default = A[i]
    have e3 : A.find? (fun x => x.name.toList == M[i].name.toList) = some A[i] := by
      cases hfi : A.find? (fun x => x.name.toList == M[i].name.toList) with
      | none =>
        have := List.find?_eq_none.1 hfi A[i] (List.getElem_mem h2)
        simp [e2] at this
      | some z =>
        have hz := List.find?_some hfi
        have hzm := List.mem_of_find?_eq_some hfi
        obtain ⟨j, hj, ej⟩ := List.getElem_of_mem hzm
        have hzn : z.name = M[i].name := baL.1 hz
        have hnn : (namesS A)[j]? = (namesS A)[i]? := by
          unfold namesS
          rw [List.getElem?_map, List.getElem?_map, List.getElem?_eq_getElem hj, List.getElem?_eq_getElem h2, ej]
          simp [hzn, e2]
        have hji : j = i := (List.getElem?_inj (by unfold namesS; simpa using hj) hndA).1 hnn
        subst hji
        rw [ej]
    rw [e3]
    rfl
  have hAM : A = M.map f := by
    apply List.ext_getElem
    · simp; omega
    · intro i h1 h2
      rw [List.getElem_map]
      exact (hf9 i (by simpa using h2) h1).symm
  have hperm : A.Perm (P.map f) := by rw [hAM]; exact hM.1.map f
  have hmin := least_min (P := P) (wide := wide) (high := high) (U := P.map f) (by simp) (fun k hk => by
    rw [List.getD_eq_getElem?_getD, List.getElem?_map, List.getElem?_eq_getElem hk, List.getD_eq_getElem?_getD, List.getElem?_eq_getElem hk]
    have hmem : P[k] ∈ M := hM.1.symm.subset (List.getElem_mem hk)
    obtain ⟨i, hi, ei⟩ := List.getElem_of_mem hmem
    have h2 : i < A.length := by omega
    have h9 := hf9 i hi h2
    rw [ei] at h9
    have e1 : (A.map (·.name))[i]? = (M.map (·.name))[i]? := by rw [hnm]
    rw [List.getElem?_map, List.getElem?_map, List.getElem?_eq_getElem hi, List.getElem?_eq_getElem h2, ei] at e1
    have e2 : A[i].name = P[k].name := by simpa using e1
    show (f P[k]).name = P[k].name
    rw [h9, e2]) (fun x hx => hon x (hperm.symm.subset hx)) ((hperm.pairwise_iff (fun {x y} h k => h ⟨k.1.symm, k.2.symm⟩)).1 (hlt.imp ltV_apart))
  unfold hidT at hmin ⊢
  rw [hidN_perm hperm]
  exact hmin
end Go.Proofs.YtfbegdcmnfkhgaaGreatDoor

namespace Go.Proofs.YtfbegdcmnfkhgaaGreatDoor
open Go Go.RowKit

/-- As long as places are left all who are left have been taken. -/
theorem ovT_all {Lf C : List Int} {ov : Int} (h0 : 0 ≤ ov) (hl : C.length = Lf.length) (hC : ∀ (k : Nat) (c : Int), C[k]? = some c → 0 ≤ c ∧ ∃ y : Int, Lf[k]? = some y ∧ c ≤ y) : ∀ k, k ≤ C.length → ovT Lf C ov k = 0 ∨ ((shL Lf C ov).take k).sum = (Lf.take k).sum
  | 0, _ => .inr (by simp)
  | k + 1, hk => by
    obtain ⟨c, hc⟩ := getD_some (rfl : C.length = C.length) (show k < C.length by omega)
    obtain ⟨c0, y, hy, hcy⟩ := hC k c hc
    obtain ⟨m0, m1, m2⟩ := mT_ok h0 hl hC hc hy
    have ho := (ovT_ok h0 hl hC k (by omega)).1
    rw [ovT_succ, sum_snoc (shL_at hc), sum_snoc hy]
    rcases ovT_all h0 hl hC k (by omega) with h | h
    · left; omega
    · by_cases hz : ovT Lf C ov k - mT Lf C ov k = 0
      · exact .inl hz
      · right; omega
theorem ShOk.full {n : Int} {A Lf : List Int} (h : ShOk n A Lf) (hn : n ≤ Lf.sum) : (shrL n A Lf).sum = n := by
  obtain ⟨c1, c2, c3⟩ := h.cap
  have h1 := ovT_all (Lf := Lf) (C := capL (partsL n A) Lf) c2 c1 c3 (capL (partsL n A) Lf).length (Nat.le_refl _)
  have h2 := (ovT_ok (Lf := Lf) (C := capL (partsL n A) Lf) c2 c1 c3 (capL (partsL n A) Lf).length (Nat.le_refl _))
  have e1 : (shL Lf (capL (partsL n A) Lf) (n - (capL (partsL n A) Lf).sum)).take (capL (partsL n A) Lf).length = shrL n A Lf := List.take_of_length_le (by rw [shL_len]; exact Nat.le_refl _)
  have e2 : Lf.take (capL (partsL n A) Lf).length = Lf := List.take_of_length_le (by omega)
  have e3 : (capL (partsL n A) Lf).take (capL (partsL n A) Lf).length = capL (partsL n A) Lf := List.take_length
  rw [e1, e2] at h1
  rw [e1, e3] at h2
  obtain ⟨h3, h4, h5⟩ := h2
  rcases h1 with h1 | h1 <;> omega
/-- Those who are left behind a row. -/
theorem next_sum {G : List (List PersonV)} {T : List Int} (hl : T.length = G.length) (hT : ∀ (k : Nat) (s : Int), T[k]? = some s → 0 ≤ s ∧ ∃ y : Int, (lensL G)[k]? = some y ∧ s ≤ y) : ∀ k, k ≤ G.length → ((lensL (nextG G T)).take k).sum = ((lensL G).take k).sum - (T.take k).sum
  | 0, _ => by simp
  | k + 1, hk => by
    have ih := next_sum hl hT k (by omega)
    obtain ⟨g, hg⟩ := getD_some (rfl : G.length = G.length) (show k < G.length by omega)
    obtain ⟨t, ht⟩ := getD_some hl (show k < G.length by omega)
    obtain ⟨t0, y, hy, hty⟩ := hT k t ht
    rw [lensL_at hg] at hy
    have e : (g.length : Int) = y := by simpa using hy
    rw [sum_snoc (lensL_at (nextG_at hg ht)), sum_snoc (lensL_at hg), sum_snoc ht, ih, List.length_drop]
    omega
theorem head_next {G : List (List PersonV)} {T : List Int} (hl : T.length = G.length) : ∀ k, k ≤ G.length → (headG G T k ++ ((nextG G T).take k ++ G.drop k).flatten).Perm G.flatten
  | 0, _ => by simp [headG]
  | k + 1, hk => by
    have ih := head_next (G := G) (T := T) hl k (by omega)
    obtain ⟨g, hg⟩ := getD_some (rfl : G.length = G.length) (show k < G.length by omega)
    obtain ⟨t, ht⟩ := getD_some hl (show k < G.length by omega)
    have hd : G.drop k = g :: G.drop (k + 1) := by
      rw [List.drop_eq_getElem_cons (show k < G.length by omega)]
      congr 1
      have := (List.getElem?_eq_some_iff.1 hg).2
      exact this
    rw [headG_succ hg ht, take_snocL (nextG_at hg ht)]
    refine List.Perm.trans ?_ ih
    rw [hd]
    simp only [List.flatten_append, List.flatten_cons, List.flatten_nil, List.append_nil, List.append_assoc]
    refine List.Perm.append_left _ ?_
    have e : g ++ (G.drop (k + 1)).flatten = g.take t.toNat ++ (g.drop t.toNat ++ (G.drop (k + 1)).flatten) := by rw [← List.append_assoc, List.take_append_drop]
    rw [e]
    exact List.perm_append_comm_assoc _ _ _
section
variable {wide : List Int} {n : Nat} {A : List Int} {G0 : List (List PersonV)}
/-- All who should stand in row r stand there. -/
theorem sec_all (hok : SecOk A G0) (hs : (lensL G0).sum = n) : ∀ r, (lensL (secG wide n A G0 r)).sum = leftN wide n r ∧ (∀ q, q < r → (secQ wide n A G0 q).length = takeN wide n q) ∧ (((List.range r).flatMap fun q => secQ wide n A G0 q) ++ (secG wide n A G0 r).flatten).Perm G0.flatten
  | 0 => ⟨hs, fun q hq => by omega, by simp [secG]⟩
  | r + 1 => by
    obtain ⟨i1, i2, i3⟩ := sec_all hok hs r
    have htk := takeN_le wide n r
    have hgl := secG_len wide n A G0 r
    -- this row
    have key : (lensL (secG wide n A G0 (r + 1))).sum = leftN wide n (r + 1) ∧ (secQ wide n A G0 r).length = takeN wide n r ∧ (secQ wide n A G0 r ++ (secG wide n A G0 (r + 1)).flatten).Perm (secG wide n A G0 r).flatten := by
      by_cases h0 : takeN wide n r = 0
      · have hT : secT wide n A G0 r = [] := by unfold secT; rw [if_pos h0]
        have hn : secG wide n A G0 (r + 1) = secG wide n A G0 r := by
          rw [secG_succ, hT]
          unfold nextG
          apply List.ext_getElem
          · simp
          · intro i h1 h2
            simp [h2]
        rw [hn, secQ_zero h0, leftN_succ, h0, i1]
        exact ⟨by simp, by simp, by simp⟩
      · have hsh := hok.sh (wide := wide) (n := n) r
        obtain ⟨s1, s2, s3⟩ := hsh.sh
        have hT : secT wide n A G0 r = shrL (takeN wide n r) A (lensL (secG wide n A G0 r)) := by unfold secT; rw [if_neg h0]
        have hfull := hsh.full (by rw [i1]; omega)
        have hl : (secT wide n A G0 r).length = (secG wide n A G0 r).length := by rw [hT, s1, hgl, hok.len]
        rw [← hT] at hfull s3
        have hn := next_sum hl s3 _ (Nat.le_refl _)
        have hh := headG_len hl s3 _ (Nat.le_refl _)
        have hp := head_next (T := secT wide n A G0 r) hl _ (Nat.le_refl _)
        have e1 : (secT wide n A G0 r).take (secG wide n A G0 r).length = secT wide n A G0 r := List.take_of_length_le (by omega)
        have e2 : (lensL (secG wide n A G0 r)).take (secG wide n A G0 r).length = lensL (secG wide n A G0 r) := List.take_of_length_le (by rw [lensL_len]; exact Nat.le_refl _)
        have e3 : (lensL (nextG (secG wide n A G0 r) (secT wide n A G0 r))).take (secG wide n A G0 r).length = lensL (nextG (secG wide n A G0 r) (secT wide n A G0 r)) := List.take_of_length_le (by rw [lensL_len, nextG_len]; exact Nat.le_refl _)
        have e4 : (nextG (secG wide n A G0 r) (secT wide n A G0 r)).take (secG wide n A G0 r).length = nextG (secG wide n A G0 r) (secT wide n A G0 r) := List.take_of_length_le (by rw [nextG_len]; exact Nat.le_refl _)
        rw [e1, e2, e3, hfull, i1] at hn
        rw [e1, hfull] at hh
        rw [e4, List.drop_length, List.append_nil] at hp
        have hq : secQ wide n A G0 r = headG (secG wide n A G0 r) (secT wide n A G0 r) (secG wide n A G0 r).length := by unfold secQ; rw [hgl]
        rw [hq, secG_succ, leftN_succ]
        exact ⟨by omega, by omega, hp⟩
    obtain ⟨k1, k2, k3⟩ := key
    refine ⟨k1, fun q hq => ?_, ?_⟩
    · rcases Nat.lt_or_ge q r with h | h
      · exact i2 q h
      · obtain rfl : q = r := by omega
        exact k2
    · rw [List.range_succ, List.flatMap_append, List.append_assoc]
      simp only [List.flatMap_cons, List.flatMap_nil, List.append_nil]
      exact (List.Perm.append_left _ k3).trans i3
theorem bsL_on (hok : SecOk A G0) {r : Nat} (hr : r ≤ wide.length) {x : StandV} (h : x ∈ bsL wide n A G0 r) : OnP wide x := by
  unfold bsL at h
  obtain ⟨k, hk, hx⟩ := List.mem_flatMap.1 h
  have hk := List.mem_range.1 hk
  have h1 := hok.q_len (wide := wide) (n := n) k
  have h2 := takeN_wide wide n k
  exact (rowP_on (by omega) (by omega) hx).1
theorem bsL_lt (hok : SecOk A G0) {r : Nat} (hr : r ≤ wide.length) : (bsL wide n A G0 r).Pairwise (fun a b => ltV a b = true) := by
  unfold bsL
  rw [List.pairwise_flatMap]
  refine ⟨fun k _ => rowP_lt wide k _, ?_⟩
  rw [List.pairwise_iff_getElem]
  intro i j hi hj hij
  simp only [List.length_range] at hi hj
  simp only [List.getElem_range]
  intro x hx y hy
  have hq := fun k => hok.q_len (wide := wide) (n := n) k
  have ht := fun k => takeN_wide wide n k
  have a1 := hq i
  have a2 := ht i
  have a3 := hq j
  have a4 := ht j
  have h1 := (rowP_on (by omega) (by omega) hx).2
  have h2 := (rowP_on (by omega) (by omega) hy).2
  simp [ltV]
  omega
theorem rowP_names (wide : List Int) (r : Nat) (Q : List PersonV) : (rowP wide r Q).map (·.name) = Q.map (·.name) := by
  apply List.ext_getElem
  · simp [rowP_len]
  · intro i h1 h2
    have hi : i < Q.length := by simpa using h2
    have h3 := rowP_at (wide := wide) (r := r) (List.getElem?_eq_getElem hi)
    have h4 := (List.getElem?_eq_some_iff.1 h3).2
    simp [h4]
theorem bsL_names (wide : List Int) (n : Nat) (A : List Int) (G0 : List (List PersonV)) (r : Nat) : (bsL wide n A G0 r).map (·.name) = ((List.range r).flatMap fun q => secQ wide n A G0 q).map (·.name) := by
  unfold bsL
  rw [List.map_flatMap, List.map_flatMap]
  congr 1
  funext q
  exact rowP_names wide q _
end
end Go.Proofs.YtfbegdcmnfkhgaaGreatDoor

namespace Go.Proofs.YtfbegdcmnfkhgaaGreatDoor
open Go Go.RowKit

theorem flat_set {G : List (List PersonV)} {i : Nat} {g : List PersonV} (x : PersonV) (h : G[i]? = some g) : (G.set i (g ++ [x])).flatten.Perm (G.flatten ++ [x]) := by
  induction G generalizing i with
  | nil => cases h
  | cons a G ih =>
    cases i with
    | zero =>
      have e : a = g := by simpa using h
      subst e
      simp only [List.set_cons_zero, List.flatten_cons, List.append_assoc]
      refine List.Perm.append_left _ ?_
      exact List.perm_append_comm
    | succ i =>
      have := ih (i := i) (by simpa using h)
      simp only [List.set_cons_succ, List.flatten_cons, List.append_assoc]
      exact List.Perm.append_left _ this
theorem grps_flat {O : List ByteArray} (hn : O.Nodup) {M : List PersonV} (hM : ∀ x ∈ M, x.sect ∈ O) : ∀ j, j ≤ M.length → (grpsL O (M.take j)).flatten.Perm (M.take j)
  | 0, _ => by
    rw [List.take_zero, grps_nil]
    have : ∀ k : Nat, (List.replicate k ([] : List PersonV)).flatten = [] := fun k => by simp
    rw [this]
  | j + 1, hj => by
    have ih := grps_flat hn hM j (by omega)
    obtain ⟨x, hx⟩ := getD_some (rfl : M.length = M.length) (show j < M.length by omega)
    obtain ⟨i, hil, hi⟩ := List.getElem_of_mem (hM x (List.mem_of_getElem? hx))
    have hi2 : O[i]? = some x.sect := by rw [List.getElem?_eq_getElem hil, hi]
    obtain ⟨g1, g2⟩ := grps_snoc hn hx hi2
    rw [g1, take_snocL hx]
    exact (flat_set x g2).trans (ih.append_right _)
theorem flat_empty {G : List (List PersonV)} (h : (lensL G).sum = 0) : G.flatten = [] := by
  rw [List.flatten_eq_nil_iff]
  intro g hg
  have := (mem_le_sum (lensL_nonneg G) (List.mem_map.2 ⟨g, hg, rfl⟩)).1
  exact List.eq_nil_of_length_eq_zero (by omega)
theorem full_left {P M : List PersonV} {wide : List Int} (hwo : WideOk wide) (hf : fullF P wide = 0) (hM : ByH P M) : leftN wide M.length wide.length = 0 := by
  have hml := hM.1.length_eq
  have h1 := leftN_sum hwo M.length wide.length (Nat.le_refl _)
  unfold fullF at hf
  split at hf
  · cases hf
  · omega
theorem bs_right {P M : List PersonV} {wide high : List Int} {O : List ByteArray} (h0 : ostF P wide high = 0) (hok : PeopleOk P) (hwo : WideOk wide) (hf : fullF P wide = 0) (hM : ByH P M) (hn : O.Nodup) (hc : ∀ x ∈ P, x.sect ∈ O) :
    (bsL wide M.length (lensL (grpsL O M)) (grpsL O M) wide.length).length = P.length ∧ standsF P wide high (bsL wide M.length (lensL (grpsL O M)) (grpsL O M) wide.length) = 0 := by
  have hml := hM.1.length_eq
  have hcM : ∀ x ∈ M, x.sect ∈ O := fun x hx => hc x (hM.1.subset hx)
  have hsum := grps_sum hn hcM M.length (Nat.le_refl _)
  have hflat := grps_flat hn hcM M.length (Nat.le_refl _)
  rw [List.take_length] at hsum hflat
  by_cases hm0 : M.length = 0
  · have := bsL_bound (A := lensL (grpsL O M)) (G0 := grpsL O M) hwo (n := M.length) (fun h => absurd hm0 h) wide.length
    have e : bsL wide M.length (lensL (grpsL O M)) (grpsL O M) wide.length = [] := List.eq_nil_of_length_eq_zero (by omega)
    rw [e]
    exact ⟨by simp; omega, standsF_mk h0 (by simp) (fun x hx => by cases hx) List.Pairwise.nil List.Pairwise.nil⟩
  · have hsk : SecOk (lensL (grpsL O M)) (grpsL O M) := ⟨lensL_nonneg _, by omega, by rw [lensL_len]⟩
    obtain ⟨i1, i2, i3⟩ := sec_all (wide := wide) hsk hsum wide.length
    rw [full_left hwo hf hM] at i1
    rw [flat_empty i1, List.append_nil] at i3
    have hp := i3.trans hflat
    have hnm := bsL_names wide M.length (lensL (grpsL O M)) (grpsL O M) wide.length
    have hpn := hp.map (·.name)
    rw [← hnm] at hpn
    have hlt := bsL_lt (wide := wide) (n := M.length) hsk (Nat.le_refl _)
    have hon := fun x hx => bsL_on (wide := wide) (n := M.length) hsk (Nat.le_refl _) (x := x) hx
    have hlen : (bsL wide M.length (lensL (grpsL O M)) (grpsL O M) wide.length).length = M.length := by simpa using hpn.length_eq
    have hnd : (namesS (bsL wide M.length (lensL (grpsL O M)) (grpsL O M) wide.length)).Nodup := hpn.nodup_iff.2 (((hM.1.map (·.name)).nodup_iff).2 (people_names hok))
    refine ⟨by omega, standsF_mk h0 (by omega) (fun x hx => ?_) hlt hnd⟩
    have : x.name ∈ M.map (·.name) := hpn.subset (List.mem_map.2 ⟨x, hx, rfl⟩)
    obtain ⟨q, hq, hqn⟩ := List.mem_map.1 this
    have h9 := hasP_of (hM.1.subset hq)
    rw [hqn] at h9
    exact ⟨h9, hon x hx⟩

/-! ### one section -/
theorem one_share {n m : Nat} {l : Int} (hm : 0 < m) (hn : (n : Int) ≤ l) : shrL n [(m : Int)] [l] = [(n : Int)] := by
  have hb : baseL n [(m : Int)] = [(n : Int)] := by
    unfold baseL
    simp only [List.map_cons, List.map_nil, List.sum_cons, List.sum_nil, Int.add_zero]
    rw [Int.mul_ediv_cancel _ (by omega)]
  have ho : overN n [(m : Int)] = 0 := by unfold overN; rw [hb]; simp
  have hp : partsL n [(m : Int)] = [(n : Int)] := by
    unfold partsL partsT
    rw [ho, hb]
    simp
  have hc : capL (partsL n [(m : Int)]) [l] = [(n : Int)] := by
    rw [hp]
    unfold capL
    simp
    omega
  unfold shrL
  rw [hc]
  unfold shL mT ovT
  simp
  omega
theorem one_group {nm : ByteArray} {M : List PersonV} (h : ∀ x ∈ M, x.sect = nm) : grpsL [nm] M = [M] := by
  unfold grpsL grpS
  simp only [List.map_cons, List.map_nil]
  rw [List.filter_eq_self.2 fun x hx => baL.2 (h x hx)]
theorem one_sec {wide : List Int} {M : List PersonV} : ∀ r, secG wide M.length [(M.length : Int)] [M] r = [restP wide M r]
  | 0 => by rw [restP_zero]; rfl
  | r + 1 => by
    have ih := one_sec (wide := wide) (M := M) r
    have hl := restP_len wide M r
    have htk := takeN_le wide M.length r
    have hle := leftN_le wide M.length r
    rw [secG_succ, ih, restP_succ]
    by_cases h0 : takeN wide M.length r = 0
    · have hT : secT wide M.length [(M.length : Int)] [M] r = [] := by unfold secT; rw [if_pos h0]
      rw [hT, h0]
      simp [nextG]
    · have hT : secT wide M.length [(M.length : Int)] [M] r = [(takeN wide M.length r : Int)] := by
        unfold secT
        rw [if_neg h0, ih]
        exact one_share (by omega) (by show (takeN wide M.length r : Int) ≤ ((restP wide M r).length : Int); omega)
      rw [hT]
      simp [nextG]
theorem one_rows {wide : List Int} {M : List PersonV} (r : Nat) : bsL wide M.length [(M.length : Int)] [M] r = bhL wide M r := by
  unfold bsL bhL
  congr 1
  funext q
  congr 1
  have ih := one_sec (wide := wide) (M := M) q
  have hl := restP_len wide M q
  have htk := takeN_le wide M.length q
  have hle := leftN_le wide M.length q
  unfold secQ headP
  rw [ih]
  by_cases h0 : takeN wide M.length q = 0
  · have hT : secT wide M.length [(M.length : Int)] [M] q = [] := by unfold secT; rw [if_pos h0]
    rw [hT, h0]
    simp [headG]
  · have hT : secT wide M.length [(M.length : Int)] [M] q = [(takeN wide M.length q : Int)] := by
      unfold secT
      rw [if_neg h0, ih]
      exact one_share (by omega) (by show (takeN wide M.length q : Int) ≤ ((restP wide M q).length : Int); omega)
    rw [hT]
    simp [headG]
end Go.Proofs.YtfbegdcmnfkhgaaGreatDoor
