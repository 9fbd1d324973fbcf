/- No stands hide fewer than the best ones; rows by height are right stands: plain mathematics. Conditions: as each theorem says. -/
import Derived.Test.YtfbegdcmnfkhgaaGreatDoorLxBeK
import Derived.Test.YtfbegdcmnfkhgaaGreatDoorLxJ40
import Derived.Test.YtfbegdcmnfkhgaaGreatDoorLxJ23
set_option linter.unusedSimpArgs false
set_option linter.unusedVariables false
namespace Go.Proofs.YtfbegdcmnfkhgaaGreatDoor
open Go Go.RowKit

section
variable {P : List PersonV} {wide high : List Int} {all : List StandV}
/-- What holds of all that is found, with its number. -/
theorem leF_inv3 {n : Nat} {R : List StandV → Prop} {Q : Int × List StandV → Prop} (hR : ∀ T x, R T → T.length < n → x ∈ all → inT T x = false → R (nxt P T x)) (hQ : ∀ T, R T → T.length = n → Q (hidT P wide high T, T)) : ∀ (m : Nat) (T : List StandV) (st : Int × List StandV), R T → T.length + m = n → Q st → Q (leF P wide high all m T st)
  | 0, T, st, hT, hm, _ => hQ T hT (by omega)
  | m + 1, T, st, hT, hm, hs => by
    rw [← toF_all]
    have key : ∀ i, i ≤ all.length → Q (toF P wide high all m T st i) := by
      intro i
      induction i with
      | zero => intro _; exact hs
      | succ i ih =>
        intro hi
        obtain ⟨x, hx⟩ := getD_some (rfl : all.length = all.length) (show i < all.length by omega)
        rw [toF_succ hx]
        unfold stepF
        split
        · exact ih (by omega)
        · rename_i hin
          split
          · exact leF_inv3 hR hQ m _ _ (hR T x hT (by omega) (List.mem_of_getElem? hx) (by simpa using hin)) (by rw [nxt_len]; omega) (ih (by omega))
          · exact ih (by omega)
    exact key _ (Nat.le_refl _)
/-- Nothing that the search can reach is better. -/
theorem leG_min {U : List StandV} (hU : ∀ k, k < U.length → ∃ x ∈ all, U[k]? = some (putN P k x) ∧ inT (U.take k) x = false) : ∀ (m : Nat) (T : List StandV) (st : Int × List StandV), T.length + m = U.length → T = U.take T.length → (leG P wide high all m T st).1 ≤ hidT P wide high U
  | 0, T, st, hm, hT => by
    have e : T = U := by rw [hT, List.take_of_length_le (by omega)]
    subst e
    unfold leG
    split
    · exact Int.le_refl _
    · omega
  | m + 1, T, st, hm, hT => by
    obtain ⟨x, hx, hk, hin⟩ := hU T.length (by omega)
    rw [← hT] at hin
    have hnx : nxt P T x = U.take (T.length + 1) := by
      unfold nxt
      rw [take_snocL hk, ← hT]
    obtain ⟨l1, l2, e⟩ := List.append_of_mem hx
    have key : ∀ (l : List StandV) (st : Int × List StandV), (l.foldl (fun st x => if inT T x then st else leG P wide high all m (nxt P T x) st) st).1 ≤ st.1 := by
      intro l
      induction l with
      | nil => intro st; exact Int.le_refl _
      | cons x l ih =>
        intro st
        rw [List.foldl_cons]
        refine Int.le_trans (ih _) ?_
        split
        · exact Int.le_refl _
        · exact leG_le m _ st
    have hl : (nxt P T x).length = T.length + 1 := nxt_len P T x
    have hi := fun st' => leG_min hU m (nxt P T x) st' (by omega) (by rw [hl]; exact hnx)
    have e3 : leG P wide high all (m + 1) T st = all.foldl (fun st x => if inT T x then st else leG P wide high all m (nxt P T x) st) st := rfl
    have e4 : all.foldl (fun st x => if inT T x then st else leG P wide high all m (nxt P T x) st) st = l2.foldl (fun st x => if inT T x then st else leG P wide high all m (nxt P T x) st) (leG P wide high all m (nxt P T x) (l1.foldl (fun st x => if inT T x then st else leG P wide high all m (nxt P T x) st) st)) := by
      have : ∀ (l : List StandV), l = l1 ++ x :: l2 → l.foldl (fun st x => if inT T x then st else leG P wide high all m (nxt P T x) st) st = l2.foldl (fun st x => if inT T x then st else leG P wide high all m (nxt P T x) st) (leG P wide high all m (nxt P T x) (l1.foldl (fun st x => if inT T x then st else leG P wide high all m (nxt P T x) st) st)) := fun l hl => by
        rw [hl, List.foldl_append, List.foldl_cons, hin]
        rfl
      exact this all e
    rw [e3, e4]
    exact Int.le_trans (key l2 _) (hi _)
end
theorem plA_of {wide : List Int} {r p : Nat} (hr : r < wide.length) (hp : p < (wide.getD r 0).toNat) : (⟨⟨#[]⟩, r, p⟩ : StandV) ∈ plA wide :=
  List.mem_flatMap.2 ⟨r, List.mem_range.2 hr, List.mem_map.2 ⟨p, List.mem_range.2 hp, rfl⟩⟩
/-- A place of the stage. -/
def OnP (wide : List Int) (x : StandV) : Prop := (0 ≤ x.row ∧ x.row ≤ wide.length - 1) ∧ 0 ≤ x.place ∧ x.place ≤ wide.getD x.row.toNat 0 - 1
theorem least_min {P : List PersonV} {wide high : List Int} {U : List StandV} (hl : U.length = P.length) (hnm : ∀ k, k < P.length → (U.getD k default).name = (P.getD k default).name) (hon : ∀ x ∈ U, OnP wide x) (hap : U.Pairwise Apart) :
    (leF P wide high (plA wide) P.length [] (P.length + 1, [])).1 ≤ hidT P wide high U := by
  have h0 := leF_leG (P := P) (wide := wide) (high := high) (all := plA wide) P.length [] (P.length + 1, []) (by have := hidT_bound P wide high []; simp only [List.length_nil] at this ⊢; omega)
  rw [h0]
  refine leG_min (fun k hk => ?_) P.length [] _ (by simp [hl]) (by simp)
  obtain ⟨⟨o1, o2⟩, o3, o4⟩ := hon U[k] (List.getElem_mem hk)
  have hn := hnm k (by omega)
  rw [List.getD_eq_getElem?_getD, List.getElem?_eq_getElem hk] at hn
  refine ⟨⟨⟨#[]⟩, (U[k].row.toNat : Nat), (U[k].place.toNat : Nat)⟩, plA_of (by omega) (by omega), ?_, ?_⟩
  · rw [List.getElem?_eq_getElem hk]
    unfold putN
    rw [← hn, Int.toNat_of_nonneg o1, Int.toNat_of_nonneg o3]
    rfl
  · unfold inT
    rw [List.any_eq_false]
    intro y hy hs
    obtain ⟨j, hj, e⟩ := List.getElem_of_mem hy
    rw [List.length_take] at hj
    have hjU : j < U.length := by omega
    rw [List.getElem_take] at e
    have := List.pairwise_iff_getElem.1 hap j k hjU hk (by omega)
    rw [e] at this
    unfold Apart at this
    unfold sameP at hs
    simp at hs
    omega
/-- What the best stands are. -/
theorem least_val {P : List PersonV} {wide high : List Int} (hwo : WideOk wide) (hn : P.length ≤ (plA wide).length) :
    ∃ v T, leF P wide high (plA wide) P.length [] (P.length + 1, []) = (v, T) ∧ v = hidT P wide high T ∧ T.length = P.length ∧ (∀ k, k < P.length → (T.getD k default).name = (P.getD k default).name) ∧ (∀ x ∈ T, OnP wide x) ∧ T.Pairwise Apart := by
  have hap : (plA wide).Pairwise (fun a b => sameP a b = false) := (plA_lt wide).imp fun h => ltV_notSame h
  have h0 := leF_leG (P := P) (wide := wide) (high := high) (all := plA wide) P.length [] (P.length + 1, []) (by have := hidT_bound P wide high []; simp only [List.length_nil] at this ⊢; omega)
  have h2 := leG_found (P := P) (wide := wide) (high := high) hap hn P.length [] (P.length + 1, []) (by simp)
  rw [← h0] at h2
  have h3 := leF_inv3 (P := P) (wide := wide) (high := high) (all := plA wide) (n := P.length) (R := fun T => (∀ k, k < T.length → (T.getD k default).name = (P.getD k default).name) ∧ (∀ x ∈ T, OnP wide x) ∧ T.Pairwise Apart)
    (Q := fun st => st.1 = P.length + 1 ∨ (st.1 = hidT P wide high st.2 ∧ st.2.length = P.length ∧ (∀ k, k < P.length → (st.2.getD k default).name = (P.getD k default).name) ∧ (∀ x ∈ st.2, OnP wide x) ∧ st.2.Pairwise Apart))
    (fun T x ⟨t1, t2, t3⟩ ht hx hi => ⟨fun k hk => by
      rw [nxt_len] at hk
      unfold nxt
      by_cases hkT : k < T.length
      · rw [List.getD_eq_getElem?_getD, List.getElem?_append_left hkT, ← List.getD_eq_getElem?_getD]
        exact t1 k hkT
      · obtain rfl : k = T.length := by omega
        rw [List.getD_eq_getElem?_getD, List.getElem?_append_right (Nat.le_refl _)]
        simp [putN], fun y hy => by
      rcases List.mem_append.1 hy with h | h
      · exact t2 y h
      · rw [List.mem_singleton.1 h]
        obtain ⟨r, p, hr, hp, rfl⟩ := plA_mem hx
        unfold OnP putN
        simp only [Int.toNat_natCast]
        omega, apart_nxt t3 hi⟩)
    (fun T ⟨t1, t2, t3⟩ ht => .inr ⟨rfl, ht, fun k hk => t1 k (by omega), t2, t3⟩) P.length [] (P.length + 1, []) ⟨(fun k hk => by simp at hk), (fun x hx => by cases hx), List.Pairwise.nil⟩ (by simp) (.inl rfl)
  generalize leF P wide high (plA wide) P.length [] (P.length + 1, []) = st at *
  obtain ⟨v, T⟩ := st
  simp only at h2 h3
  rcases h3 with h3 | h3
  · omega
  · exact ⟨v, T, rfl, h3⟩
theorem hidN_perm {P : List PersonV} {wide high : List Int} {S T : List StandV} (h : S.Perm T) : hidN P wide high S S = hidN P wide high T T := by
  unfold hidN
  have e : ∀ b, hidAny P wide high S b = hidAny P wide high T b := fun b => by
    unfold hidAny
    rw [Bool.eq_iff_iff, List.any_eq_true, List.any_eq_true]
    exact ⟨fun ⟨a, ha, k⟩ => ⟨a, h.subset ha, k⟩, fun ⟨a, ha, k⟩ => ⟨a, h.symm.subset ha, k⟩⟩
  have e2 : (fun b => hidAny P wide high S b) = fun b => hidAny P wide high T b := funext e
  rw [e2]
  exact (h.filter _).length_eq
theorem hasP_of {P : List PersonV} {x : PersonV} (h : x ∈ P) : hasP P x.name = true := by
  unfold hasP
  rw [List.any_eq_true]
  exact ⟨x, h, by simp⟩
theorem people_names {P : List PersonV} (h : PeopleOk P) : (P.map (·.name)).Nodup := by
  rw [List.nodup_iff_pairwise_ne, List.pairwise_map, List.pairwise_iff_getElem]
  intro i j hi hj hij e
  have := h.less (List.getElem?_eq_getElem hi) (List.getElem?_eq_getElem hj) hij
  rw [e, cmpS_refl] at this
  cases this
/-- Stands of all people, one by one, in another order, are right. -/
theorem right_of {P : List PersonV} {wide high : List Int} {T M : List StandV} (h0 : ostF P wide high = 0) (hok : PeopleOk P) (hl : T.length = P.length) (hnm : ∀ k, k < P.length → (T.getD k default).name = (P.getD k default).name) (hon : ∀ x ∈ T, OnP wide x) (hp : M.Perm T) (hs : M.Pairwise (fun a b => ltV a b = true)) : standsF P wide high M = 0 := by
  have e : T.map (·.name) = P.map (·.name) := by
    apply List.ext_getElem
    · simp [hl]
    · intro i h1 h2
      have hi : i < P.length := by simpa using h2
      have hiT : i < T.length := by omega
      have := hnm i hi
      rw [List.getD_eq_getElem?_getD, List.getElem?_eq_getElem hiT, List.getD_eq_getElem?_getD, List.getElem?_eq_getElem hi] at this
      simpa using this
  refine standsF_mk h0 (by rw [hp.length_eq, hl]; exact Nat.le_refl _) (fun x hx => ?_) hs ?_
  · have hxT := hp.subset hx
    have : x.name ∈ P.map (·.name) := by rw [← e]; exact List.mem_map.2 ⟨x, hxT, rfl⟩
    obtain ⟨q, hq, hqn⟩ := List.mem_map.1 this
    have h9 := hasP_of hq
    rw [hqn] at h9
    exact ⟨h9, hon x hxT⟩
  · unfold namesS
    have h9 := (hp.map (·.name)).nodup_iff.2 (by rw [e]; exact people_names hok)
    exact h9

/-! ### rows by height -/
theorem leftN_sum {wide : List Int} (hwo : WideOk wide) (n : Nat) : ∀ r, r ≤ wide.length → (leftN wide n r : Int) = max 0 (n - sumT wide r)
  | 0, _ => by simp [leftN, sumT]
  | r + 1, hr => by
    have ih := leftN_sum hwo n r (by omega)
    obtain ⟨v, hv⟩ := getD_some (rfl : wide.length = wide.length) (show r < wide.length by omega)
    obtain ⟨v1, v2⟩ := hwo.2 v (List.mem_of_getElem? hv)
    have e : wide.getD r 0 = v := by rw [List.getD_eq_getElem?_getD, hv]; rfl
    rw [leftN_succ, sumT_succ hv]
    unfold takeN
    rw [e]
    omega
theorem bhL_names (wide : List Int) (M : List PersonV) : ∀ r, (bhL wide M r).map (·.name) = (M.take (M.length - leftN wide M.length r)).map (·.name)
  | 0 => by simp [bhL, leftN]
  | r + 1 => by
    rw [bhL_succ, List.map_append, bhL_names wide M r]
    have h1 := leftN_le wide M.length r
    have h2 := takeN_le wide M.length r
    have e : M.length - leftN wide M.length (r + 1) = (M.length - leftN wide M.length r) + takeN wide M.length r := by rw [leftN_succ]; omega
    rw [e, List.take_add, List.map_append]
    congr 1
    have e2 : (M.drop (M.length - leftN wide M.length r)).take (takeN wide M.length r) = headP wide M r := rfl
    rw [e2]
    apply List.ext_getElem
    · simp [rowP_len]
    · intro i h1 h2
      have hi : i < (headP wide M r).length := by simpa using h2
      have h3 := rowP_at (wide := wide) (r := r) (List.getElem?_eq_getElem hi)
      have h4 := (List.getElem?_eq_some_iff.1 h3).2
      simp [h4]
theorem rowP_on {wide : List Int} {r : Nat} {Q : List PersonV} {x : StandV} (hr : r < wide.length) (hq : Q.length ≤ (wide.getD r 0).toNat) (h : x ∈ rowP wide r Q) : OnP wide x ∧ x.row = r := by
  obtain ⟨i, y, hy, rfl⟩ := rowP_mem h
  have hi := (List.getElem?_eq_some_iff.1 hy).1
  refine ⟨⟨⟨?_, ?_⟩, ?_, ?_⟩, rfl⟩
  · show (0 : Int) ≤ r; omega
  · show (r : Int) ≤ wide.length - 1; omega
  · show (0 : Int) ≤ (wide.getD r 0 - Q.length) / 2 + i; omega
  · show (wide.getD r 0 - Q.length) / 2 + i ≤ wide.getD r 0 - 1; omega
theorem rowP_lt (wide : List Int) (r : Nat) (Q : List PersonV) : (rowP wide r Q).Pairwise (fun a b => ltV a b = true) := by
  unfold rowP
  rw [List.pairwise_map]
  exact (List.pairwise_lt_range).imp fun {a b} h => by simp [ltV]; omega
theorem bhL_on {wide : List Int} (M : List PersonV) {r : Nat} (hr : r ≤ wide.length) {x : StandV} (h : x ∈ bhL wide M r) : OnP wide x := by
  unfold bhL at h
  obtain ⟨k, hk, hx⟩ := List.mem_flatMap.1 h
  have hk := List.mem_range.1 hk
  exact (rowP_on (by omega) (by rw [headP_len]; exact takeN_wide _ _ _) hx).1
theorem bhL_lt {wide : List Int} (M : List PersonV) {r : Nat} (hr : r ≤ wide.length) : (bhL wide M r).Pairwise (fun a b => ltV a b = true) := by
  unfold bhL
  rw [List.pairwise_flatMap]
  refine ⟨fun k _ => rowP_lt wide k _, ?_⟩
  rw [List.pairwise_iff_getElem]
  intro i j hi hj hij
  simp only [List.length_range] at hi hj
  simp only [List.getElem_range]
  intro x hx y hy
  have h1 := (rowP_on (by omega) (by rw [headP_len]; exact takeN_wide _ _ _) hx).2
  have h2 := (rowP_on (by omega) (by rw [headP_len]; exact takeN_wide _ _ _) hy).2
  simp [ltV]
  omega
theorem ltV_apart {a b : StandV} (h : ltV a b = true) : Apart a b := by
  unfold ltV at h
  unfold Apart
  simp at h
  omega
theorem bhL_right {P M : List PersonV} {wide high : List Int} (h0 : ostF P wide high = 0) (hok : PeopleOk P) (hwo : WideOk wide) (hf : fullF P wide = 0) (hM : ByH P M) :
    (bhL wide M wide.length).length = P.length ∧ standsF P wide high (bhL wide M wide.length) = 0 ∧ (leF P wide high (plA wide) P.length [] (P.length + 1, [])).1 ≤ hidT P wide high (bhL wide M wide.length) := by
  have hml := hM.1.length_eq
  have hle : leftN wide M.length wide.length = 0 := by
    have h1 := leftN_sum hwo M.length wide.length (Nat.le_refl _)
    unfold fullF at hf
    split at hf
    · cases hf
    · omega
  have hln : (bhL wide M wide.length).length = P.length := by rw [bhL_len, hle]; omega
  have hnm := bhL_names wide M wide.length
  rw [hle, Nat.sub_zero, List.take_length] at hnm
  have hnd := people_names hok
  have hndM : (M.map (·.name)).Nodup := ((hM.1.map (·.name)).nodup_iff).2 hnd
  have hndA : (namesS (bhL wide M wide.length)).Nodup := by unfold namesS; rw [hnm]; exact hndM
  have hlt := bhL_lt (wide := wide) M (Nat.le_refl _)
  have hon := fun x hx => bhL_on (wide := wide) M (Nat.le_refl _) (x := x) hx
  generalize bhL wide M wide.length = A at *
  have hst : standsF P wide high A = 0 := by
    refine standsF_mk h0 (by omega) (fun x hx => ?_) hlt hndA
    have : x.name ∈ M.map (·.name) := by rw [← hnm]; exact List.mem_map.2 ⟨x, hx, rfl⟩
    obtain ⟨q, hq, hqn⟩ := List.mem_map.1 this
    have h9 := hasP_of (hM.1.subset hq)
    rw [hqn] at h9
    exact ⟨h9, hon x hx⟩
  refine ⟨hln, hst, ?_⟩
  -- in the people's order
  let f : PersonV → StandV := fun p => (A.find? fun x => x.name.toList == p.name.toList).getD default
  have hf9 : ∀ i (h : i < M.length) (h2 : i < A.length), f M[i] = A[i] := fun i h h2 => by
    have e1 : (A.map (·.name))[i]? = (M.map (·.name))[i]? := by rw [hnm]
    rw [List.getElem?_map, List.getElem?_map, List.getElem?_eq_getElem h, List.getElem?_eq_getElem h2] at e1
    have e2 : A[i].name = M[i].name := by simpa using e1
    show (A.find? fun x => x.name.toList == M[i].name.toList).getD default = A[i]
    have e3 : A.find? (fun x => x.name.toList == M[i].name.toList) = some A[i] := by
      cases hfi : A.find? (fun x => x.name.toList == M[i].name.toList) with
      | none =>
        have := List.find?_eq_none.1 hfi A[i] (List.getElem_mem h2)
        simp [e2] at this
      | some z =>
        have hz := List.find?_some hfi
        have hzm := List.mem_of_find?_eq_some hfi
        obtain ⟨j, hj, ej⟩ := List.getElem_of_mem hzm
        have hzn : z.name = M[i].name := baL.1 hz
        have hnn : (namesS A)[j]? = (namesS A)[i]? := by
          unfold namesS
          rw [List.getElem?_map, List.getElem?_map, List.getElem?_eq_getElem hj, List.getElem?_eq_getElem h2, ej]
          simp [hzn, e2]
        have hji : j = i := (List.getElem?_inj (by unfold namesS; simpa using hj) hndA).1 hnn
        subst hji
        rw [ej]
    rw [e3]
    rfl
  have hAM : A = M.map f := by
    apply List.ext_getElem
    · simp; omega
    · intro i h1 h2
      rw [List.getElem_map]
      exact (hf9 i (by simpa using h2) h1).symm
  have hperm : A.Perm (P.map f) := by rw [hAM]; exact hM.1.map f
  have hmin := least_min (P := P) (wide := wide) (high := high) (U := P.map f) (by simp) (fun k hk => by
    rw [List.getD_eq_getElem?_getD, List.getElem?_map, List.getElem?_eq_getElem hk, List.getD_eq_getElem?_getD, List.getElem?_eq_getElem hk]
    have hmem : P[k] ∈ M := hM.1.symm.subset (List.getElem_mem hk)
    obtain ⟨i, hi, ei⟩ := List.getElem_of_mem hmem
    have h2 : i < A.length := by omega
    have h9 := hf9 i hi h2
    rw [ei] at h9
    have e1 : (A.map (·.name))[i]? = (M.map (·.name))[i]? := by rw [hnm]
    rw [List.getElem?_map, List.getElem?_map, List.getElem?_eq_getElem hi, List.getElem?_eq_getElem h2, ei] at e1
    have e2 : A[i].name = P[k].name := by simpa using e1
    show (f P[k]).name = P[k].name
    rw [h9, e2]) (fun x hx => hon x (hperm.symm.subset hx)) ((hperm.pairwise_iff (fun {x y} h k => h ⟨k.1.symm, k.2.symm⟩)).1 (hlt.imp ltV_apart))
  unfold hidT at hmin ⊢
  rw [hidN_perm hperm]
  exact hmin
end Go.Proofs.YtfbegdcmnfkhgaaGreatDoor
