/- The document's search for the fewest buses finds what load finds: plain mathematics. Conditions: as each theorem says. -/
import Derived.Test.YtlmbpgjdepmlcaaDoorBusM
namespace Go.Proofs.YtlmbpgjdepmlcaaDoor
open Go

/-- ldF, where the buses so far are no more than allowed. -/
def ldG (seat : Int) (m : Nat) (ns left : List Int) : Option (List Nat) := if left.length ≤ m then ldF seat m ns left else none
def putG (seat : Int) (m : Nat) (ns : List Int) (n : Int) (left : List Int) (k : Nat) : Option (List Nat) :=
  if n ≤ left.getD k seat then (ldG seat m ns ((freshL seat left k).set k (left.getD k seat - n))).map (k :: ·) else none
theorem findSome_congr {β : Type} {f g : Nat → Option β} : ∀ {l : List Nat}, (∀ x ∈ l, f x = g x) → l.findSome? f = l.findSome? g
  | [], _ => rfl
  | x :: l, h => by
    rw [List.findSome?_cons, List.findSome?_cons, h x (by simp), findSome_congr fun y hy => h y (by simp [hy])]
theorem ldG_cons (seat : Int) (m : Nat) (ns : List Int) (n : Int) (left : List Int) : ldG seat m (n :: ns) left = (List.range (left.length + 1)).findSome? (putG seat m ns n left) := by
  have hlen : ∀ k, k ≤ left.length → ((freshL seat left k).set k (left.getD k seat - n)).length = if k = left.length then left.length + 1 else left.length := fun k hk => by
    rw [List.length_set]
    unfold freshL
    split
    · rw [List.length_append, List.length_singleton]
    · rfl
  unfold ldG
  by_cases hm : left.length ≤ m
  · rw [if_pos hm]
    simp only [ldF]
    have hput : ∀ k, k < min (left.length + 1) m → putB (ldF seat m ns) seat n left k = putG seat m ns n left k := fun k hk => by
      have hkl : k ≤ left.length := by omega
      unfold putB putG ldG
      rw [fresh_at hkl, hlen k hkl, if_pos (show (if k = left.length then left.length + 1 else left.length) ≤ m by split <;> omega)]
    by_cases h2 : left.length + 1 ≤ m
    · rw [Nat.min_eq_left h2] at hput ⊢
      exact findSome_congr fun k hk => hput k (List.mem_range.1 hk)
    · obtain rfl : m = left.length := by omega
      rw [Nat.min_eq_right (Nat.le_succ _)] at hput ⊢
      rw [List.range_succ, List.findSome?_append, findSome_congr fun k hk => hput k (List.mem_range.1 hk)]
      have h3 : putG seat left.length ns n left left.length = none := by
        unfold putG ldG
        rw [hlen _ (Nat.le_refl _), if_pos rfl, if_neg (show ¬ left.length + 1 ≤ left.length by omega)]
        split <;> rfl
      simp [h3]
  · rw [if_neg hm]
    refine (range_none fun k hk => ?_).symm
    unfold putG ldG
    rw [hlen k (by omega), if_neg (show ¬ (if k = left.length then left.length + 1 else left.length) ≤ m by split <;> omega)]
    split <;> rfl

/-- st: the best of st0 and of what P tells for each number of buses. -/
def IsBest (P : Nat → Option (List Nat)) (st0 st : List Nat × Nat) : Prop :=
  (∃ m bs, m < st0.2 ∧ P m = some bs ∧ (∀ q, q < m → P q = none) ∧ st = (bs, m)) ∨ ((∀ m, m < st0.2 → P m = none) ∧ st = st0)
theorem IsBest.or {P Q : Nat → Option (List Nat)} {st0 st1 st2 : List Nat × Nat} (h1 : IsBest P st0 st1) (h2 : IsBest Q st1 st2) : IsBest (fun m => (P m).or (Q m)) st0 st2 := by
  rcases h1 with ⟨m, bs, hm, hP, hq, rfl⟩ | ⟨hn, rfl⟩
  · rcases h2 with ⟨m2, bs2, hm2, hQ, hq2, rfl⟩ | ⟨hn2, rfl⟩
    · simp only at hm2
      refine .inl ⟨m2, bs2, by omega, by show (P m2).or (Q m2) = _; rw [hq m2 hm2, hQ]; rfl, fun q hqq => ?_, rfl⟩
      show (P q).or (Q q) = _
      rw [hq q (by omega), hq2 q hqq]
      rfl
    · refine .inl ⟨m, bs, hm, by show (P m).or (Q m) = _; rw [hP]; rfl, fun q hqq => ?_, rfl⟩
      show (P q).or (Q q) = _
      rw [hq q hqq, hn2 q hqq]
      rfl
  · rcases h2 with ⟨m2, bs2, hm2, hQ, hq2, rfl⟩ | ⟨hn2, rfl⟩
    · refine .inl ⟨m2, bs2, hm2, by show (P m2).or (Q m2) = _; rw [hn m2 hm2, hQ]; rfl, fun q hqq => ?_, rfl⟩
      show (P q).or (Q q) = _
      rw [hn q (by omega), hq2 q hqq]
      rfl
    · refine .inr ⟨fun q hqq => ?_, rfl⟩
      show (P q).or (Q q) = _
      rw [hn q hqq, hn2 q hqq]
      rfl
theorem IsBest.congr {P Q : Nat → Option (List Nat)} {st0 st : List Nat × Nat} (h : IsBest P st0 st) (e : ∀ m, P m = Q m) : IsBest Q st0 st := by
  rwa [show P = Q from funext e] at h
theorem IsBest.none (st : List Nat × Nat) : IsBest (fun _ => .none) st st := .inr ⟨fun _ _ => rfl, rfl⟩

def fullF (full : List Int) (k : Nat) : List Int := if k = full.length then full ++ [0] else full
/-- The document's search. -/
def rfF (seat : Int) : List Int → List Nat → List Int → List Nat × Nat → List Nat × Nat
  | [], of, full, st => if full.length < st.2 then (of, full.length) else st
  | n :: ns, of, full, st => (List.range (full.length + 1)).foldl (fun st k => if (fullF full k).getD k 0 + n ≤ seat then rfF seat ns (of ++ [k]) ((fullF full k).set k ((fullF full k).getD k 0 + n)) st else st) st
def leftF (seat : Int) (full : List Int) : List Int := full.map fun x => seat - x
theorem leftF_len (seat : Int) (full : List Int) : (leftF seat full).length = full.length := List.length_map _
theorem leftF_at {seat : Int} {full : List Int} {k : Nat} (hk : k ≤ full.length) : (leftF seat full).getD k seat = seat - (fullF full k).getD k 0 := by
  unfold leftF fullF
  rw [List.getD_eq_getElem?_getD, List.getD_eq_getElem?_getD, List.getElem?_map]
  by_cases h : k = full.length
  · subst h
    rw [if_pos rfl, List.getElem?_eq_none (Nat.le_refl _), List.getElem?_append_right (Nat.le_refl _)]
    simp
  · rw [if_neg h, List.getElem?_eq_getElem (by omega)]
    rfl
theorem leftF_set {seat : Int} {full : List Int} {k : Nat} {v : Int} : leftF seat ((fullF full k).set k v) = (freshL seat (leftF seat full) k).set k (seat - v) := by
  unfold leftF fullF freshL
  rw [List.map_set, List.length_map]
  split
  · rw [List.map_append]
    simp
  · rfl

theorem rf_best {seat : Int} : ∀ (ns : List Int) (of : List Nat) (full : List Int) (st : List Nat × Nat), IsBest (fun m => (ldG seat m ns (leftF seat full)).map (of ++ ·)) st (rfF seat ns of full st)
  | [], of, full, st => by
    simp only [rfF]
    by_cases h : full.length < st.2
    · rw [if_pos h]
      refine .inl ⟨full.length, of, h, ?_, fun q hq => ?_, rfl⟩
      · show (ldG seat full.length [] (leftF seat full)).map (of ++ ·) = some of
        unfold ldG
        rw [leftF_len, if_pos (Nat.le_refl _)]
        simp [ldF]
      · show (ldG seat q [] (leftF seat full)).map (of ++ ·) = none
        unfold ldG
        rw [leftF_len, if_neg (by omega)]
        rfl
    · rw [if_neg h]
      refine .inr ⟨fun m hm => ?_, rfl⟩
      show (ldG seat m [] (leftF seat full)).map (of ++ ·) = none
      unfold ldG
      rw [leftF_len, if_neg (by omega)]
      rfl
  | n :: ns, of, full, st => by
    have step : ∀ (k : Nat) (st : List Nat × Nat), k ≤ full.length → IsBest (fun m => (putG seat m ns n (leftF seat full) k).map (of ++ ·)) st (if (fullF full k).getD k 0 + n ≤ seat then rfF seat ns (of ++ [k]) ((fullF full k).set k ((fullF full k).getD k 0 + n)) st else st) := fun k st hk => by
      by_cases h : (fullF full k).getD k 0 + n ≤ seat
      · rw [if_pos h]
        refine (rf_best ns (of ++ [k]) ((fullF full k).set k ((fullF full k).getD k 0 + n)) st).congr fun m => ?_
        unfold putG
        rw [leftF_at hk, if_pos (by omega), leftF_set, show seat - ((fullF full k).getD k 0 + n) = seat - (fullF full k).getD k 0 - n by omega, Option.map_map]
        congr 1
        funext x
        simp
      · rw [if_neg h]
        refine (IsBest.none st).congr fun m => ?_
        unfold putG
        rw [leftF_at hk, if_neg (by omega)]
        rfl
    have loop : ∀ K, K ≤ full.length + 1 → ∀ st, IsBest (fun m => ((List.range K).findSome? (putG seat m ns n (leftF seat full))).map (of ++ ·)) st ((List.range K).foldl (fun st k => if (fullF full k).getD k 0 + n ≤ seat then rfF seat ns (of ++ [k]) ((fullF full k).set k ((fullF full k).getD k 0 + n)) st else st) st) := by
      intro K
      induction K with
      | zero => exact fun _ st => (IsBest.none st).congr fun m => by simp
      | succ K ih =>
        intro hK st
        rw [List.range_succ, List.foldl_append]
        refine ((ih (by omega) st).or (step K _ (by omega))).congr fun m => ?_
        rw [List.findSome?_append]
        cases (List.range K).findSome? (putG seat m ns n (leftF seat full)) with
        | some r => rfl
        | none => simp
    simp only [rfF]
    refine (loop (full.length + 1) (Nat.le_refl _) st).congr fun m => ?_
    rw [ldG_cons, leftF_len]
/-- The document's search finds the fewest buses, as load does. -/
theorem rf_few {seat : Int} {ns : List Int} {most : Nat} {bs : List Nat} {few : Nat} {b0 : List Nat} (h : ldF seat most ns [] = some bs) (hmin : ∀ m, m < most → ldF seat m ns [] = none) (hf : most < few) : rfF seat ns [] [] (b0, few) = (bs, most) := by
  have hg : ∀ m, ldG seat m ns (leftF seat []) = ldF seat m ns [] := fun m => by unfold ldG leftF; simp
  rcases rf_best (seat := seat) ns [] [] (b0, few) with ⟨m, r, hm, hP, hq, e⟩ | ⟨hn, e⟩
  · rw [e]
    simp only [hg, List.nil_append, Option.map_id'] at hP hq
    have e2 : m = most := by
      rcases Nat.lt_trichotomy m most with h1 | h1 | h1
      · rw [hmin m h1] at hP; cases hP
      · exact h1
      · have := hq most h1
        rw [h] at this; cases this
    subst e2
    rw [h] at hP
    cases hP
    rfl
  · have := hn most hf
    simp only [hg, h] at this
    cases this
end Go.Proofs.YtlmbpgjdepmlcaaDoor
