/- Plain mathematics: parts that are shifted are right, and come back. Conditions: as each theorem says. Plain mathematics: with a further singer who can sing all parts one less is lacking. Conditions: as each theorem says. -/
import Derived.Test.YthhbhjppljblnaaGreatDoorLiGiS
set_option linter.unusedSimpArgs false
set_option linter.unusedVariables false
namespace Go.Proofs.YthhbhjppljblnaaGreatDoor
open Go Go.RowKit

theorem rightP_in {x : PartV} (h : rightP x = true) : rightR x.lo x.hi = true ∧ inB x.least 0 x.most = true ∧ decide (x.most ≤ 100) = true := by
  unfold rightP at h
  simp only [Bool.and_eq_true] at h
  exact ⟨h.1.1, h.1.2, h.2⟩
end Go.Proofs.YthhbhjppljblnaaGreatDoor

namespace Go.Proofs.YthhbhjppljblnaaGreatDoor
open Go Go.RowKit

def zoeN : ByteArray := ⟨#[122, 111, 101]⟩
def zoeV : VoiceV := ⟨zoeN, 0, 0, 127⟩
def nm6 : List ByteArray := ⟨#[]⟩ :: nm5
theorem nm5_in (j : Nat) : nm5.getD j ⟨#[]⟩ ∈ nm6 := by
  rcases Nat.lt_or_ge j 5 with h | h
  · have : ∀ j : Fin 5, nm5.getD j.1 ⟨#[]⟩ ∈ nm6 := by
      intro j
      refine List.mem_cons_of_mem _ ?_
      rw [List.getD_eq_getElem?_getD, List.getElem?_eq_getElem (show j.1 < nm5.length from j.2)]
      exact List.getElem_mem _
    exact this ⟨j, h⟩
  · rw [List.getD_eq_getElem?_getD, List.getElem?_eq_none (show nm5.length ≤ j from h)]
    exact List.mem_cons_self ..
theorem vrOut_names (L : Src) (a : Nat) : ∀ j, ∀ x ∈ (vrOut L a j).1, x.name ∈ nm6
  | 0 => fun x hx => by cases hx
  | j + 1 => fun x hx => by
    rcases List.mem_append.1 hx with h | h
    · exact vrOut_names L a j x h
    · obtain ⟨k, _, rfl⟩ := List.mem_map.1 h
      exact nm5_in j
theorem vrF_names (L : Src) (a most : Nat) : ∀ x ∈ (vrF L a most).1, x.name ∈ nm6 := by
  unfold vrF
  simp only
  split
  · exact vrOut_names L _ _
  · split
    · intro x hx
      rcases List.mem_or_eq_of_mem_set hx with h | h
      · exact vrOut_names L _ _ x h
      · rw [h]
        generalize hz : (vrOut L (a + 1) (rgF L a 0 most).toNat).1.getD (nxF L ((vrOut L (a + 1) (rgF L a 0 most).toNat).2 + 1) (vrOut L (a + 1) (rgF L a 0 most).toNat).1.length) default = z
        have hzn : z.name ∈ nm6 := by
          rw [← hz, List.getD_eq_getElem?_getD]
          cases e : (vrOut L (a + 1) (rgF L a 0 most).toNat).1[nxF L ((vrOut L (a + 1) (rgF L a 0 most).toNat).2 + 1) (vrOut L (a + 1) (rgF L a 0 most).toNat).1.length]? with
          | none => exact List.mem_cons_self ..
          | some y => exact vrOut_names L _ _ y (List.mem_of_getElem? e)
        have h3 := smF_mem (L := L) (a := (vrOut L (a + 1) (rgF L a 0 most).toNat).2 + 2) (xs := [z.name, ⟨#[]⟩, ⟨#[97, 110, 110]⟩]) (by simp)
        simp only [List.mem_cons, List.not_mem_nil, or_false] at h3
        rcases h3 with e | e | e <;> rw [e]
        · exact hzn
        · exact List.mem_cons_self ..
        · exact List.mem_cons_of_mem _ (List.mem_cons_self ..)
    · exact vrOut_names L _ _
theorem rvF_names (L : Src) (most : Nat) : ∀ (t a : Nat), ∀ x ∈ (rvF L most t a).1, x.name ∈ nm6
  | 0, _ => fun x hx => by cases hx
  | t + 1, a => by
    unfold rvF
    split
    · exact vrF_names L a most
    · exact rvF_names L most t _
theorem names_zoe : ∀ nm ∈ nm6, cmpS nm zoeN = -1 := by decide +kernel
theorem names_le : ∀ nm ∈ nm6, nm.data.toList ≤ zoeN.data.toList ∧ nm ≠ zoeN := by
  intro nm h
  have h1 := names_zoe nm h
  have hne : nm ≠ zoeN := fun e => by rw [e, cmpS_refl] at h1; cases h1
  refine ⟨?_, hne⟩
  have : ∀ nm ∈ nm6, nm.data.toList ≤ zoeN.data.toList := by decide +kernel
  exact this nm h

/-! ### right voices with one more -/
theorem scan_end {n : Nat} {f : Nat → Int} (h : scanF n f = 0) (hn : f n = 0) : scanF (n + 1) f = 0 := by
  have hz : ∀ k, k ≤ n → Zeros f k := by
    intro k
    induction k with
    | zero => intro _ j hj; omega
    | succ k ih =>
      intro hk
      refine (ih (by omega)).succ ?_
      rcases Int.decEq (f k) 0 with e | e
      · have := scan_at (n := n) k (by omega) (ih (by omega)) e
        rw [h] at this
        exact this.symm
      · exact e
  exact scan_zero ((hz n (Nat.le_refl _)).succ hn)
theorem atL_left {α : Type} {d : α} {xs ys : List α} {i : Nat} (h : i < xs.length) : atL d (xs ++ ys) i = atL d xs i := by
  unfold atL
  rw [List.getD_eq_getElem?_getD, List.getD_eq_getElem?_getD, List.getElem?_append_left h]
theorem voicesF_zoe {V : List VoiceV} (h : voicesF V = 0) (hn : ∀ x ∈ V, x.name ∈ nm6) : voicesF (V ++ [zoeV]) = 0 := by
  unfold voicesF at h ⊢
  rw [List.length_append, List.length_singleton]
  have e : ∀ j, j < V.length → chkVoi (V ++ [zoeV]) j = chkVoi V j := fun j hj => by
    unfold chkVoi
    rw [atL_left hj, atL_left (show j - 1 < V.length by omega)]
  refine scan_end (by rw [scan_congr e]; exact h) ?_
  have hz : atL default (V ++ [zoeV]) V.length = zoeV := atL_of (by rw [List.getElem?_append_right (Nat.le_refl _), Nat.sub_self]; rfl)
  unfold chkVoi
  rw [hz]
  have h1 : keyB zoeV.name = true := by decide +kernel
  have h2 : momB zoeV.fr = true := by decide
  have h3 : rightR zoeV.lo zoeV.hi = true := by decide
  rw [h1, h2, h3]
  simp only [if_true, Bool.and_self]
  rcases Nat.eq_zero_or_pos V.length with h0 | h0
  · rw [h0]; rfl
  · obtain ⟨x, hx⟩ := getD_some (rfl : V.length = V.length) (show V.length - 1 < V.length by omega)
    have h4 : atL default (V ++ [zoeV]) (V.length - 1) = x := by rw [atL_left (by omega)]; exact atL_of hx
    rw [h4]
    have h5 : voiO x zoeV = -1 := by
      unfold voiO
      rw [show cmpS x.name zoeV.name = -1 from names_zoe _ (hn x (List.mem_of_getElem? hx))]
      rfl
    rw [h5]
    simp
theorem rg_zoe (V : List VoiceV) (t : Int) (ht : 0 ≤ t) (p : ByteArray) : rgS (V ++ [zoeV]) t (V ++ [zoeV]).length p = if zoeN = p then some (0, 127) else rgS V t V.length p := by
  have hz : (V ++ [zoeV])[V.length]? = some zoeV := by rw [List.getElem?_append_right (Nat.le_refl _), Nat.sub_self]; rfl
  show rgOf (V ++ [zoeV]) t p (V ++ [zoeV]).length = _
  rw [List.length_append, List.length_singleton, rgOf_succ hz]
  have e : rgOf (V ++ [zoeV]) t p V.length = rgOf V t p V.length := by
    unfold rgOf
    rw [List.take_left' rfl, List.take_length]
  rw [e]
  by_cases h : zoeN = p
  · rw [if_pos h, if_pos ⟨ht, h⟩]; rfl
  · rw [if_neg h, if_neg (fun hc => h hc.2)]; rfl
theorem singers_in {V : List VoiceV} {t : Int} {s : ByteArray} (h : s ∈ singersL V t) : ∃ x ∈ V, x.name = s := by
  unfold singersL at h
  rw [onceL_mem] at h
  unfold namesAt at h
  obtain ⟨x, hx, rfl⟩ := List.mem_map.1 h
  exact ⟨x, List.mem_of_mem_take (List.mem_filter.1 hx).1, rfl⟩
theorem singers_zoe {V : List VoiceV} (hn : ∀ x ∈ V, x.name ∈ nm6) (t : Int) (ht : 0 ≤ t) : singersL (V ++ [zoeV]) t = singersL V t ++ [zoeN] := by
  have hs : ∀ s ∈ singersL V t, s ∈ nm6 := fun s h => by
    obtain ⟨x, hx, rfl⟩ := singers_in h
    exact hn x hx
  refine rise_uniq (singers_rise _ _) ?_ fun p => ?_
  · unfold RiseN
    rw [List.pairwise_append]
    refine ⟨singers_rise V t, List.pairwise_singleton _ _, fun a ha b hb => ?_⟩
    rw [List.mem_singleton.1 hb]
    exact names_le a (hs a ha)
  · rw [singers_mem, rg_zoe V t ht, List.mem_append, List.mem_singleton, singers_mem]
    by_cases h : zoeN = p
    · rw [if_pos h]; simp [h]
    · rw [if_neg h]
      have : ¬ p = zoeN := fun e => h e.symm
      simp [this]
theorem comL_zoe {V : List VoiceV} (hn : ∀ x ∈ V, x.name ∈ nm6) (t : Int) (ht : 0 ≤ t) (P : List PartV) : comL (V ++ [zoeV]) t P = comL V t P ++ [P.map fun x => comF (0, 127) (x.lo, x.hi)] := by
  unfold comL
  rw [singers_zoe hn t ht, List.map_append]
  congr 1
  · refine List.map_congr_left fun s hs => ?_
    unfold comRow
    rw [rg_zoe V t ht]
    obtain ⟨x, hx, rfl⟩ := singers_in hs
    rw [if_neg fun e => (names_le _ (hn x hx)).2 e.symm]
  · simp only [List.map_cons, List.map_nil]
    unfold comRow
    rw [rg_zoe V t ht, if_pos rfl]
    rfl
/-! ### one singer more -/
theorem canC_old {C : List (List Int)} {r : List Int} {s p : Nat} (h : s < C.length) : canC (C ++ [r]) s p = canC C s p := by
  unfold canC
  simp only [List.getD_eq_getElem?_getD]
  rw [List.getElem?_append_left h]
theorem canC_new {C : List (List Int)} {r : List Int} {p : Nat} {c : Int} (h : r[p]? = some c) (h0 : 0 ≤ c) : canC (C ++ [r]) C.length p = true := by
  rw [canC_at (r := r) (by rw [List.getElem?_append_right (Nat.le_refl _), Nat.sub_self]; rfl) h]
  exact decide_eq_true h0
theorem need_more {can can' : Nat → Nat → Bool} {lst : Nat → Nat} {n m : Nat} (h1 : ∀ s p, s < m → can' s p = can s p) (h2 : ∀ p, p < n → can' m p = true) {set : Nat} (h0 : 0 < set) (hl : set < 2 ^ n) : needF can' lst n (m + 1) (bitX set) = needF can lst n m (bitX set) - 1 := by
  have e : canN can' n (bitX set) m = canN can n (bitX set) m := canN_congr (fun _ _ => rfl) fun s p hs _ => h1 s p hs
  have ht : touchB can' n (bitX set) m = true := by
    obtain ⟨p, hp, hb⟩ := bit_some h0 hl
    unfold touchB
    rw [List.any_eq_true]
    exact ⟨p, List.mem_range.2 hp, by rw [hb, h2 p hp]; rfl⟩
  unfold needF
  rw [canN_succ, e, ht]
  simp
  omega
theorem lack_more {can can' : Nat → Nat → Bool} {lst : Nat → Nat} {n m : Nat} (h1 : ∀ s p, s < m → can' s p = can s p) (h2 : ∀ p, p < n → can' m p = true) :
    (lackF can lst n m = 0 → lackF can' lst n (m + 1) = 0) ∧ (lackF can lst n m ≠ 0 → lackF can' lst n (m + 1) = lackF can lst n m - 1) := by
  have hle : ∀ j, j < 2 ^ n → needF can lst n m (bitX j) ≤ lackF can lst n m := fun j hj => le_maxF (f := fun set => needF can lst n m (bitX set)) hj
  have h0 : 0 ≤ lackF can lst n m := maxF_zero _
  have h0' : 0 ≤ lackF can' lst n (m + 1) := maxF_zero _
  have up : ∀ v, 0 ≤ v → lackF can lst n m - 1 ≤ v → lackF can' lst n (m + 1) ≤ v := fun v hv hlv => by
    refine maxF_le (fun j hj => ?_) hv
    rcases Nat.eq_zero_or_pos j with rfl | hp
    · have e := need_none can' lst n (m + 1)
      rw [e]; exact hv
    · have e := need_more (lst := lst) h1 h2 hp hj
      have := hle j hj
      rw [e]; omega
  refine ⟨fun h => ?_, fun h => ?_⟩
  · have := up 0 (Int.le_refl _) (by omega)
    omega
  · have u1 := up (lackF can lst n m - 1) (by omega) (Int.le_refl _)
    rcases maxF_hit (f := fun set => needF can lst n m (bitX set)) (2 ^ n) with hz | ⟨j, hj, e⟩
    · exact absurd hz h
    · have e : needF can lst n m (bitX j) = lackF can lst n m := e
      have hj0 : 0 < j := by
        rcases Nat.eq_zero_or_pos j with rfl | hp
        · rw [need_none] at e; exact absurd e.symm h
        · exact hp
      have e2 := need_more (lst := lst) h1 h2 hj0 hj
      have l2 : needF can' lst n (m + 1) (bitX j) ≤ lackF can' lst n (m + 1) := le_maxF (f := fun set => needF can' lst n (m + 1) (bitX set)) hj
      omega
theorem lackV_zoe {V : List VoiceV} {P : List PartV} {t : Int} (hn : ∀ x ∈ V, x.name ∈ nm6) (ht : 0 ≤ t) (hP : partsF P = 0) :
    (lackV V P t = 0 → lackV (V ++ [zoeV]) P t = 0) ∧ (lackV V P t ≠ 0 → lackV (V ++ [zoeV]) P t = lackV V P t - 1) := by
  unfold lackV
  rw [comL_zoe hn t ht P, List.length_append, List.length_singleton]
  refine lack_more (fun s p hs => canC_old hs) fun p hp => ?_
  obtain ⟨x, hx⟩ := getD_some (rfl : P.length = P.length) hp
  have h1 := right_b (rightP_in ((partsF_right hP).2 x (List.mem_of_getElem? hx)).2).1
  refine canC_new (c := comF (0, 127) (x.lo, x.hi)) (by rw [List.getElem?_map, hx]; rfl) ?_
  unfold comF
  simp only
  omega
theorem shortV_len {V : List VoiceV} {P : List PartV} {t : Int} (hP3 : P.length ≤ 3) : (shortV V P t).length = 0 ↔ lackV V P t = 0 := by
  unfold shortV
  by_cases h : lackV V P t = 0
  · rw [if_pos h]; simp [h]
  · rw [if_neg h]
    have h1 : shortF (canC (comL V t P)) (lstP P) P.length (comL V t P).length ≠ 0 := short_ne h
    have h2 : shortF (canC (comL V t P)) (lstP P) P.length (comL V t P).length < 2 ^ P.length := bestF_lt _ _ (Nat.two_pow_pos _)
    have h3 := numL_ne (show P.length ≤ 12 by omega) (Nat.pos_of_ne_zero h1) h2
    unfold namesF
    rw [List.length_map]
    constructor
    · intro e; exact absurd (List.eq_nil_of_length_eq_zero e) h3
    · intro e; exact absurd e h
end Go.Proofs.YthhbhjppljblnaaGreatDoor
