/- The parts that a singer can sing, and parts that are higher, by the program's text; parts that are higher by the document's. Conditions: sizes. Parts that are higher, by the document's program. Conditions: sizes. Who can sing how comfortably: rows of them, sorted, by both texts. Conditions: sizes. Plain mathematics: when all singers were given to parts as far as can be, what lacks is the greatest need of a set of parts. Conditions: none. -/
import Derived.Test.YtdehmioobkneiaaGreatDoorTdJ20
import Derived.Test.YtdehmioobkneiaaGreatDoorTdJ19
import Derived.Test.YtdehmioobkneiaaGreatDoorTdJ11
import Derived.Shelf.SlSortCmp.NoneTotal
import Derived.Shelf.SlSortCmp.InsertionK
import Derived.Test.YtdehmioobkneiaaGreatDoorTdJ3
set_option linter.unusedSimpArgs false
set_option linter.unusedVariables false
namespace Go.Proofs.YtdehmioobkneiaaGreatDoor
open Go Go.RowKit
/-- What is wrong with voices, parts, a singer and a moment. -/
def bothF (V : List VoiceV) (P : List PartV) : Int := if voicesF V = 0 then partsF P else voicesF V
section
variable {w : World} {vp pp : Option Addr} {vc pc : Nat} {V : List VoiceV} {P : List PartV}
end
end Go.Proofs.YtdehmioobkneiaaGreatDoor
namespace Go.Proofs.YtdehmioobkneiaaGreatDoor
open Go Go.RowKit
end Go.Proofs.YtdehmioobkneiaaGreatDoor
namespace Go.Proofs.YtdehmioobkneiaaGreatDoor
open Go Go.RowKit Go.Sort
end Go.Proofs.YtdehmioobkneiaaGreatDoor
namespace Go.Proofs.YtdehmioobkneiaaGreatDoor
/-- All of the need of the parts of X among the first k. -/
def needN (lst : Nat → Nat) (X : Nat → Bool) : Nat → Nat
  | 0 => 0
  | k + 1 => needN lst X k + if X k then lst k else 0
def touchB (can : Nat → Nat → Bool) (n : Nat) (X : Nat → Bool) (s : Nat) : Bool := (List.range n).any fun p => X p && can s p
def canN (can : Nat → Nat → Bool) (n : Nat) (X : Nat → Bool) (m : Nat) : Nat := ((List.range m).filter (touchB can n X)).length
/-- How many singers the parts of X need more than can sing one of them. -/
def needF (can : Nat → Nat → Bool) (lst : Nat → Nat) (n m : Nat) (X : Nat → Bool) : Int := (needN lst X n : Int) - (canN can n X m : Int)
def maxF (f : Nat → Int) : Nat → Int
  | 0 => 0
  | k + 1 => max (maxF f k) (f k)
def bitX (set : Nat) (p : Nat) : Bool := set.testBit p
/-- How many singers are lacking. -/
def lackF (can : Nat → Nat → Bool) (lst : Nat → Nat) (n m : Nat) : Int := maxF (fun set => needF can lst n m (bitX set)) (2 ^ n)
theorem maxF_le {f : Nat → Int} {v : Int} : ∀ {k : Nat}, (∀ j, j < k → f j ≤ v) → 0 ≤ v → maxF f k ≤ v
  | 0, _, h => h
  | k + 1, hf, h => by
    have ih := maxF_le (k := k) (fun j hj => hf j (by omega)) h
    have := hf k (by omega)
    simp only [maxF]; omega
theorem le_maxF {f : Nat → Int} : ∀ {k j : Nat}, j < k → f j ≤ maxF f k
  | k + 1, j, h => by
    simp only [maxF]
    rcases Nat.lt_or_ge j k with hlt | hge
    · have := le_maxF (f := f) hlt; omega
    · obtain rfl : j = k := by omega
      omega
theorem needN_congr {lst lst' : Nat → Nat} {X Y : Nat → Bool} : ∀ {k : Nat}, (∀ p, p < k → X p = Y p) → (∀ p, p < k → lst p = lst' p) → needN lst X k = needN lst' Y k
  | 0, _, _ => rfl
  | k + 1, h, hl => by simp only [needN]; rw [needN_congr (k := k) (fun p hp => h p (by omega)) (fun p hp => hl p (by omega)), h k (by omega), hl k (by omega)]
theorem touchB_congr {can can' : Nat → Nat → Bool} {n : Nat} {X Y : Nat → Bool} {s : Nat} (h : ∀ p, p < n → X p = Y p) (hc : ∀ p, p < n → can s p = can' s p) : touchB can n X s = touchB can' n Y s := by
  unfold touchB
  rw [Bool.eq_iff_iff, List.any_eq_true, List.any_eq_true]
  constructor
  · rintro ⟨p, hp, e⟩
    have := List.mem_range.1 hp
    exact ⟨p, hp, by rw [← h p this, ← hc p this]; exact e⟩
  · rintro ⟨p, hp, e⟩
    have := List.mem_range.1 hp
    exact ⟨p, hp, by rw [h p this, hc p this]; exact e⟩
theorem canN_congr {can can' : Nat → Nat → Bool} {n m : Nat} {X Y : Nat → Bool} (h : ∀ p, p < n → X p = Y p) (hc : ∀ s p, s < m → p < n → can s p = can' s p) : canN can n X m = canN can' n Y m := by
  unfold canN
  congr 1
  exact List.filter_congr fun s hs => touchB_congr h fun p hp => hc s p (List.mem_range.1 hs) hp
theorem needF_congr {can can' : Nat → Nat → Bool} {lst lst' : Nat → Nat} {n m : Nat} {X Y : Nat → Bool} (h : ∀ p, p < n → X p = Y p) (hc : ∀ s p, s < m → p < n → can s p = can' s p) (hl : ∀ p, p < n → lst p = lst' p) : needF can lst n m X = needF can' lst' n m Y := by
  unfold needF; rw [needN_congr h hl, canN_congr h hc]
/-- Each choice of parts is a number. -/
def maskOf (X : Nat → Bool) : Nat → Nat
  | 0 => 0
  | k + 1 => if X k then 2 ^ k + maskOf X k else maskOf X k
theorem maskOf_lt (X : Nat → Bool) : ∀ k, maskOf X k < 2 ^ k
  | 0 => by simp [maskOf]
  | k + 1 => by
    have := maskOf_lt X k
    simp only [maskOf]
    split <;> rw [Nat.pow_succ] <;> omega
theorem maskOf_bit (X : Nat → Bool) : ∀ k p, p < k → bitX (maskOf X k) p = X p
  | k + 1, p, hp => by
    have hl := maskOf_lt X k
    have ih := maskOf_bit X k
    unfold bitX at ih ⊢
    simp only [maskOf]
    rcases Nat.lt_or_ge p k with hlt | hge
    · split
      · rw [Nat.testBit_two_pow_add_gt hlt]; exact ih p hlt
      · exact ih p hlt
    · obtain rfl : p = k := by omega
      split
      · rename_i h
        rw [Nat.testBit_two_pow_add_eq, Nat.testBit_lt_two_pow hl, h]; rfl
      · rename_i h
        rw [Nat.testBit_lt_two_pow hl]
        exact (Bool.eq_false_iff.2 h).symm
/-- The rows of the parts of X among the first k, one behind the other. -/
def rowsX (G : List (List Nat)) (X : Nat → Bool) : Nat → List Nat
  | 0 => []
  | k + 1 => rowsX G X k ++ if X k then G.getD k [] else []
theorem rowsX_len (G : List (List Nat)) (X : Nat → Bool) : ∀ k, (rowsX G X k).length + (rowsX G (fun p => !X p) k).length = (rowsX G (fun _ => true) k).length
  | 0 => rfl
  | k + 1 => by
    have := rowsX_len G X k
    simp only [rowsX, List.length_append]
    rcases Bool.eq_false_or_eq_true (X k) with hx | hx <;> simp [hx] <;> omega
theorem rowsX_sub (G : List (List Nat)) (X : Nat → Bool) : ∀ k, (rowsX G X k).Sublist (rowsX G (fun _ => true) k)
  | 0 => List.Sublist.refl _
  | k + 1 => by
    simp only [rowsX]
    refine (rowsX_sub G X k).append ?_
    cases X k
    · exact List.nil_sublist _
    · exact List.Sublist.refl _
theorem rowsX_mem {G : List (List Nat)} {X : Nat → Bool} {s : Nat} : ∀ {k : Nat}, s ∈ rowsX G X k ↔ ∃ p, p < k ∧ X p = true ∧ s ∈ G.getD p []
  | 0 => by simp [rowsX]
  | k + 1 => by
    simp only [rowsX, List.mem_append]
    rw [rowsX_mem (k := k)]
    constructor
    · rintro (⟨p, h1, h2, h3⟩ | h)
      · exact ⟨p, by omega, h2, h3⟩
      · cases hx : X k
        · rw [hx] at h; simp at h
        · rw [hx] at h; exact ⟨k, by omega, hx, by simpa using h⟩
    · rintro ⟨p, h1, h2, h3⟩
      rcases Nat.lt_or_ge p k with hlt | hge
      · exact .inl ⟨p, hlt, h2, h3⟩
      · obtain rfl : p = k := by omega
        exact .inr (by rw [h2]; simpa using h3)
theorem rowsX_flat {G : List (List Nat)} : ∀ {k : Nat}, k ≤ G.length → rowsX G (fun _ => true) k = (G.take k).flatten
  | 0, _ => by simp [rowsX]
  | k + 1, h => by
    have e : G[k]? = some G[k] := List.getElem?_eq_getElem (by omega)
    simp only [rowsX]
    rw [rowsX_flat (k := k) (by omega), List.take_succ_eq_append_getElem (by omega), List.flatten_append]
    simp [e]
theorem needN_all (lst : Nat → Nat) (X : Nat → Bool) : ∀ k, needN lst X k + needN lst (fun p => !X p) k = needN lst (fun _ => true) k
  | 0 => rfl
  | k + 1 => by
    have := needN_all lst X k
    simp only [needN]
    rcases Bool.eq_false_or_eq_true (X k) with hx | hx <;> simp [hx] <;> omega
section
variable {can : Nat → Nat → Bool} {lst : Nat → Nat} {n : Nat} {G : List (List Nat)}
theorem RowsOK.row (h : RowsOK can lst n G) {k : Nat} (hk : k < n) : ∃ r, G[k]? = some r := ⟨_, List.getElem?_eq_getElem (by rw [h.1]; exact hk)⟩
theorem rowsX_need (h : RowsOK can lst n G) (X : Nat → Bool) : ∀ k, k ≤ n → (rowsX G X k).length ≤ needN lst X k
  | 0, _ => Nat.le_refl _
  | k + 1, hk => by
    have ih := rowsX_need h X k (by omega)
    obtain ⟨row, e⟩ := h.row (show k < n by omega)
    have := (h.2 k _ e).1
    simp only [rowsX, needN, List.length_append]
    rcases Bool.eq_false_or_eq_true (X k) with hx | hx <;> simp [hx, e] <;> omega
theorem rowsX_full {T : Nat → Prop} (h : RowsOK can lst n G) (hT : ClosedT can lst n G T) {X : Nat → Bool} (hX : ∀ p, X p = true → T p) : ∀ k, k ≤ n → needN lst X k ≤ (rowsX G X k).length
  | 0, _ => Nat.le_refl _
  | k + 1, hk => by
    have ih := rowsX_full h hT hX k (by omega)
    obtain ⟨row, e⟩ := h.row (show k < n by omega)
    simp only [rowsX, needN, List.length_append]
    cases hx : X k
    · simp; omega
    · have := (hT k (hX k hx) _ e).1
      simp [e]; omega
theorem nodup_le {a b : List Nat} (ha : a.Nodup) (h : ∀ x ∈ a, x ∈ b) : a.length ≤ b.length := List.Nodup.length_le_of_subset ha h
/-- Singers given to parts, behind the first i ones. -/
structure LackInv (can : Nat → Nat → Bool) (lst : Nat → Nat) (n i : Nat) (G : List (List Nat)) (T : Nat → Prop) : Prop where
  rows : RowsOK can lst n G
  nodup : G.flatten.Nodup
  lt : ∀ s ∈ G.flatten, s < i
  shut : ClosedT can lst n G T
  out : ∀ s, s < i → s ∉ G.flatten → ∀ q, q < n → can s q = true → T q
theorem mem_flat {p s : Nat} (h : s ∈ G.getD p []) : s ∈ G.flatten := by
  rw [List.getD_eq_getElem?_getD] at h
  cases e : G[p]? with
  | none => rw [e] at h; cases h
  | some r => rw [e] at h; exact List.mem_flatten.2 ⟨r, List.mem_of_getElem? e, h⟩
open Classical in
/-- What lacks behind all singers is the greatest need. -/
theorem LackInv.done {m : Nat} {T : Nat → Prop} (h : LackInv can lst n m G T) : lackF can lst n m = (needN lst (fun _ => true) n : Int) - (G.flatten.length : Int) := by
  have hf : rowsX G (fun _ => true) n = G.flatten := by rw [rowsX_flat (by rw [h.rows.1]; exact Nat.le_refl _), List.take_of_length_le (by rw [h.rows.1]; exact Nat.le_refl _)]
  have hle : G.flatten.length ≤ needN lst (fun _ => true) n := by rw [← hf]; exact rowsX_need h.rows _ n (Nat.le_refl _)
  have up : ∀ X, needF can lst n m X ≤ (needN lst (fun _ => true) n : Int) - (G.flatten.length : Int) := by
    intro X
    have h1 := needN_all lst X n
    have h2 := rowsX_len G X n
    have h3 := rowsX_need h.rows (fun p => !X p) n (Nat.le_refl _)
    have h4 : (rowsX G X n).length ≤ canN can n X m := by
      unfold canN
      refine nodup_le ?_ fun s hs => ?_
      · exact (rowsX_sub G X n).nodup (by rw [hf]; exact h.nodup)
      · obtain ⟨p, hp, hx, hm⟩ := rowsX_mem.1 hs
        refine List.mem_filter.2 ⟨List.mem_range.2 (h.lt s (mem_flat hm)), ?_⟩
        unfold touchB
        rw [List.any_eq_true]
        refine ⟨p, List.mem_range.2 hp, ?_⟩
        obtain ⟨row, e⟩ := h.rows.row hp
        rw [List.getD_eq_getElem?_getD, e] at hm
        rw [hx, (h.rows.2 p _ e).2 s hm]; rfl
    rw [hf] at h2
    unfold needF
    omega
  have at_ : ∃ X, (needN lst (fun _ => true) n : Int) - (G.flatten.length : Int) ≤ needF can lst n m X := by
    refine ⟨fun p => !decide (T p), ?_⟩
    have h1 := needN_all lst (fun p => decide (T p)) n
    have h2 := rowsX_len G (fun p => decide (T p)) n
    have h3 := rowsX_full h.rows h.shut (X := fun p => decide (T p)) (fun p hp => of_decide_eq_true hp) n (Nat.le_refl _)
    have h4 : canN can n (fun p => !decide (T p)) m ≤ (rowsX G (fun p => !decide (T p)) n).length := by
      unfold canN
      refine nodup_le (List.filter_sublist.nodup List.nodup_range) fun s hs => ?_
      obtain ⟨h5, h6⟩ := List.mem_filter.1 hs
      have hsm := List.mem_range.1 h5
      unfold touchB at h6
      obtain ⟨p, hp, e⟩ := List.any_eq_true.1 h6
      have hpn := List.mem_range.1 hp
      simp only [Bool.and_eq_true, Bool.not_eq_true', decide_eq_false_iff_not] at e
      have hin : s ∈ G.flatten := Classical.byContradiction fun hn => e.1 (h.out s hsm hn p hpn e.2)
      rw [← hf] at hin
      obtain ⟨q, hq, -, hm⟩ := rowsX_mem.1 hin
      refine rowsX_mem.2 ⟨q, hq, ?_, hm⟩
      simp only [Bool.not_eq_true', decide_eq_false_iff_not]
      intro hTq
      obtain ⟨row, eq⟩ := h.rows.row hq
      rw [List.getD_eq_getElem?_getD, eq] at hm
      exact e.1 ((h.shut q hTq _ eq).2 s hm p hpn e.2)
    rw [hf] at h2
    unfold needF
    omega
  obtain ⟨X, hX⟩ := at_
  have h5 : lackF can lst n m ≤ (needN lst (fun _ => true) n : Int) - (G.flatten.length : Int) := maxF_le (fun j _ => up _) (by omega)
  have h6 : needF can lst n m X ≤ lackF can lst n m := by
    have e : needF can lst n m X = needF can lst n m (bitX (maskOf X n)) := needF_congr (fun p hp => (maskOf_bit X n p hp).symm) (fun _ _ _ _ => rfl) (fun _ _ => rfl)
    rw [e]
    exact le_maxF (f := fun set => needF can lst n m (bitX set)) (maskOf_lt X n)
  omega
end
end Go.Proofs.YtdehmioobkneiaaGreatDoor
