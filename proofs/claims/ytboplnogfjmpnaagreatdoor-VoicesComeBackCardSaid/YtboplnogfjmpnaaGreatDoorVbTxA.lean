/- Texts of lines and words: cut at one byte, joined again. Plain mathematics. Conditions: as each theorem says. -/
import Derived.Lib.SplitLaws
import Derived.Lib.Join
set_option linter.unusedSimpArgs false
set_option linter.unusedVariables false
namespace Go.Proofs.YtboplnogfjmpnaaGreatDoor
open Go Go.Lib

/-- A string cut at a byte. -/
def cutL (c : UInt8) : List UInt8 → List (List UInt8)
  | [] => [[]]
  | b :: l => if b = c then [] :: cutL c l else ((cutL c l).headD [] |> fun h => (b :: h) :: (cutL c l).tail)
theorem cutL_ne (c : UInt8) (l : List UInt8) : cutL c l ≠ [] := by
  cases l with
  | nil => simp [cutL]
  | cons b l => unfold cutL; split <;> simp
theorem cutL_hit (c : UInt8) (l : List UInt8) : cutL c (c :: l) = [] :: cutL c l := by rw [cutL, if_pos rfl]
theorem cutL_miss {b c : UInt8} (h : b ≠ c) {l x : List UInt8} {r : List (List UInt8)} (e : cutL c l = x :: r) : cutL c (b :: l) = (b :: x) :: r := by
  rw [cutL, if_neg h, e]; rfl
/-- Where a byte stands first. -/
theorem first_at {c : UInt8} : ∀ {l : List UInt8}, c ∈ l → ∃ x y, l = x ++ c :: y ∧ c ∉ x
  | [], hm => by cases hm
  | b :: l, hm => by
    by_cases hb : b = c
    · subst hb; exact ⟨[], l, rfl, fun h => by cases h⟩
    · obtain ⟨x, y, e, hx⟩ := first_at ((List.mem_cons.1 hm).resolve_left fun e => hb e.symm)
      exact ⟨b :: x, y, by rw [e]; rfl, fun h2 => by
        rcases List.mem_cons.1 h2 with h3 | h3
        · exact hb h3.symm
        · exact hx h3⟩
theorem cutL_pre {c : UInt8} {x : List UInt8} (h : c ∉ x) (l : List UInt8) : ∀ {y : List UInt8} {r : List (List UInt8)}, cutL c l = y :: r → cutL c (x ++ l) = (x ++ y) :: r := by
  induction x with
  | nil => intro y r e; exact e
  | cons b x ih =>
    intro y r e
    have hb : b ≠ c := fun e => h (by rw [e]; exact List.mem_cons_self)
    exact cutL_miss hb (ih (fun hm => h (List.mem_cons_of_mem _ hm)) e)
theorem cutL_one {c : UInt8} {x : List UInt8} (h : c ∉ x) : cutL c x = [x] := by
  have := cutL_pre h [] (y := []) (r := []) rfl
  simpa using this
theorem cutL_cons {c : UInt8} {x : List UInt8} (h : c ∉ x) (l : List UInt8) : cutL c (x ++ c :: l) = x :: cutL c l := by
  have := cutL_pre h (c :: l) (cutL_hit c l)
  simpa using this
theorem joinL_cons2 (x y : List UInt8) (r : List (List UInt8)) (c : UInt8) : join (x :: y :: r) [c] = x ++ c :: join (y :: r) [c] := by
  rw [join_cons, join_cons]
  unfold joinTail
  simp
theorem join_cut (c : UInt8) : ∀ l : List UInt8, join (cutL c l) [c] = l
  | [] => rfl
  | b :: l => by
    obtain ⟨y, r, e⟩ : ∃ y r, cutL c l = y :: r := by
      cases h : cutL c l with
      | nil => exact absurd h (cutL_ne c l)
      | cons y r => exact ⟨y, r, rfl⟩
    have ih := join_cut c l
    rw [e] at ih
    by_cases hb : b = c
    · subst hb
      rw [cutL_hit, e, joinL_cons2, ih]; rfl
    · rw [cutL_miss hb e, join_cons]
      rw [join_cons] at ih
      rw [List.cons_append, ih]
theorem cut_join (c : UInt8) : ∀ {xs : List (List UInt8)}, xs ≠ [] → (∀ x ∈ xs, c ∉ x) → cutL c (join xs [c]) = xs
  | [], h, _ => absurd rfl h
  | [x], _, h => by rw [join_one]; exact cutL_one (h x List.mem_cons_self)
  | x :: y :: r, _, h => by
    rw [joinL_cons2, cutL_cons (h x List.mem_cons_self), cut_join c (by simp) fun z hz => h z (List.mem_cons_of_mem _ hz)]
/-- How many cuts there are. -/
theorem cutL_len (c : UInt8) : ∀ l : List UInt8, (cutL c l).length = l.count c + 1
  | [] => rfl
  | b :: l => by
    obtain ⟨y, r, e⟩ : ∃ y r, cutL c l = y :: r := by
      cases h : cutL c l with
      | nil => exact absurd h (cutL_ne c l)
      | cons y r => exact ⟨y, r, rfl⟩
    have ih := cutL_len c l
    by_cases hb : b = c
    · subst hb; rw [cutL_hit, List.length_cons, ih, List.count_cons_self]
    · rw [cutL_miss hb e, List.length_cons, List.count_cons_of_ne hb, ← ih, e, List.length_cons]
theorem index_one_hit {c : UInt8} : ∀ {x : List UInt8} (l : List UInt8), c ∉ x → index (x ++ c :: l) [c] = (x.length : Int)
  | [], l, _ => by rw [List.nil_append, index]; simp [List.isPrefixOf]
  | b :: x, l, h => by
    have hb : b ≠ c := fun e => h (by rw [e]; exact List.mem_cons_self)
    have ih := index_one_hit (x := x) l fun hm => h (List.mem_cons_of_mem _ hm)
    have hp : ([c] : List UInt8).isPrefixOf (b :: (x ++ c :: l)) = false := by simp [List.isPrefixOf, Ne.symm hb]
    rw [List.cons_append, index, hp, ih]
    simp only [List.length_cons]
    split
    · contradiction
    · rename_i h2
      rw [if_neg (fun e => by have := beq_iff_eq.1 e; omega)]
      omega
/-- strings.Split at one byte is this cut. -/
theorem split_cut (c : UInt8) : ∀ (n : Nat) (l : List UInt8), l.length ≤ n → splitK [c] 0 (l.count c) l = cutL c l
  | 0, l, h => by
    have : l = [] := List.eq_nil_of_length_eq_zero (by omega)
    subst this; rfl
  | n + 1, l, h => by
    by_cases hm : c ∈ l
    · obtain ⟨x, y, rfl, hx⟩ := first_at hm
      rw [cutL_cons hx]
      have hcnt : (x ++ c :: y).count c = y.count c + 1 := by
        rw [List.count_append, List.count_cons_self, List.count_eq_zero_of_not_mem hx]; omega
      rw [hcnt, splitK, if_neg (fun e => by have := beq_iff_eq.1 e; rw [index_one_hit y hx] at this; omega), index_one_hit y hx]
      have e1 : (x ++ c :: y).take ((x.length : Int).toNat + 0) = x := by simp
      have e2 : (x ++ c :: y).drop ((x.length : Int).toNat + [c].length) = y := by
        rw [show (x.length : Int).toNat + [c].length = x.length + 1 by simp]
        rw [List.drop_append]
        simp
      rw [e1, e2, split_cut c n y (by simp only [List.length_append, List.length_cons] at h; omega)]
    · rw [List.count_eq_zero_of_not_mem hm, cutL_one hm]; rfl
theorem splitB_cut (c : UInt8) (s : ByteArray) : (splitB ⟨#[c]⟩ 0 (countB s ⟨#[c]⟩) s).map (·.data.toList) = cutL c s.data.toList := by
  rw [splitB_data]
  show splitK [c] 0 (count s.data.toList [c]) s.data.toList = _
  rw [count_one, split_cut c _ _ (Nat.le_refl _)]
end Go.Proofs.YtboplnogfjmpnaaGreatDoor
