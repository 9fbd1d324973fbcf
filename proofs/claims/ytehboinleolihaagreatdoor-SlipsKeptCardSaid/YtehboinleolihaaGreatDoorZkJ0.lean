/- The closed facts of a row, each by itself (all at once they want more memory than the kernel has). Conditions: none. Texts of lines and words: cut at one byte, joined again. Plain mathematics. Conditions: as each theorem says. Decimal numbers: what is written is read as it was; what is read is written so. Plain mathematics. Conditions: as each theorem says. -/
import Derived.Test.YtehboinleolihaaGreatDoorRows
import Derived.JoinedOf
import Derived.Lib.SplitLaws
import Derived.Lib.Join
import Derived.Lib.Atoi
import Derived.Lib.ItoaMem
set_option linter.unusedSimpArgs false
set_option linter.unusedVariables false
namespace Go.Proofs.YtehboinleolihaaGreatDoor
open Go
set_option maxHeartbeats 6400000 in
theorem closedFact : joinedFacts Tryz.prog 8 Tryz.f8 Rows.slipsKeptSpec Rows.slipsKeptRow = true := by
 unfold joinedFacts
 simp only [Bool.and_eq_true]
 repeat' apply And.intro
 all_goals as_aux_lemma => kernel_rfl
end Go.Proofs.YtehboinleolihaaGreatDoor
namespace Go.Proofs.YtehboinleolihaaGreatDoor
open Go Go.Lib
/-- A string cut at a byte. -/
def cutL (c : UInt8) : List UInt8 → List (List UInt8)
 | [] => [[]]
 | b :: l => if b = c then [] :: cutL c l else ((cutL c l).headD [] |> fun h => (b :: h) :: (cutL c l).tail)
theorem cutL_ne (c : UInt8) (l : List UInt8) : cutL c l ≠ [] := by
 cases l with
 | nil => simp [cutL]
 | cons b l => unfold cutL; split <;> simp
theorem cutL_hit (c : UInt8) (l : List UInt8) : cutL c (c :: l) = [] :: cutL c l := by rw [cutL, if_pos rfl]
theorem cutL_miss {b c : UInt8} (h : b ≠ c) {l x : List UInt8} {r : List (List UInt8)} (e : cutL c l = x :: r) : cutL c (b :: l) = (b :: x) :: r := by
 rw [cutL, if_neg h, e]; rfl
/-- Where a byte stands first. -/
theorem first_at {c : UInt8} : ∀ {l : List UInt8}, c ∈ l → ∃ x y, l = x ++ c :: y ∧ c ∉ x
 | [], hm => by cases hm
 | b :: l, hm => by
   by_cases hb : b = c
   ·subst hb; exact ⟨[], l, rfl, fun h => by cases h⟩
   ·obtain ⟨x, y, e, hx⟩ := first_at ((List.mem_cons.1 hm).resolve_left fun e => hb e.symm)
    exact ⟨b :: x, y, by rw [e]; rfl, fun h2 => by
     rcases List.mem_cons.1 h2 with h3 | h3
     ·exact hb h3.symm
     ·exact hx h3⟩
theorem cutL_pre {c : UInt8} {x : List UInt8} (h : c ∉ x) (l : List UInt8) : ∀ {y : List UInt8} {r : List (List UInt8)}, cutL c l = y :: r → cutL c (x ++ l) = (x ++ y) :: r := by
 induction x with
 | nil => intro y r e; exact e
 | cons b x ih =>
   intro y r e
   have hb : b ≠ c := fun e => h (by rw [e]; exact List.mem_cons_self)
   exact cutL_miss hb (ih (fun hm => h (List.mem_cons_of_mem _ hm)) e)
theorem cutL_one {c : UInt8} {x : List UInt8} (h : c ∉ x) : cutL c x = [x] := by
 have := cutL_pre h [] (y := []) (r := []) rfl
 simpa using this
theorem cutL_cons {c : UInt8} {x : List UInt8} (h : c ∉ x) (l : List UInt8) : cutL c (x ++ c :: l) = x :: cutL c l := by
 have := cutL_pre h (c :: l) (cutL_hit c l)
 simpa using this
theorem joinL_cons2 (x y : List UInt8) (r : List (List UInt8)) (c : UInt8) : join (x :: y :: r) [c] = x ++ c :: join (y :: r) [c] := by
 rw [join_cons, join_cons]
 unfold joinTail
 simp
theorem cut_join (c : UInt8) : ∀ {xs : List (List UInt8)}, xs ≠ [] → (∀ x ∈ xs, c ∉ x) → cutL c (join xs [c]) = xs
 | [], h, _ => absurd rfl h
 | [x], _, h => by rw [join_one]; exact cutL_one (h x List.mem_cons_self)
 | x :: y :: r, _, h => by
   rw [joinL_cons2, cutL_cons (h x List.mem_cons_self), cut_join c (by simp) fun z hz => h z (List.mem_cons_of_mem _ hz)]
/-- How many cuts there are. -/
theorem cutL_len (c : UInt8) : ∀ l : List UInt8, (cutL c l).length = l.count c + 1
 | [] => rfl
 | b :: l => by
   obtain ⟨y, r, e⟩ : ∃ y r, cutL c l = y :: r := by
    cases h : cutL c l with
    | nil => exact absurd h (cutL_ne c l)
    | cons y r => exact ⟨y, r, rfl⟩
   have ih := cutL_len c l
   by_cases hb : b = c
   ·subst hb; rw [cutL_hit, List.length_cons, ih, List.count_cons_self]
   ·rw [cutL_miss hb e, List.length_cons, List.count_cons_of_ne hb, ← ih, e, List.length_cons]
theorem index_one_miss {c : UInt8} : ∀ {l : List UInt8}, c ∉ l → index l [c] = -1
 | [], _ => by simp [index]
 | b :: l, h => by
   have hb : b ≠ c := fun e => h (by rw [e]; exact List.mem_cons_self)
   have ih := index_one_miss (l := l) fun hm => h (List.mem_cons_of_mem _ hm)
   have hp : ([c] : List UInt8).isPrefixOf (b :: l) = false := by simp [List.isPrefixOf, Ne.symm hb]
   rw [index, hp]; simp [ih]
theorem index_one_hit {c : UInt8} : ∀ {x : List UInt8} (l : List UInt8), c ∉ x → index (x ++ c :: l) [c] = (x.length : Int)
 | [], l, _ => by rw [List.nil_append, index]; simp [List.isPrefixOf]
 | b :: x, l, h => by
   have hb : b ≠ c := fun e => h (by rw [e]; exact List.mem_cons_self)
   have ih := index_one_hit (x := x) l fun hm => h (List.mem_cons_of_mem _ hm)
   have hp : ([c] : List UInt8).isPrefixOf (b :: (x ++ c :: l)) = false := by simp [List.isPrefixOf, Ne.symm hb]
   rw [List.cons_append, index, hp, ih]
   simp only [List.length_cons]
   split
   ·contradiction
   ·rename_i h2
    rw [if_neg (fun e => by have := beq_iff_eq.1 e; omega)]
    omega
/-- strings.Split at one byte is this cut. -/
theorem split_cut (c : UInt8) : ∀ (n : Nat) (l : List UInt8), l.length ≤ n → splitK [c] 0 (l.count c) l = cutL c l
 | 0, l, h => by
   have : l = [] := List.eq_nil_of_length_eq_zero (by omega)
   subst this; rfl
 | n + 1, l, h => by
   by_cases hm : c ∈ l
   ·obtain ⟨x, y, rfl, hx⟩ := first_at hm
    rw [cutL_cons hx]
    have hcnt : (x ++ c :: y).count c = y.count c + 1 := by
     rw [List.count_append, List.count_cons_self, List.count_eq_zero_of_not_mem hx]; omega
    rw [hcnt, splitK, if_neg (fun e => by have := beq_iff_eq.1 e; rw [index_one_hit y hx] at this; omega), index_one_hit y hx]
    have e1 : (x ++ c :: y).take ((x.length : Int).toNat + 0) = x := by simp
    have e2 : (x ++ c :: y).drop ((x.length : Int).toNat + [c].length) = y := by
     rw [show (x.length : Int).toNat + [c].length = x.length + 1 by simp]
     rw [List.drop_append]
     simp
    rw [e1, e2, split_cut c n y (by simp only [List.length_append, List.length_cons] at h; omega)]
   ·rw [List.count_eq_zero_of_not_mem hm, cutL_one hm]; rfl
theorem splitB_cut (c : UInt8) (s : ByteArray) : (splitB ⟨#[c]⟩ 0 (countB s ⟨#[c]⟩) s).map (·.data.toList) = cutL c s.data.toList := by
 rw [splitB_data]
 show splitK [c] 0 (count s.data.toList [c]) s.data.toList = _
 rw [count_one, split_cut c _ _ (Nat.le_refl _)]
end Go.Proofs.YtehboinleolihaaGreatDoor
namespace Go.Proofs.YtehboinleolihaaGreatDoor
open Go Go.Lib
theorem digitVal_ofNat {d : Nat} (h : d < 10) : digitVal (UInt8.ofNat (48 + d)) = some d := by
 unfold digitVal
 have e : (UInt8.ofNat (48 + d)).toNat = 48 + d := by simp [UInt8.toNat_ofNat]; omega
 rw [e, if_pos ⟨by omega, by omega⟩]
 congr 1; omega
theorem digitVal_inv {b : UInt8} {d : Nat} (h : digitVal b = some d) : d < 10 ∧ b = UInt8.ofNat (48 + d) := by
 unfold digitVal at h
 split at h
 ·rename_i hb
  cases h
  refine ⟨by omega, ?_⟩
  rw [show 48 + (b.toNat - 48) = b.toNat by omega]
  exact UInt8.ofNat_toNat.symm
 ·cases h
theorem decFrom_append : ∀ (l r : List UInt8) (acc : Nat), decFrom acc (l ++ r) = (decFrom acc l).bind fun a => decFrom a r
 | [], r, acc => rfl
 | b :: l, r, acc => by
   show (match digitVal b with | some d => decFrom (acc * 10 + d) (l ++ r) | none => none) = (match digitVal b with | some d => decFrom (acc * 10 + d) l | none => none).bind fun a => decFrom a r
   cases digitVal b with
   | none => rfl
   | some d => exact decFrom_append l r _
/-- What is written is read as it was. -/
theorem dec_read (n : Nat) : decFrom 0 (decDigits n) = some n := by
 induction n using Nat.strongRecOn with
 | ind n ih =>
   by_cases h : n < 10
   ·rw [decDigits, dif_pos h]
    show (match digitVal (UInt8.ofNat (48 + n)) with | some d => decFrom (0 * 10 + d) [] | none => none) = some n
    rw [digitVal_ofNat h]
    show some (0 * 10 + n) = some n
    rw [Nat.zero_mul, Nat.zero_add]
   ·rw [decDigits, dif_neg h, decFrom_append, ih (n / 10) (by omega)]
    show (match digitVal (UInt8.ofNat (48 + n % 10)) with | some d => decFrom (n / 10 * 10 + d) [] | none => none) = some n
    rw [digitVal_ofNat (by omega)]
    show some (n / 10 * 10 + n % 10) = some n
    congr 1; omega
theorem dec_ne (n : Nat) : decDigits n ≠ [] := by
 rw [decDigits]; split <;> simp
theorem dec_digit (n : Nat) : ∀ b ∈ decDigits n, 48 ≤ b.toNat ∧ b.toNat ≤ 57 := by
 induction n using Nat.strongRecOn with
 | ind n ih =>
   intro b hb
   have one : ∀ d, d < 10 → b = UInt8.ofNat (48 + d) → 48 ≤ b.toNat ∧ b.toNat ≤ 57 := fun d hd e => by
    have e2 : b.toNat = 48 + d := by rw [e]; simp [UInt8.toNat_ofNat]; omega
    omega
   by_cases h : n < 10
   ·rw [decDigits, dif_pos h] at hb
    exact one n h (List.mem_singleton.1 hb)
   ·rw [decDigits, dif_neg h] at hb
    rcases List.mem_append.1 hb with h2 | h2
    ·exact ih (n / 10) (by omega) b h2
    ·exact one (n % 10) (by omega) (List.mem_singleton.1 h2)
/-- No zero stands ahead, but for the one digit. -/
theorem dec_head (n : Nat) : 1 ≤ n → (decDigits n).head? ≠ some 48 := by
 induction n using Nat.strongRecOn with
 | ind n ih =>
   intro h1
   by_cases h : n < 10
   ·rw [decDigits, dif_pos h]
    simp only [List.head?_cons, ne_eq, Option.some.injEq]
    intro e
    have := congrArg UInt8.toNat e
    simp [UInt8.toNat_ofNat] at this
    omega
   ·rw [decDigits, dif_neg h]
    obtain ⟨b, r, e⟩ : ∃ b r, decDigits (n / 10) = b :: r := by
     cases hd : decDigits (n / 10) with
     | nil => exact absurd hd (dec_ne _)
     | cons b r => exact ⟨b, r, rfl⟩
    have := ih (n / 10) (by omega) (by omega)
    rw [e] at this ⊢
    exact this
theorem dec_small {n m : Nat} (h : n < 10 ^ m) (hm : 1 ≤ m) : (decDigits n).length ≤ m := by
 induction n using Nat.strongRecOn generalizing m with
 | ind n ih =>
   by_cases h10 : n < 10
   ·rw [decDigits, dif_pos h10]; exact hm
   ·rw [decDigits, dif_neg h10, List.length_append, List.length_singleton]
    have h2 : 2 ≤ m := by
     rcases m with _ | _ | m
     ·omega
     ·simp at h; omega
     ·omega
    obtain ⟨k, rfl⟩ : ∃ k, m = k + 1 := ⟨m - 1, by omega⟩
    have := @ih (n / 10) (by omega) k (by rw [Nat.pow_succ] at h; omega) (by omega)
    omega
theorem snoc_of {α : Type} : ∀ {l : List α}, l ≠ [] → ∃ r x, l = r ++ [x]
 | [], h => absurd rfl h
 | [x], _ => ⟨[], x, rfl⟩
 | x :: y :: l, _ => by
   obtain ⟨r, z, e⟩ := snoc_of (l := y :: l) (by simp)
   exact ⟨x :: r, z, by rw [e]; rfl⟩
/-- What is read is written so. -/
theorem dec_write : ∀ (n : Nat) {l : List UInt8} {v : Nat}, l.length = n → l ≠ [] → decFrom 0 l = some v → (l.length = 1 ∨ l.head? ≠ some 48) → decDigits v = l
 | 0, l, v, hn, hne, _, _ => absurd (List.eq_nil_of_length_eq_zero hn) hne
 | n + 1, l, v, hn, hne, hd, hz => by
   obtain ⟨r, x, rfl⟩ := snoc_of hne
   rw [decFrom_append] at hd
   cases hr : decFrom 0 r with
   | none => rw [hr] at hd; cases hd
   | some a =>
     rw [hr] at hd
     change (match digitVal x with | some d => decFrom (a * 10 + d) [] | none => none) = some v at hd
     cases hx : digitVal x with
     | none => rw [hx] at hd; cases hd
     | some d =>
       rw [hx] at hd
       change some (a * 10 + d) = some v at hd
       cases hd
       obtain ⟨hd10, rfl⟩ := digitVal_inv hx
       by_cases hre : r = []
       ·subst hre
        cases hr
        rw [Nat.zero_mul, Nat.zero_add, decDigits, dif_pos hd10]; rfl
       ·have hl2 : r.length ≠ 0 := fun e => hre (List.eq_nil_of_length_eq_zero e)
        have hh : r.head? ≠ some 48 := by
         rcases hz with h1 | h1
         ·rw [List.length_append, List.length_singleton] at h1; omega
         ·obtain ⟨b, t, rfl⟩ : ∃ b t, r = b :: t := by
           cases r with
           | nil => exact absurd rfl hre
           | cons b t => exact ⟨b, t, rfl⟩
          exact h1
        have ih := dec_write n (l := r) (v := a) (by rw [List.length_append, List.length_singleton] at hn; omega) hre hr (.inr hh)
        have ha : 1 ≤ a := by
         refine Nat.pos_of_ne_zero fun e => ?_
         subst e
         rw [decDigits, dif_pos (by decide)] at ih
         rw [← ih] at hh
         exact hh rfl
        rw [decDigits, dif_neg (by omega), show (a * 10 + d) / 10 = a by omega, show (a * 10 + d) % 10 = d by omega, ih]
end Go.Proofs.YtehboinleolihaaGreatDoor
