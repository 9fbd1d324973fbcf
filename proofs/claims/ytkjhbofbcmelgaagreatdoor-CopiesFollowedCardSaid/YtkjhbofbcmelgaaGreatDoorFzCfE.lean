/- What is asked of a library, in one form, whatever is wrong. Conditions: sizes; at most 19 slips. (Printed by gen_lawcf.py.) -/
import Derived.Test.YtkjhbofbcmelgaaGreatDoorFzJ32
import Derived.Test.YtkjhbofbcmelgaaGreatDoorFzCfD
import Derived.Test.YtkjhbofbcmelgaaGreatDoorFzShQ
set_option linter.unusedSimpArgs false
set_option linter.unusedVariables false
namespace Go.Proofs.YtkjhbofbcmelgaaGreatDoor
open Go Go.RowKit Go.Sort
theorem slc_none {α : Type} {k : Nat} {enc : α → List Value} (w : World) : Slc k enc w none 0 0 [] := Slc.nil _ _ _
def refA (T : List TitleV) (r : LendR) (d : List SlipV) : List Nat := if libF T r d = 0 then refL (libAt T r d 345686400000).2 d.length else []
def refB (T : List TitleV) (r : LendR) (d : List SlipV) : List Int := if libF T r d = 0 then whyL (libAt T r d 345686400000).2 (refL (libAt T r d 345686400000).2 d.length) else []
/-- Two rows: the slips that are refused, and why. -/
def RefT (A : List Nat) (B : List Int) (w : World) (v u : Value) (w' : World) : Prop := ∃ (p q : Option Addr) (c c' : Nat), v = .slice p A.length c ∧ u = .slice q A.length c' ∧ Slc 1 natC w' p A.length c A ∧ Slc 1 errC w' q A.length c' B ∧ Ext w w'
theorem refT_of {A : List Nat} {B : List Int} {w w' : World} {v u : Value} {base : Nat} (h1 : w'.ownsRow base 3 1 v A.length (A.flatMap natC)) (h2 : w'.ownsRow base 36 1 u A.length (B.flatMap errC)) (hB : B.length = A.length) (hl : A.length ≤ 1000) (he : Ext w w') : RefT A B w v u w' := by
 obtain ⟨p, c, rfl, hS⟩ := slc_of_own natC_len h1 (by decide) (by omega)
 obtain ⟨q, c', rfl, hS'⟩ := slc_of_own (enc := errC) (fun _ => rfl) h2 (by decide) (by omega)
 exact ⟨p, q, c, c', rfl, rfl, hS, hS', he⟩
theorem refused_uni (tp : Option Addr) (tn tc : Nat) (T : List TitleV) (r : LendR) (dp : Option Addr) (dn dc : Nat) (d : List SlipV) (w : World) (h : ListsW w tp tn tc T r dp dn dc d) :
 Calls Tryz.prog 12 #[.slice tp tn tc, lendVal r, .slice dp dn dc] w fun e w' => ∃ v u : Value, e = .returned (.tuple #[v, u, .int .i64 (libF T r d)]) ∧ RefT (refA T r d) (refB T r d) w v u w' := by
 by_cases hF : libF T r d = 0
 ·have hl := ref_len (libAt T r d 345686400000).2 d.length
  have hdl := h.sl.1.1
  have hdn := h.sn
  refine (refused_any tp tn tc T r dp dn dc d w (h.ok hF)).mono fun e w' h9 => ?_
  obtain ⟨v, u, rfl, h1, h2, -, h3⟩ := h9
  rw [hF]
  refine ⟨v, u, rfl, ?_⟩
  unfold refA refB
  rw [if_pos hF, if_pos hF]
  exact refT_of h1 h2 (whyL_len _ _) (by omega) h3
 ·refine (refused_bad tp tn tc T r dp dn dc d w h hF).mono fun e w' h9 => ?_
  obtain ⟨rfl, h3⟩ := h9
  refine ⟨_, _, rfl, ?_⟩
  unfold refA refB
  rw [if_neg hF, if_neg hF]
  exact ⟨none, none, 0,0, rfl, rfl, slc_none _, slc_none _, h3⟩
theorem refusedD_uni (tp : Option Addr) (tn tc : Nat) (T : List TitleV) (r : LendR) (dp : Option Addr) (dn dc : Nat) (d : List SlipV) (w : World) (h : ListsW w tp tn tc T r dp dn dc d) (hF : libF T r d = 0) :
 Calls Tryz.prog 21 #[.slice tp tn tc, lendVal r, .slice dp dn dc] w fun e w' => ∃ v u : Value, e = .returned (.tuple #[v, u]) ∧ RefT (refA T r d) (refB T r d) w v u w' := by
 have hl := ref_len (libAt T r d 345686400000).2 d.length
 have hdl := h.sl.1.1
 have hdn := h.sn
 refine (refusedDoc_any tp tn tc T r dp dn dc d w (h.ok hF)).mono fun e w' h9 => ?_
 obtain ⟨v, u, rfl, h1, h2, h3⟩ := h9
 refine ⟨v, u, rfl, ?_⟩
 unfold refA refB
 rw [if_pos hF, if_pos hF]
 exact refT_of h1 h2 (whyL_len _ _) (by omega) h3
/-- How a copy is; nothing where something is wrong. -/
def statA (T : List TitleV) (r : LendR) (d : List SlipV) (t : Int) (k : IdV) : ByteArray := if atF T r d t (copyF T k) = 0 then (libAt T r d t).1.at_ k else ⟨#[]⟩
def wayA (T : List TitleV) (r : LendR) (d : List SlipV) (t : Int) (k : IdV) : List ByteArray := if atF T r d t (copyF T k) = 0 then wayL (libAt T r d t).1.loans k else []
theorem copyF_is {T : List TitleV} {k : IdV} (h : copyF T k = 0) : isCopyT T k = true := by
 unfold copyF at h
 split at h
 ·assumption
 ·cases h
theorem state_uni (tp : Option Addr) (tn tc : Nat) (T : List TitleV) (r : LendR) (dp : Option Addr) (dn dc : Nat) (d : List SlipV) (t : Int) (p : ByteArray) (no : Int) (w : World) (h : ListsW w tp tn tc T r dp dn dc d) (hk : okSN (p, no)) :
 Calls Tryz.prog 13 #[.slice tp tn tc, lendVal r, .slice dp dn dc, .string p, .int .i64 no, .int .i64 t] w fun e w' => e = .returned (.tuple #[.string (statA T r d t (p, no)), .int .i64 (atF T r d t (copyF T (p, no)))]) ∧ Ext w w' := by
 unfold statA
 by_cases hF : atF T r d t (copyF T (p, no)) = 0
 ·obtain ⟨h1, h2, h3⟩ := atF_zero hF
  rw [if_pos hF, hF]
  exact stateOf_any tp tn tc T r dp dn dc d t p no w (h.ok h1) h3 hk (copyF_is h2)
 ·rw [if_neg hF]
  exact state_bad tp tn tc T r dp dn dc d t p no w h hF
def StrT (A : List ByteArray) (w : World) (v : Value) (w' : World) : Prop := ∃ (p : Option Addr) (c : Nat), v = .slice p A.length c ∧ Slc 1 strC w' p A.length c A ∧ Ext w w'
theorem wayA_len {T : List TitleV} {r : LendR} {d : List SlipV} (hF : libF T r d = 0) (hs : ∀ x ∈ d, x.Small) (hn : d.length ≤ 19) (t : Int) (k : IdV) : (wayL (libAt T r d t).1.loans k).length ≤ 1000 := by
 have hN := libAt_N (T := T) (r := r) (t := t) (slipsF_right (libF_zero hF).2.2) hs
 have := hN.loans
 have := wayL_len (libAt T r d t).1.loans k
 omega
theorem way_uni (tp : Option Addr) (tn tc : Nat) (T : List TitleV) (r : LendR) (dp : Option Addr) (dn dc : Nat) (d : List SlipV) (t : Int) (p : ByteArray) (no : Int) (w : World) (h : ListsW w tp tn tc T r dp dn dc d) (hk : okSN (p, no)) :
 Calls Tryz.prog 16 #[.slice tp tn tc, lendVal r, .slice dp dn dc, .string p, .int .i64 no, .int .i64 t] w fun e w' => ∃ v : Value, e = .returned (.tuple #[v, .int .i64 (atF T r d t (copyF T (p, no)))]) ∧ StrT (wayA T r d t (p, no)) w v w' := by
 unfold wayA
 by_cases hF : atF T r d t (copyF T (p, no)) = 0
 ·obtain ⟨h1, h2, h3⟩ := atF_zero hF
  have hl := wayA_len h1 h.ss (by have := h.sl.1.1; have := h.sn; omega) t (p, no)
  rw [if_pos hF, hF]
  refine (way_any tp tn tc T r dp dn dc d t p no w (h.ok h1) h3 hk (copyF_is h2)).mono fun e w' h9 => ?_
  obtain ⟨v, rfl, ho, hx⟩ := h9
  obtain ⟨q, c, rfl, hS⟩ := slc_of_own strLen ho (by decide) (by omega)
  exact ⟨_, rfl, q, c, rfl, hS, hx⟩
 ·rw [if_neg hF]
  exact (way_bad tp tn tc T r dp dn dc d t p no w h hF).mono fun e w' h9 => ⟨_, h9.1, none, 0, rfl, slc_none _, h9.2⟩
theorem stateD_uni (tp : Option Addr) (tn tc : Nat) (T : List TitleV) (r : LendR) (dp : Option Addr) (dn dc : Nat) (d : List SlipV) (t : Int) (p : ByteArray) (no : Int) (w : World) (h : ListsW w tp tn tc T r dp dn dc d) (hk : okSN (p, no)) (hF : atF T r d t (copyF T (p, no)) = 0) :
 Calls Tryz.prog 22 #[.slice tp tn tc, lendVal r, .slice dp dn dc, .string p, .int .i64 no, .int .i64 t] w fun e w' => e = .returned (.string (statA T r d t (p, no))) ∧ Ext w w' := by
 obtain ⟨h1, h2, h3⟩ := atF_zero hF
 unfold statA
 rw [if_pos hF]
 exact stateAt_any tp tn tc T r dp dn dc d t p no w (h.ok h1) hk
theorem wayD_uni (tp : Option Addr) (tn tc : Nat) (T : List TitleV) (r : LendR) (dp : Option Addr) (dn dc : Nat) (d : List SlipV) (t : Int) (p : ByteArray) (no : Int) (w : World) (h : ListsW w tp tn tc T r dp dn dc d) (hF : atF T r d t (copyF T (p, no)) = 0) :
 Calls Tryz.prog 23 #[.slice tp tn tc, lendVal r, .slice dp dn dc, .string p, .int .i64 no, .int .i64 t] w fun e w' => ∃ v : Value, e = .returned v ∧ StrT (wayA T r d t (p, no)) w v w' := by
 obtain ⟨h1, h2, h3⟩ := atF_zero hF
 have hl := wayA_len h1 h.ss (by have := h.sl.1.1; have := h.sn; omega) t (p, no)
 unfold wayA
 rw [if_pos hF]
 refine (wayDoc_any tp tn tc T r dp dn dc d t p no w (h.ok h1)).mono fun e w' h9 => ?_
 obtain ⟨v, rfl, ho, hx⟩ := h9
 obtain ⟨q, c, rfl, hS⟩ := slc_of_own strLen ho (by decide) (by omega)
 exact ⟨_, rfl, q, c, rfl, hS, hx⟩
/-- Copies that are out, in their order. -/
def LentT (A : List LentV) (w : World) (v : Value) (w' : World) : Prop := ∃ (p : Option Addr) (c : Nat) (M : List LentV), v = .slice p M.length c ∧ M.Perm A ∧ M.Pairwise entLt ∧ M.length ≤ 1000 ∧ Slc 4 lentC w' p M.length c M ∧ Ext w w'
theorem lentT_of {A M : List LentV} {w w' : World} {v : Value} {base : Nat} (hp : M.Perm A) (hs : M.Pairwise entLt) (ho : w'.ownsRow base 65 4 v M.length (M.flatMap lentC)) (hl : A.length ≤ 1000) (he : Ext w w') : LentT A w v w' := by
 have hM : M.length ≤ 1000 := by rw [hp.length_eq]; exact hl
 obtain ⟨p, c, rfl, hS⟩ := slc_of_own lentC_len ho (by decide) (by omega)
 exact ⟨p, c, M, rfl, hp, hs, hM, hS, he⟩
theorem lentT_nil {w w' : World} (he : Ext w w') : LentT [] w (.slice none 0 0) w' := ⟨none, 0,[], rfl, List.Perm.refl _, List.Pairwise.nil, by simp, slc_none _, he⟩
theorem outL_len2 {T : List TitleV} {r : LendR} {d : List SlipV} (hF : libF T r d = 0) (hs : ∀ x ∈ d, x.Small) (hn : d.length ≤ 19) (t : Int) : (outL (libAt T r d t).1.loans).length ≤ 1000 := by
 have hN := libAt_N (T := T) (r := r) (t := t) (slipsF_right (libF_zero hF).2.2) hs
 have := hN.loans
 have := outL_len (libAt T r d t).1.loans
 omega
def outA (T : List TitleV) (r : LendR) (d : List SlipV) (t : Int) : List LentV := if atF T r d t 0 = 0 then outL (libAt T r d t).1.loans else []
def hasA (T : List TitleV) (r : LendR) (d : List SlipV) (t : Int) (s : ByteArray) : List LentV := if atF T r d t (keyE s) = 0 then hasL (libAt T r d t).1.loans s else []
theorem out_uni (tp : Option Addr) (tn tc : Nat) (T : List TitleV) (r : LendR) (dp : Option Addr) (dn dc : Nat) (d : List SlipV) (t : Int) (w : World) (h : ListsW w tp tn tc T r dp dn dc d) :
 Calls Tryz.prog 14 #[.slice tp tn tc, lendVal r, .slice dp dn dc, .int .i64 t] w fun e w' => ∃ v : Value, e = .returned (.tuple #[v, .int .i64 (atF T r d t 0)]) ∧ LentT (outA T r d t) w v w' := by
 unfold outA
 by_cases hF : atF T r d t 0 = 0
 ·obtain ⟨h1, h2, h3⟩ := atF_zero hF
  have hl := outL_len2 h1 h.ss (by have := h.sl.1.1; have := h.sn; omega) t
  rw [if_pos hF, hF]
  refine (out_any tp tn tc T r dp dn dc d t w (h.ok h1) h3).mono fun e w' h9 => ?_
  obtain ⟨v, M, rfl, hp, hs, ho, hx⟩ := h9
  exact ⟨v, rfl, lentT_of hp hs ho hl hx⟩
 ·rw [if_neg hF]
  exact (out_bad tp tn tc T r dp dn dc d t w h hF).mono fun e w' h9 => ⟨_, h9.1, lentT_nil h9.2⟩
theorem has_uni (tp : Option Addr) (tn tc : Nat) (T : List TitleV) (r : LendR) (dp : Option Addr) (dn dc : Nat) (d : List SlipV) (s : ByteArray) (t : Int) (w : World) (h : ListsW w tp tn tc T r dp dn dc d) (hs : s.size ≤ 1000000) :
 Calls Tryz.prog 15 #[.slice tp tn tc, lendVal r, .slice dp dn dc, .string s, .int .i64 t] w fun e w' => ∃ v : Value, e = .returned (.tuple #[v, .int .i64 (atF T r d t (keyE s))]) ∧ LentT (hasA T r d t s) w v w' := by
 unfold hasA
 by_cases hF : atF T r d t (keyE s) = 0
 ·obtain ⟨h1, h2, h3⟩ := atF_zero hF
  have hl := outL_len2 h1 h.ss (by have := h.sl.1.1; have := h.sn; omega) t
  rw [if_pos hF, hF]
  refine (has_any tp tn tc T r dp dn dc d s t w (h.ok h1) hs h2 h3).mono fun e w' h9 => ?_
  obtain ⟨v, M, rfl, hp, hss, ho, hx⟩ := h9
  exact ⟨v, rfl, lentT_of hp hss ho (Nat.le_trans (List.length_filter_le _ _) hl) hx⟩
 ·rw [if_neg hF]
  exact (has_bad tp tn tc T r dp dn dc d s t w h hs hF).mono fun e w' h9 => ⟨_, h9.1, lentT_nil h9.2⟩
theorem outD_uni (tp : Option Addr) (tn tc : Nat) (T : List TitleV) (r : LendR) (dp : Option Addr) (dn dc : Nat) (d : List SlipV) (t : Int) (w : World) (h : ListsW w tp tn tc T r dp dn dc d) (hF : atF T r d t 0 = 0) :
 Calls Tryz.prog 24 #[.slice tp tn tc, lendVal r, .slice dp dn dc, .int .i64 t] w fun e w' => ∃ v : Value, e = .returned v ∧ LentT (outA T r d t) w v w' := by
 obtain ⟨h1, h2, h3⟩ := atF_zero hF
 have hl := outL_len2 h1 h.ss (by have := h.sl.1.1; have := h.sn; omega) t
 unfold outA
 rw [if_pos hF]
 refine (outDoc_any tp tn tc T r dp dn dc d t w (h.ok h1)).mono fun e w' h9 => ?_
 obtain ⟨v, M, rfl, hp, hs, ho, hx⟩ := h9
 exact ⟨v, rfl, lentT_of hp hs ho hl hx⟩
theorem hasD_uni (tp : Option Addr) (tn tc : Nat) (T : List TitleV) (r : LendR) (dp : Option Addr) (dn dc : Nat) (d : List SlipV) (s : ByteArray) (t : Int) (w : World) (h : ListsW w tp tn tc T r dp dn dc d) (hF : atF T r d t (keyE s) = 0) :
 Calls Tryz.prog 25 #[.slice tp tn tc, lendVal r, .slice dp dn dc, .string s, .int .i64 t] w fun e w' => ∃ v : Value, e = .returned v ∧ LentT (hasA T r d t s) w v w' := by
 obtain ⟨h1, h2, h3⟩ := atF_zero hF
 have hl := outL_len2 h1 h.ss (by have := h.sl.1.1; have := h.sn; omega) t
 unfold hasA
 rw [if_pos hF]
 refine (hasDoc_any tp tn tc T r dp dn dc d s t w (h.ok h1)).mono fun e w' h9 => ?_
 obtain ⟨v, M, rfl, hp, hss, ho, hx⟩ := h9
 exact ⟨v, rfl, lentT_of hp hss ho (Nat.le_trans (List.length_filter_le _ _) hl) hx⟩
end Go.Proofs.YtkjhbofbcmelgaaGreatDoor
