/- Copies that are out, their loans and their singers: plain. Conditions: as each theorem says. The copies that are out: the walks of lent and of Out. Conditions: sizes; at most 19 slips. -/
import Derived.Test.YtehboinleolihaaGreatDoorCzJ16
import Derived.Test.YtehboinleolihaaGreatDoorCzMgC
import Derived.Test.YtehboinleolihaaGreatDoorCzJ37
set_option linter.unusedSimpArgs false
set_option linter.unusedVariables false
namespace Go.Proofs.YtehboinleolihaaGreatDoor
open Go Go.RowKit Go.Sort
def idL (l : LoanV) : IdV := (l.piece, l.no)
/-- An open loan. -/
def LoanV.Open (l : LoanV) : Prop := l.till < 0
instance (l : LoanV) : Decidable l.Open := by unfold LoanV.Open; exact inferInstance
/-- What holds of a library in which slips up to a moment were followed. -/
structure LibI (each t : Int) (L : LibS) : Prop where
 open_ : ∀ (i : Nat) (l : LoanV), L.loans[i]? = some l → l.Open → L.at_ (idL l) = outW ∧ L.last (idL l) = some (i : Int)
 lastId : ∀ k (i : Nat), L.last k = some (i : Int) → ∃ l, L.loans[i]? = some l ∧ idL l = k
 later : ∀ k (i j : Nat) (l : LoanV), L.last k = some (i : Int) → i < j → L.loans[j]? = some l → idL l ≠ k
 outI : ∀ k, L.at_ k = outW → ∃ (i : Nat) (l : LoanV), L.last k = some (i : Int) ∧ L.loans[i]? = some l ∧ l.Open
 has : ∀ s o, L.has s = some o → (o.length : Int) ≤ each ∧ ∀ p, p ∈ o ↔ ∃ l ∈ L.loans, l.Open ∧ l.singer = s ∧ l.piece = p
 none_ : ∀ s, L.has s = none → ∀ l ∈ L.loans, l.Open → l.singer ≠ s
 two : L.loans.Pairwise fun a b => a.Open → b.Open → a.singer = b.singer → a.piece ≠ b.piece
 since : ∀ l ∈ L.loans, l.since ≤ t
theorem LibI.new {each t : Int} : LibI each t LibS.new := by
 refine ⟨fun i l h => by simp [LibS.new] at h, fun k i h => by simp [LibS.new] at h, fun k i j l h => by simp [LibS.new] at h, fun k h => absurd h ?_, fun s o h => by simp [LibS.new] at h, fun s _ l hl => by simp [LibS.new] at hl, by simp [LibS.new], fun l hl => by simp [LibS.new] at hl⟩
 show inW ≠ outW
 decide
theorem get_snoc {α : Type} {xs : List α} {y l : α} {i : Nat} (h : (xs ++ [y])[i]? = some l) : (i < xs.length ∧ xs[i]? = some l) ∨ (i = xs.length ∧ l = y) := by
 rcases Nat.lt_trichotomy i xs.length with e | e | e
 ·rw [List.getElem?_append_left e] at h
  exact .inl ⟨e, h⟩
 ·subst e
  simp at h
  exact .inr ⟨rfl, h.symm⟩
 ·rw [List.getElem?_eq_none (by simp; omega)] at h
  cases h
theorem get_set {α : Type} {xs : List α} {y l : α} {i j : Nat} (h : (xs.set i y)[j]? = some l) : (j ≠ i ∧ xs[j]? = some l) ∨ (j = i ∧ l = y ∧ i < xs.length) := by
 rw [List.getElem?_set] at h
 by_cases e : i = j
 ·rw [if_pos e] at h
  split at h
  ·rename_i hl
   cases h
   exact .inr ⟨e.symm, rfl, by omega⟩
  ·cases h
 ·rw [if_neg e] at h
  exact .inl ⟨fun h => e h.symm, h⟩
theorem lendD_I {r : LendR} {t : Int} {L : LibS} {x : SlipV} (h : LibI r.each t L) (ht : x.at_ ≤ t) (hin : L.at_ (x.piece, x.copy) = inW) : LibI r.each t (lendD r L x).1 := by
 unfold lendD
 by_cases h1 : x.piece ∈ ownOf L x.singer
 ·rw [if_pos h1]; exact h
 rw [if_neg h1]
 by_cases h2 : r.each ≤ (ownOf L x.singer).length
 ·rw [if_pos h2]; exact h
 rw [if_neg h2]
 have hown : ∀ p, p ∈ ownOf L x.singer ↔ ∃ l ∈ L.loans, l.Open ∧ l.singer = x.singer ∧ l.piece = p := fun p => by
  unfold ownOf
  cases hh : L.has x.singer with
  | none => simp only [Option.getD_none, List.not_mem_nil, false_iff]; rintro ⟨l, hl, ho, hs, -⟩; exact h.none_ _ hh l hl ho hs
  | some o => exact (h.has _ _ hh).2 p
 have hno : ∀ l ∈ L.loans, l.Open → l.singer = x.singer → l.piece ≠ x.piece := fun l hl ho hs hp => h1 ((hown _).2 ⟨l, hl, ho, hs, hp⟩)
 have hnew : (⟨x.piece, x.copy, x.singer, x.at_, -1, false⟩ : LoanV).Open := by show (-1 : Int) < 0; decide
 have hnk : ∀ i l, L.loans[i]? = some l → l.Open → idL l ≠ (x.piece, x.copy) := fun i l hl ho e => by
  have := (h.open_ i l hl ho).1
  rw [e, hin] at this
  exact absurd this (by decide)
 refine ⟨fun i l hl ho => ?_, fun k i hk => ?_, fun k i j l hk hij hl => ?_, fun k hk => ?_, fun s o hs => ?_, fun s hs l hl ho => ?_, ?_, fun l hl => ?_⟩
 ·rcases get_snoc hl with ⟨hi, hl⟩ | ⟨rfl, rfl⟩
  ·have hne := hnk i l hl ho
   have := h.open_ i l hl ho
   exact ⟨by rw [at_set, if_neg hne]; exact this.1, by show setF _ _ _ _ = _; rw [setF_some, if_neg hne]; exact this.2⟩
  ·exact ⟨by rw [at_set]; exact if_pos rfl, by show setF _ _ _ _ = _; rw [setF_some]; exact if_pos rfl⟩
 ·have hk : setF L.last _ _ k = _ := hk
  rw [setF_some] at hk
  by_cases e : k = (x.piece, x.copy)
  ·rw [if_pos e] at hk
   have hi : i = L.loans.length := by have : ((L.loans.length : Nat) : Int) = i := Option.some.inj hk; omega
   exact ⟨⟨x.piece, x.copy, x.singer, x.at_, -1, false⟩, by show (L.loans ++ [_])[i]? = _; rw [hi]; exact List.getElem?_concat_length, e.symm⟩
  ·rw [if_neg e] at hk
   obtain ⟨l, hl, hid⟩ := h.lastId k i hk
   exact ⟨l, by show (L.loans ++ [_])[i]? = _; rw [List.getElem?_append_left (List.getElem?_eq_some_iff.1 hl).1]; exact hl, hid⟩
 ·have hk : setF L.last _ _ k = _ := hk
  rw [setF_some] at hk
  by_cases e : k = (x.piece, x.copy)
  ·rw [if_pos e] at hk
   have hi : i = L.loans.length := by have : ((L.loans.length : Nat) : Int) = i := Option.some.inj hk; omega
   rcases get_snoc hl with ⟨hi2, -⟩ | ⟨hj, -⟩ <;> omega
  ·rw [if_neg e] at hk
   rcases get_snoc hl with ⟨-, hl⟩ | ⟨-, rfl⟩
   ·exact h.later k i j l hk hij hl
   ·exact fun e2 => e e2.symm
 ·rw [at_set] at hk
  by_cases e : k = (x.piece, x.copy)
  ·exact ⟨L.loans.length, _, by show setF _ _ _ _ = _; rw [setF_some]; exact if_pos e, List.getElem?_concat_length, hnew⟩
  ·rw [if_neg e] at hk
   obtain ⟨i, l, e1, e2, e3⟩ := h.outI k hk
   exact ⟨i, l, by show setF _ _ _ _ = _; rw [setF_some, if_neg e]; exact e1, by show (L.loans ++ [_])[i]? = _; rw [List.getElem?_append_left (List.getElem?_eq_some_iff.1 e2).1]; exact e2, e3⟩
 ·have hs : setF L.has _ _ s = _ := hs
  rw [setF_some] at hs
  by_cases e : s = x.singer
  ·rw [if_pos e] at hs
   cases hs
   refine ⟨by simp; omega, fun p => ?_⟩
   rw [List.mem_append, List.mem_singleton, hown]
   constructor
   ·rintro (⟨l, hl, h3⟩ | hp)
    ·exact ⟨l, List.mem_append_left _ hl, by rw [e]; exact h3⟩
    ·exact ⟨_, List.mem_append_right _ (List.mem_singleton.2 rfl), hnew, e.symm, hp.symm⟩
   ·rintro ⟨l, hl, h3, h4, h5⟩
    rcases List.mem_append.1 hl with hl | hl
    ·exact .inl ⟨l, hl, h3, by rw [← e]; exact h4, h5⟩
    ·rw [List.mem_singleton.1 hl] at h5
     exact .inr h5.symm
  ·rw [if_neg e] at hs
   obtain ⟨h3, h4⟩ := h.has s o hs
   refine ⟨h3, fun p => ?_⟩
   rw [h4]
   constructor
   ·rintro ⟨l, hl, h5⟩; exact ⟨l, List.mem_append_left _ hl, h5⟩
   ·rintro ⟨l, hl, h5, h6, h7⟩
    rcases List.mem_append.1 hl with hl | hl
    ·exact ⟨l, hl, h5, h6, h7⟩
    ·rw [List.mem_singleton.1 hl] at h6
     exact absurd h6.symm e
 ·have hs : setF L.has _ _ s = _ := hs
  rw [setF_some] at hs
  by_cases e : s = x.singer
  ·rw [if_pos e] at hs; cases hs
  ·rw [if_neg e] at hs
   rcases List.mem_append.1 hl with hl | hl
   ·exact h.none_ s hs l hl ho
   ·rw [List.mem_singleton.1 hl]; exact fun e2 => e e2.symm
 ·refine List.pairwise_append.2 ⟨h.two, List.pairwise_singleton _ _, fun a ha b hb => ?_⟩
  rw [List.mem_singleton.1 hb]
  exact fun ho _ hs => hno a ha ho hs
 ·rcases List.mem_append.1 hl with hl | hl
  ·exact h.since l hl
  ·rw [List.mem_singleton.1 hl]; exact ht
theorem mem_at {α : Type} {xs : List α} {a : α} (h : a ∈ xs) : ∃ i : Nat, xs[i]? = some a := List.mem_iff_getElem?.1 h
/-- A loan changes that is closed then. -/
theorem set_I {each t : Int} {L : LibS} (h : LibI each t L) {k0 : IdV} {i : Nat} {l l' : LoanV} (hk : L.last k0 = some (i : Int)) (hl : L.loans[i]? = some l) (hid : idL l = k0) (hc : ¬ l'.Open) (hid' : idL l' = k0) (hs' : l'.since = l.since) {v : ByteArray} (hv : v ≠ outW) {H' : ByteArray → Option (List ByteArray)}
 (hH : ∀ s o, H' s = some o → (o.length : Int) ≤ each ∧ ∀ p, p ∈ o ↔ ∃ (j : Nat) (z : LoanV), j ≠ i ∧ L.loans[j]? = some z ∧ z.Open ∧ z.singer = s ∧ z.piece = p) (hN : ∀ s, H' s = none → L.has s = none) : LibI each t ⟨setF L.st k0 v, L.last, L.loans.set i l', H'⟩ := by
 have hil := (List.getElem?_eq_some_iff.1 hl).1
 refine ⟨fun j z hz ho => ?_, fun k j hj => ?_, fun k j m z hj hjm hz => ?_, fun k hk2 => ?_, fun s o hs => ?_, fun s hs z hz ho => ?_, ?_, fun z hz => ?_⟩
 ·rcases get_set hz with ⟨hne, hz⟩ | ⟨-, rfl, -⟩
  ·obtain ⟨h1, h2⟩ := h.open_ j z hz ho
   have hne2 : idL z ≠ k0 := fun e => by
    rw [e, hk] at h2
    simp at h2
    omega
   exact ⟨by rw [at_set, if_neg hne2]; exact h1, h2⟩
  ·exact absurd ho hc
 ·obtain ⟨z, hz, he⟩ := h.lastId k j hj
  by_cases e : j = i
  ·subst e
   rw [hl] at hz
   cases hz
   exact ⟨l', by simp [hil], by rw [hid', ← hid, he]⟩
  ·exact ⟨z, by show (L.loans.set i l')[j]? = _; rw [List.getElem?_set_ne (fun e2 => e e2.symm)]; exact hz, he⟩
 ·rcases get_set hz with ⟨hne, hz⟩ | ⟨rfl, rfl, -⟩
  ·exact h.later k j m z hj hjm hz
  ·rw [hid', ← hid]
   exact h.later k j m l hj hjm hl
 ·rw [at_set] at hk2
  by_cases e : k = k0
  ·rw [if_pos e] at hk2
   exact absurd hk2 hv
  ·rw [if_neg e] at hk2
   obtain ⟨j, z, e1, e2, e3⟩ := h.outI k hk2
   have hne : i ≠ j := fun e4 => by
    subst e4
    obtain ⟨z2, hz2, he2⟩ := h.lastId k i e1
    rw [hl] at hz2
    cases hz2
    exact e (he2.symm.trans hid)
   exact ⟨j, z, e1, by show (L.loans.set i l')[j]? = _; rw [List.getElem?_set_ne hne]; exact e2, e3⟩
 ·obtain ⟨h1, h2⟩ := hH s o hs
  refine ⟨h1, fun p => ?_⟩
  rw [h2]
  constructor
  ·rintro ⟨j, z, h3, h4, h5⟩
   exact ⟨z, List.mem_iff_getElem?.2 ⟨j, by show (L.loans.set i l')[j]? = _; rw [List.getElem?_set_ne (fun e => h3 e.symm)]; exact h4⟩, h5⟩
  ·rintro ⟨z, hz, h5, h6⟩
   obtain ⟨j, hj⟩ := mem_at hz
   rcases get_set hj with ⟨hne, hj⟩ | ⟨-, rfl, -⟩
   ·exact ⟨j, z, hne, hj, h5, h6⟩
   ·exact absurd h5 hc
 ·obtain ⟨j, hj⟩ := mem_at hz
  rcases get_set hj with ⟨hne, hj⟩ | ⟨-, rfl, -⟩
  ·exact h.none_ s (hN s hs) z (List.mem_of_getElem? hj) ho
  ·exact absurd ho hc
 ·refine List.pairwise_iff_getElem.2 fun a b ha hb hab h1 h2 => ?_
  have ga : (L.loans.set i l')[a]? = some (L.loans.set i l')[a] := List.getElem?_eq_getElem ha
  have gb : (L.loans.set i l')[b]? = some (L.loans.set i l')[b] := List.getElem?_eq_getElem hb
  generalize (L.loans.set i l')[a] = za at *
  generalize (L.loans.set i l')[b] = zb at *
  rcases get_set ga with ⟨-, ga⟩ | ⟨-, rfl, -⟩
  ·rcases get_set gb with ⟨-, gb⟩ | ⟨-, rfl, -⟩
   ·obtain ⟨la, ea⟩ := List.getElem?_eq_some_iff.1 ga
    obtain ⟨lb, eb⟩ := List.getElem?_eq_some_iff.1 gb
    have := List.pairwise_iff_getElem.1 h.two a b la lb hab
    rw [ea, eb] at this
    exact this h1 h2
   ·exact absurd h2 hc
  ·exact absurd h1 hc
 ·rcases List.mem_or_eq_of_mem_set hz with hz | rfl
  ·exact h.since z hz
  ·rw [hs']; exact h.since l (List.mem_of_getElem? hl)
theorem endD_I {r : LendR} {t : Int} {L : LibS} {x : SlipV} {lost : Bool} (h : LibI r.each t L) (ht : 0 ≤ x.at_) (hs : L.at_ (x.piece, x.copy) = outW) : LibI r.each t (endD L x lost) := by
 obtain ⟨i, l, e1, e2, ho⟩ := h.outI _ hs
 obtain ⟨z, hz, hid⟩ := h.lastId _ i e1
 rw [e2] at hz
 cases hz
 have hl0 := (List.getElem?_eq_some_iff.1 e2).1
 have hL : lastL L (x.piece, x.copy) = l := by
  have := lastL_of e1 hl0
  rw [e2] at this
  exact (Option.some.inj this).symm
 unfold endD
 rw [lastI_of e1, hL]
 have hone : ∀ j z, L.loans[j]? = some z → z.Open → z.singer = l.singer → z.piece = x.piece → j = i := fun j z hz hoz hsz hpz => by
  obtain ⟨lj, ej⟩ := List.getElem?_eq_some_iff.1 hz
  obtain ⟨li, ei⟩ := List.getElem?_eq_some_iff.1 e2
  have hp : l.piece = x.piece := congrArg Prod.fst hid
  rcases Nat.lt_trichotomy j i with e | e | e
  ·have := List.pairwise_iff_getElem.1 h.two j i lj li e
   rw [ej, ei] at this
   exact absurd (hpz.trans hp.symm) (this hoz ho hsz)
  ·exact e
  ·have := List.pairwise_iff_getElem.1 h.two i j li lj e
   rw [ej, ei] at this
   exact absurd (hp.trans hpz.symm) (this ho hoz hsz.symm)
 refine set_I (l' := { l with till := x.at_, lost := lost }) (v := if lost then lostW else inW) h e1 e2 hid (by show ¬ x.at_ < 0; omega) hid rfl (by cases lost <;> decide) (fun s o ho2 => ?_) fun s hn => ?_
 ·have ho2 : (if s = l.singer then _ else _) = some o := ho2
  by_cases e : s = l.singer
  ·rw [if_pos e] at ho2
   cases hh : L.has s with
   | none => rw [hh] at ho2; cases ho2
   | some q =>
     rw [hh] at ho2
     cases ho2
     obtain ⟨h1, h2⟩ := h.has s q hh
     refine ⟨by have := List.length_filter_le (fun p => decide (p ≠ x.piece)) q; dsimp only; omega, fun p => ?_⟩
     rw [List.mem_filter, h2, decide_eq_true_eq]
     constructor
     ·rintro ⟨⟨z, hz, h5, h6, h7⟩, h8⟩
      obtain ⟨j, hj⟩ := mem_at hz
      refine ⟨j, z, fun e3 => h8 ?_, hj, h5, h6, h7⟩
      subst e3
      rw [e2] at hj
      cases hj
      rw [← h7]
      exact congrArg Prod.fst hid
     ·rintro ⟨j, z, h3, h4, h5, h6, h7⟩
      exact ⟨⟨z, List.mem_of_getElem? h4, h5, h6, h7⟩, fun e3 => h3 (hone j z h4 h5 (h6.trans e) (h7.trans e3))⟩
  ·rw [if_neg e] at ho2
   obtain ⟨h1, h2⟩ := h.has s o ho2
   refine ⟨h1, fun p => ?_⟩
   rw [h2]
   constructor
   ·rintro ⟨z, hz, h5, h6, h7⟩
    obtain ⟨j, hj⟩ := mem_at hz
    refine ⟨j, z, fun e3 => e ?_, hj, h5, h6, h7⟩
    subst e3
    rw [e2] at hj
    cases hj
    exact h6.symm
   ·rintro ⟨j, z, h3, h4, h5⟩
    exact ⟨z, List.mem_of_getElem? h4, h5⟩
 ·have hn : (if s = l.singer then _ else _) = none := hn
  by_cases e : s = l.singer
  ·rw [if_pos e] at hn
   cases hh : L.has s with
   | none => rfl
   | some q => rw [hh] at hn; cases hn
  ·rw [if_neg e] at hn; exact hn
/-- A copy that is not out is as it is said; it still is not out. -/
theorem st_I {each t : Int} {L : LibS} (h : LibI each t L) {k0 : IdV} (hk : L.at_ k0 ≠ outW) {v : ByteArray} (hv : v ≠ outW) : LibI each t ⟨setF L.st k0 v, L.last, L.loans, L.has⟩ := by
 refine ⟨fun j z hz ho => ?_, h.lastId, h.later, fun k hk2 => ?_, h.has, h.none_, h.two, h.since⟩
 ·obtain ⟨h1, h2⟩ := h.open_ j z hz ho
  exact ⟨by rw [at_set, if_neg fun e => hk (by rw [← e]; exact h1)]; exact h1, h2⟩
 ·rw [at_set] at hk2
  by_cases e : k = k0
  ·rw [if_pos e] at hk2; exact absurd hk2 hv
  ·rw [if_neg e] at hk2; exact h.outI k hk2
theorem slipD_I {n : Nat} {T : List TitleV} {r : LendR} {t : Int} {L : LibS} {x : SlipV} (h : LibI r.each t L) (hn : LibN n L) (hx : 1 ≤ x.kind ∧ x.kind ≤ 5) (h0 : 0 ≤ x.at_) (ht : x.at_ ≤ t) : LibI r.each t (slipD T r L x).1 := by
 unfold slipD
 by_cases h1 : isCopyT T (x.piece, x.copy) = false
 ·rw [if_pos h1]; exact h
 rw [if_neg h1]
 by_cases h2 : L.at_ (x.piece, x.copy) ≠ needW x.kind
 ·rw [if_pos h2]; exact h
 rw [if_neg h2]
 have h2 : L.at_ (x.piece, x.copy) = needW x.kind := Classical.byContradiction h2
 by_cases k1 : x.kind = 1
 ·rw [if_pos k1]; exact lendD_I h ht (by rw [h2, k1]; rfl)
 rw [if_neg k1]
 by_cases k2 : x.kind = 2 ∨ x.kind = 3
 ·rw [if_pos k2]
  refine endD_I h h0 ?_
  rw [h2]
  rcases k2 with e | e <;> rw [e] <;> rfl
 rw [if_neg k2]
 by_cases k4 : x.kind = 4
 ·rw [if_pos k4]
  have hs : L.at_ (x.piece, x.copy) = lostW := by rw [h2, k4]; rfl
  obtain ⟨i, e1, e2⟩ := hn.ok.last _ (.inr hs)
  have hl := lastL_of e1 e2
  obtain ⟨z, hz, hid⟩ := h.lastId _ i e1
  rw [hl] at hz
  cases hz
  have hc : ¬ (lastL L (x.piece, x.copy)).Open := fun ho => by
   have := (h.open_ i _ hl ho).1
   rw [hid, hs] at this
   exact absurd this (by decide)
  rw [lastI_of e1]
  refine set_I (l' := { lastL L (x.piece, x.copy) with lost := false }) (v := inW) h e1 hl hid hc hid rfl (by decide) (fun s o ho => ?_) fun s hs => hs
  obtain ⟨h3, h4⟩ := h.has s o ho
  refine ⟨h3, fun p => ?_⟩
  rw [h4]
  constructor
  ·rintro ⟨z, hz, h5, h6⟩
   obtain ⟨j, hj⟩ := mem_at hz
   refine ⟨j, z, fun e3 => hc ?_, hj, h5, h6⟩
   subst e3
   rw [hl] at hj
   cases hj
   exact h5
  ·rintro ⟨j, z, h3, h4, h5⟩
   exact ⟨z, List.mem_of_getElem? h4, h5⟩
 rw [if_neg k4]
 have hk5 : x.kind = 5 := by omega
 exact st_I h (by rw [h2, hk5]; decide) (by decide)
theorem run_I {T : List TitleV} {r : LendR} {t : Int} {d : List SlipV} (hd : ∀ x ∈ d, ((1 ≤ x.kind ∧ x.kind ≤ 5) ∧ x.singer.size ≤ 1000000) ∧ 0 ≤ x.at_) {is : List Nat} (hi : ∀ i ∈ is, i < d.length ∧ atD d i ≤ t) : ∀ (k : Nat), k ≤ is.length → k ≤ 100000 → LibI r.each t (runR T r d (LibS.new, fun _ => none) (is.take k)).1
 | 0, _, _ => by simpa [runR] using LibI.new
 | k + 1, hk, hb => by
   have e : is[k]? = some is[k] := List.getElem?_eq_getElem (by omega)
   rw [run_take e]
   have hm := hi is[k] (List.getElem_mem _)
   have hx := hd d[is[k]] (List.getElem_mem hm.1)
   have ed : d.getD is[k] default = d[is[k]] := by rw [List.getD_eq_getElem?_getD, List.getElem?_eq_getElem hm.1]; rfl
   have ht := hm.2
   unfold atD at ht
   unfold stepR
   rw [ed] at ht ⊢
   exact slipD_I (run_I hd hi k (by omega) (by omega)) (run_ok (fun x hx => (hd x hx).1) (fun i h => (hi i h).1) k (by omega) (by omega)) hx.1.1 hx.2 ht
end Go.Proofs.YtehboinleolihaaGreatDoor
namespace Go.Proofs.YtehboinleolihaaGreatDoor
open Go Go.RowKit Go.Maps Go.Sort
structure LentV where
 piece : ByteArray
 no : Int
 singer : ByteArray
 since : Int
instance : Inhabited LentV := ⟨⟨⟨#[]⟩, 0, ⟨#[]⟩, 0⟩⟩
def lentC (x : LentV) : List Value := [.string x.piece, .int .i64 x.no, .string x.singer, .int .i64 x.since]
theorem lentC_len (x : LentV) : (lentC x).length = 4 := rfl
theorem lentC_one (x : LentV) : ∀ u ∈ lentC x, u.oneCell' = true := by simp [lentC, Value.oneCell']
theorem lentInfo : (Tryz.prog.info? 65).map (fun i => (i.zero, i.size, i.bytes)) = some (some (.agg #[.string ⟨#[]⟩, .int .i64 0, .string ⟨#[]⟩, .int .i64 0]), 4,48) := by kernel_rfl
/-- A copy that is out, as a slip with its piece for a name: so what is known of the order of slips holds of copies. -/
def tsV (x : LentV) : SlipV := ⟨x.piece, x.no, 0,0, ⟨#[]⟩, 0, ⟨#[]⟩⟩
def entO (a b : LentV) : Int := sliO (tsV a) (tsV b)
def entLt (a b : LentV) : Prop := sliLt (tsV a) (tsV b)
theorem ent_swo : SWO (ltOf entO) := ⟨fun x => sli_swo.irrefl (tsV x), fun x y z => sli_swo.trans (tsV x) (tsV y) (tsV z), fun x y z => sli_swo.ntrans (tsV x) (tsV y) (tsV z)⟩
theorem sortL_of {P : List LentV} (hdis : P.Pairwise fun a b => ¬ (a.piece = b.piece ∧ a.no = b.no)) {d : Array LentV} (hp : PermIn 0 P.length P.toArray d) (hs : SortedIn (ltOf entO) 0 P.length d) : d.toList.Perm P ∧ d.toList.Pairwise entLt := by
 have hsz : d.size = P.length := by have := hp.1; simpa using this
 have hperm : d.toList.Perm P := by
  have h9 := hp.2.2
  have e2 : d.extract 0 P.length = d := by simp [← hsz]
  rw [e2] at h9
  simpa using h9
 refine ⟨hperm, ?_⟩
 have hdd := (hperm.pairwise_iff fun {a b} (h : ¬ (a.piece = b.piece ∧ a.no = b.no)) => (fun k => h ⟨k.1.symm, k.2.symm⟩ : ¬ (b.piece = a.piece ∧ b.no = a.no))).2 hdis
 rw [List.pairwise_iff_getElem] at hdd ⊢
 intro i j hi hj hij
 have h1 := hdd i j hi hj hij
 have h9 := hs i j (Nat.zero_le _) hij (by simp at hj; omega)
 simp at hi hj
 rw [getElem!_pos d j hj, getElem!_pos d i hi] at h9
 have h8 : ltOf sliO (tsV d[j]) (tsV d[i]) = false := h9
 rw [← Bool.not_eq_true, ltS_iff] at h8
 rcases sliLt_tri (tsV d[i]) (tsV d[j]) with h | h | h
 ·exact h
 ·exact absurd h h8
 ·exact absurd h h1
set_option maxRecDepth 100000 in
set_option maxHeartbeats 1600000 in
theorem idsG_any (a b : ByteArray) (i j : Int) (w : World) :
 Calls Tryz.prog 178 #[.agg #[.string a, .int .i64 i], .agg #[.string b, .int .i64 j]] w fun e w' => e = .returned (.int .i64 (orF [cmpS a b, cmpZ i j])) ∧ ∃ q os', w' = grow (w.drewN q) os' := by
 have hX : Blk ((w.alloc (.cells #[.string a, .int .i64 i] 135)).alloc (.cells #[.string b, .int .i64 j] 135)) w.heap.size 135 #[.string a, .int .i64 i] := (Blk.new' rfl).alloc _
 have hY : Blk ((w.alloc (.cells #[.string a, .int .i64 i] 135)).alloc (.cells #[.string b, .int .i64 j] 135)) (w.heap.size + 1) 135 #[.string b, .int .i64 j] := Blk.new' (by simp)
 go_enter Tryz.func178, Tryz.ntmps178
 go_upto_region 1 with fail
 refine wp_region_planS [(0, true), (1, true), (2, true), (3, true), (4, true), (5, true), (6, true), (7, true), (8, true), (9, true)] 10 (fun w' => Blk w' w.heap.size 135 #[.string a, .int .i64 i] ∧ Blk w' (w.heap.size + 1) 135 #[.string b, .int .i64 j]) Drw (by kernel_rfl) (by kernel_rfl) Drw.refl (fun _ _ _ => Drw.trans) (fun _ _ h he => ⟨h.1.drw he, h.2.drw he⟩) ⟨(by (repeat (with_reducible first | assumption | exact Blk.new' (by simp) | refine Blk.drew ?_ | refine Blk.alloc ?_ _ | exact Drw.refl _ | refine Ext.drew ?_ | refine Ext.alloc ?_ _))), (by (repeat (with_reducible first | assumption | exact Blk.new' (by simp) | refine Blk.drew ?_ | refine Blk.alloc ?_ _ | exact Drw.refl _ | refine Ext.drew ?_ | refine Ext.alloc ?_ _)))⟩ ?_
 repeat
  first
   | (refine plan_quiet rfl rfl (fun _ _ _ _ h => h) ?_
      apply Exists.intro
      refine ⟨fun w' hw' => ?_, ?_⟩
      ·obtain ⟨hH0, hH1⟩ := hw'
       unfold Blk at hH0 hH1
       simp [go_sem, quietTo, World.cell?, hH0, hH1, Drw.refl, ↓IntWalk.iteOmega]
       first
        | rfl
        | (exact cmpSE_any _ _ _)
        | (exact cmpIntE_any _ _ _)
      simp only [Act.put, sIA, sCS, sCZ])
   | (refine plan_skip rfl rfl (fun _ _ _ _ h => h) ?_
      simp only [Act.put, sIA, sCS, sCZ])
 refine plan_nil fun wr her hwr => ?_
 obtain ⟨hH0, hH1⟩ := hwr
 obtain ⟨hC0, hF0⟩ := hH0.walk
 obtain ⟨hC1, hF1⟩ := hH1.walk
 simp only [List.drop_succ_cons, List.drop_zero, List.drop_nil]
 go_wp2_with (go_at_call 107; refine (orInt_blk _ _ 2 [cmpS a b, cmpZ i j] _ (by simp) (Blk.new' rfl)).mono ?_; rintro e w2 ⟨rfl, rfl⟩)
 go_ret
 refine ⟨rfl, ?_⟩
 obtain ⟨q, rfl⟩ := her
 exact ⟨q + 1, _, grow_three _ _ _ _ _⟩
theorem grow_more (w : World) (q : Nat) (A B : Obj) (os : Array Obj) : grow (((w.alloc A).alloc B).drewN q) os = grow (w.drewN q) (#[A, B] ++ os) := by
 rw [grow_two]
 simp [grow]
set_option maxRecDepth 100000 in
set_option maxHeartbeats 1600000 in
theorem entG_any (a b : LentV) (w : World) :
 Calls Tryz.prog 177 #[.agg #[.string a.piece, .int .i64 a.no, .string a.singer, .int .i64 a.since], .agg #[.string b.piece, .int .i64 b.no, .string b.singer, .int .i64 b.since]] w fun e w' => e = .returned (.int .i64 (entO a b)) ∧ ∃ q os', w' = grow (w.drewN q) os' := by
 have hF : entO a b = orF [cmpS a.piece b.piece, cmpZ a.no b.no] := rfl
 rw [hF]
 have hc := idsG_any a.piece b.piece a.no b.no ((w.alloc (.cells #[.string a.piece, .int .i64 a.no, .string a.singer, .int .i64 a.since] 65)).alloc (.cells #[.string b.piece, .int .i64 b.no, .string b.singer, .int .i64 b.since] 65))
 generalize orF [cmpS a.piece b.piece, cmpZ a.no b.no] = f at *
 clear hF; replace hc := Lib.hid hc
 go_enter Tryz.func177, Tryz.ntmps177
 go_wp2_with (go_at_call 178; (with_reducible refine Calls.mono hc.out ?_); rintro e w1 ⟨rfl, q, os, rfl⟩)
 go_ret
 exact ⟨rfl, q, _, grow_more w q _ _ os⟩
set_option maxRecDepth 100000 in
theorem sortLent_any {w : World} {base g n cap : Nat} {L : List LentV} (h : w.ownsRow base 65 4 (.slice (some ⟨g, 0, none⟩) n cap) n (L.flatMap lentC)) (hn : L.length = n) (hn1 : n ≤ 100000) (hok : L.Pairwise fun a b => ¬ (a.piece = b.piece ∧ a.no = b.no)) :
 Calls Tryz.prog 176 #[.slice (some ⟨g, 0, none⟩) n cap, .func (.func 177) #[] #[]] w fun e w' => e = .returned (.tuple #[]) ∧ ∃ M : List LentV, M.Perm L ∧ M.Pairwise entLt ∧ w'.ownsRow base 65 4 (.slice (some ⟨g, 0, none⟩) n cap) n (M.flatMap lentC) ∧ ∀ a : World, Ext a w → a.heap.size ≤ g → Ext a w' := by
 have hgl := (h.lt g rfl).2
 subst hn
 have hs := AnyQ.slices_SortFunc Tryz.lsfLent 4 Tryz.isAgg65 Tryz.sizeOf65 lentC lentC_len lentC_one entO ent_swo 177 #[] g 0 cap L.toArray w (fun args u => by rfl) (fun m os dk _ x y => entG_any x y _) (holdsK_own lentC_len h) hgl (by simp; omega)
 refine hs.mono fun e w' ⟨he, d', q, os, hp, hso, hw⟩ => ?_
 obtain ⟨hpm, hri⟩ := sortL_of hok (by simpa using hp) (by simpa using hso)
 refine ⟨he, d'.toList, hpm, hri, ?_, ?_⟩
 ·rw [hw]
  exact own_sortK lentC_len h hpm.length_eq
 ·intro a ha hg
  rw [hw]
  exact ext_sortK ha hg
theorem sortNoneL_any (p : Option Addr) (cap : Nat) (fv : Value) (w : World) :
 Calls Tryz.prog 176 #[.slice p 0 cap, fv] w fun e w' => e = .returned (.tuple #[]) ∧ w = w' := (AnyF.slices_SortFunc_none Tryz.lsfLent _ _ _ _).mono (fun _ _ h => And.intro h.1 h.2.symm)
/-- The loans that are not ended. -/
def toL (l : LoanV) : LentV := ⟨l.piece, l.no, l.singer, l.since⟩
def outL (X : List LoanV) : List LentV := (X.filter fun l => decide l.Open).map toL
theorem outL_snoc (X : List LoanV) (l : LoanV) : outL (X ++ [l]) = outL X ++ if l.Open then [toL l] else [] := by
 unfold outL
 rw [List.filter_append, List.map_append]
 by_cases h : l.Open <;> simp [h]
theorem outL_len (X : List LoanV) : (outL X).length ≤ X.length := by
 unfold outL
 rw [List.length_map]
 exact List.length_filter_le _ _
theorem out_diff {each t : Int} {L : LibS} (h : LibI each t L) : (outL L.loans).Pairwise fun a b => ¬ (a.piece = b.piece ∧ a.no = b.no) := by
 unfold outL
 rw [List.pairwise_map, List.pairwise_filter, List.pairwise_iff_getElem]
 intro i j hi hj hij ho1 ho2 he
 have ho1 : L.loans[i].Open := by simpa using ho1
 have ho2 : L.loans[j].Open := by simpa using ho2
 have h1 := (h.open_ i _ (List.getElem?_eq_getElem hi) ho1).2
 have h2 := (h.open_ j _ (List.getElem?_eq_getElem hj) ho2).2
 have e : idL L.loans[i] = idL L.loans[j] := Prod.ext he.1 he.2
 rw [e, h2] at h1
 have := Option.some.inj h1
 omega
def LentR (X : List LoanV) (w : World) (e : Ending) (w' : World) : Prop := ∃ (v : Value) (M : List LentV), e = .returned v ∧ M.Perm (outL X) ∧ M.Pairwise entLt ∧ w'.ownsRow w.heap.size 65 4 v M.length (M.flatMap lentC) ∧ Ext w w'
set_option maxRecDepth 100000 in
set_option maxHeartbeats 3200000 in
theorem lent_any {base : Nat} {w : World} {bb ms ml mh q : Nat} {tp : Option Addr} {tn tc : Nat} {r : LendR} {L : LibS} (h : LibM base w bb ms ml mh q tp tn tc r L) (hl : L.loans.length ≤ 1000) (hdf : (outL L.loans).Pairwise fun a b => ¬ (a.piece = b.piece ∧ a.no = b.no)) :
 Calls Tryz.prog 90 #[.pointer (some ⟨bb, 0, none⟩)] w (LentR L.loans w) := by
 obtain ⟨⟨lv, hB, ho⟩, -⟩ := h
 obtain ⟨lp, lc, rfl, hS⟩ := slc_of_own loanC_len ho (by decide) (by omega)
 have c7 := hB.cell 7
 have lb := hB.lt
 unfold libC at c7
 generalize L.loans = X at *
 clear hB ho; replace hS := Lib.hid hS; replace hdf := Lib.hid hdf
 go_enter Tryz.func90, Tryz.ntmps90
 go_wp2
 go_loopw [3,11] (fun v3 v11 wr => ∃ (k : Nat) (v : Value), v11 = .int .i64 k ∧ v = v3 ∧ k ≤ X.length ∧ wr.ownsRow w.heap.size 65 4 v (outL (X.take k)).length ((outL (X.take k)).flatMap lentC) ∧ Ext w wr) (fun _ v11 _ => X.length - (intOf v11).toNat)
 case atStart => exact ⟨0, _, rfl, rfl, Nat.zero_le _, World.ownsRow_nil _ _ _ _, Ext.refl _⟩
 case round =>
  obtain ⟨k, v, rfl, rfl, hk, hown, he⟩ := hrel
  by_cases hlt : k < X.length
  ·obtain ⟨l, hx⟩ := getD_some (rfl : X.length = X.length) hlt
   obtain ⟨b, off, rfl, hb, hE⟩ := hS.out.1.2.2 (by omega)
   have hEr := hE.ext he hb
   have d0 : wr.cell? ⟨b, off + k * 6, none⟩ = some (.string l.piece) := hEr k _ hx 0 _ rfl
   have d1 : wr.cell? ⟨b, off + k * 6 + 1, none⟩ = some (.int .i64 l.no) := hEr k _ hx 1 _ rfl
   have d2 : wr.cell? ⟨b, off + k * 6 + 2, none⟩ = some (.string l.singer) := hEr k _ hx 2 _ rfl
   have d3 : wr.cell? ⟨b, off + k * 6 + 3, none⟩ = some (.int .i64 l.since) := hEr k _ hx 3 _ rfl
   have d4 : wr.cell? ⟨b, off + k * 6 + 4, none⟩ = some (.int .i64 l.till) := hEr k _ hx 4 _ rfl
   have d5 : wr.cell? ⟨b, off + k * 6 + 5, none⟩ = some (.bool l.lost) := hEr k _ hx 5 _ rfl
   have hkI : (k : Int) < (X.length : Int) := by omega
   have hsn := outL_snoc (X.take k) l
   rw [← take_snocL hx] at hsn
   have hol : (outL (X.take k)).length ≤ 1000 := Nat.le_trans (outL_len _) (by rw [List.length_take]; omega)
   have hsz := he.size
   replace hx := Lib.hid hx; replace hE := Lib.hid hE; clear hEr
   by_cases hop : l.till < 0
   ·rw [if_pos (show l.Open from hop)] at hsn
    replace hsn := Lib.hid hsn
    go_wp2_with (at_builtin; go_loud (refine wp_app1 _ (.tmp 18) (.tmp 30) 43 65 4 48 _ rfl rfl Tryz.underlying43 lentInfo rfl (by decide) (by decide) w.heap.size _ _ _ rfl ((hown.alloc _).alloc _) _ (lentC ⟨l.piece, l.no, l.singer, l.since⟩) rfl rfl (Blk.new' (by simp)) (lentC_one _) (by omega) (by simp; omega) ?_; intro v' wz hownz hgrowz _))
    go_roundw
    case rel => exact ⟨k + 1, v', by go_num, rfl, by omega, by rw [hsn.out, List.length_append, flat_snoc]; exact hownz, ((he.alloc _).alloc _).app ((hown.alloc _).alloc _) (Nat.le_refl _) hgrowz⟩
    case measure => simp [intOf]; omega
   ·rw [if_neg (show ¬ l.Open from hop), List.append_nil] at hsn
    replace hsn := Lib.hid hsn
    go_wp2
    go_roundw
    case rel => exact ⟨k + 1, _, by go_num, rfl, by omega, by rw [hsn.out]; exact hown.alloc _, he.alloc _⟩
    case measure => simp [intOf]; omega
  ·obtain rfl : X.length = k := by omega
   rw [List.take_length] at hown
   have hol : (outL X).length ≤ 1000 := Nat.le_trans (outL_len _) hl
   rcases Nat.eq_zero_or_pos (outL X).length with h0 | h0
   ·obtain ⟨p9, c9, rfl, -⟩ := slc_of_own lentC_len hown (by decide) (by omega)
    have hr : LentR X w (.returned (.slice p9 (outL X).length c9)) wr := ⟨_, outL X, rfl, List.Perm.refl _, by rw [List.eq_nil_of_length_eq_zero h0]; exact List.Pairwise.nil, hown, he⟩
    rw [h0] at hr
    replace hr := Lib.hid hr
    rw [h0]
    replace h0 := Lib.hid h0; clear hown hol
    go_wp2_with (go_at_call 176; (with_reducible refine Calls.mono (sortNoneL_any p9 c9 _ _) ?_); rintro e w5 ⟨rfl, rfl⟩)
    go_ret
    exact hr.out
   ·obtain ⟨g, cap, rfl, hg, hgl2⟩ := hown.form h0
    have hso := sortLent_any hown rfl (by omega) hdf.out
    replace hso := Lib.hid hso; clear hown hol
    go_wp2_with (go_at_call 176; (with_reducible refine Calls.mono hso.out ?_); rintro e w5 ⟨rfl, M, hSp, hSr, hSo, hSx⟩)
    have hr : LentR X w (.returned (.slice (some ⟨g, 0, none⟩) (outL X).length cap)) w5 := ⟨_, M, rfl, hSp, hSr, by rw [hSp.length_eq]; exact hSo, hSx w he hg⟩
    go_ret
    exact hr
end Go.Proofs.YtehboinleolihaaGreatDoor
