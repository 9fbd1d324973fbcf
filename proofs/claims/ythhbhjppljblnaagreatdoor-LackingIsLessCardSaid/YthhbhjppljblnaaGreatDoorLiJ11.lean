/- A row of the call's own whose elements are rows of the call's own. Conditions: as each theorem says. Who is paid for, by tour. Conditions: sizes. -/
import Derived.Test.YthhbhjppljblnaaGreatDoorLiJ9
import Derived.Test.YthhbhjppljblnaaGreatDoorLiJ8
import Derived.Test.YthhbhjppljblnaaGreatDoorLiJ4
import Derived.WalkLawsBesides
import Derived.Outline
set_option linter.unusedSimpArgs false
set_option linter.unusedVariables false
namespace Go.Proofs.YthhbhjppljblnaaGreatDoor
open Go Go.RowKit

theorem own_own {w : World} {base base' k k' n m : Nat} {t e : TypeId} {u v : Value} {xs ys : List Value} (h : w.ownsRow base t k u n xs) (g : w.ownsRow base' e k' v m ys) (hne : t ≠ e) : u.ownBlock = none ∨ u.ownBlock ≠ v.ownBlock := by
  rcases h.2 with ⟨rfl, _⟩ | ⟨b, cap, cur, rfl, _, h3, _⟩
  · exact .inl rfl
  · right
    intro e1
    rcases g.2 with ⟨rfl, _⟩ | ⟨c, cap', cur', rfl, _, g3, _⟩
    · simp [Value.ownBlock] at e1
    · have e2 : b = c := by simpa [Value.ownBlock] using e1
      subst e2
      rw [h3] at g3
      simp at g3
      exact hne g3.2
/-- Own rows in an own row. -/
def OwnRows {α : Type} (t e : TypeId) (enc : α → List Value) (w : World) (base : Nat) (v : Value) (C : List (List α)) : Prop :=
  ∃ vs : List Value, w.ownsRow base t 1 v C.length vs ∧ ∀ (j : Nat) (r : List α), C[j]? = some r → ∃ u, vs[j]? = some u ∧ w.ownsRow base e 1 u r.length (r.flatMap enc)
section
variable {α : Type} {t e : TypeId} {enc : α → List Value} {w w' : World} {base : Nat} {v : Value} {C : List (List α)}
theorem OwnRows.nil : OwnRows t e enc w base (.slice none 0 0) [] := ⟨[], World.ownsRow_nil _ _ _ _, fun j r h => by cases h⟩
theorem OwnRows.grown (h : OwnRows t e enc w base v C) {b : Nat} (hg : w.grownBy w' (some b)) (hb : b < base) : OwnRows t e enc w' base v C := by
  obtain ⟨vs, h1, h2⟩ := h
  have hk : ∀ {n : Nat} {f : TypeId} {u : Value} {xs : List Value}, w.ownsRow base f 1 u n xs → w'.ownsRow base f 1 u n xs := fun ho => ho.kept hg (by
    cases hj : Value.ownBlock _ with
    | none => exact .inl rfl
    | some j => exact .inr fun e => by cases e; have := (ho.lt b hj).1; omega)
  exact ⟨vs, hk h1, fun j r hr => let ⟨u, a, b⟩ := h2 j r hr; ⟨u, a, hk b⟩⟩
theorem OwnRows.ext (h : OwnRows t e enc w base v C) (he : Ext w w') : OwnRows t e enc w' base v C := by
  obtain ⟨vs, h1, h2⟩ := h
  exact ⟨vs, own_ext he h1, fun j r hr => let ⟨u, a, b⟩ := h2 j r hr; ⟨u, a, own_ext he b⟩⟩
/-- One row more. -/
theorem OwnRows.app (h : OwnRows t e enc w base v C) (hte : t ≠ e) {vs : List Value} (hvs : ∀ (j : Nat) (r : List α), C[j]? = some r → ∃ u, vs[j]? = some u ∧ w.ownsRow base e 1 u r.length (r.flatMap enc)) (hv : w.ownsRow base t 1 v C.length vs) {r : List α} {u v' : Value} (hu : w.ownsRow base e 1 u r.length (r.flatMap enc))
    (h1 : w'.ownsRow base t 1 v' (C.length + 1) (vs ++ [u])) (hg : w.grownBy w' v.ownBlock) : OwnRows t e enc w' base v' (C ++ [r]) := by
  have hl : vs.length = C.length := by have := hv.1; omega
  refine ⟨vs ++ [u], by rw [List.length_append, List.length_singleton]; exact h1, fun j s hs => ?_⟩
  rcases Nat.lt_or_ge j C.length with hlt | hge
  · rw [List.getElem?_append_left hlt] at hs
    obtain ⟨x, a, b⟩ := hvs j s hs
    exact ⟨x, by rw [List.getElem?_append_left (by omega)]; exact a, b.kept hg (own_own b hv (fun e => hte e.symm))⟩
  · rw [List.getElem?_append_right hge] at hs
    have h0 : j - C.length = 0 := by have := (List.getElem?_eq_some_iff.1 hs).1; simp at this; omega
    rw [h0] at hs
    obtain rfl : r = s := by simpa using hs
    exact ⟨u, by rw [List.getElem?_append_right (by omega), hl, h0]; rfl, hu.kept hg (own_own hu hv (fun e => hte e.symm))⟩
theorem OwnRows.rows (h : OwnRows t e enc w base v C) (hk : ∀ x, (enc x).length = 1) (hn : C.length ≤ 1000000000) (hr : ∀ r ∈ C, r.length ≤ 1000000000) : ∃ p c, v = .slice p C.length c ∧ RowsR enc w p C.length c C := by
  obtain ⟨vs, h1, h2⟩ := h
  have hvs : vs = vs.flatMap (fun v => [v]) := by
    clear h1 h2
    induction vs with
    | nil => rfl
    | cons a vs ih => rw [List.flatMap_cons, ← ih]; rfl
  have hl : vs.length = C.length := by have := h1.1; omega
  have h3 := h1
  rw [hvs] at h3
  obtain ⟨p, c, rfl, hS⟩ := slc_of_own (enc := fun v => [v]) (fun _ => rfl) h3 (by decide) hn
  refine ⟨p, c, rfl, vs, hS, hl, fun i r hir => ?_⟩
  obtain ⟨u, a, b⟩ := h2 i r hir
  obtain ⟨q, d, rfl, hq⟩ := slc_of_own (enc := enc) hk b (by decide) (hr r (List.mem_of_getElem? hir))
  exact ⟨q, d, a, hq⟩
end
end Go.Proofs.YthhbhjppljblnaaGreatDoor

namespace Go.Proofs.YthhbhjppljblnaaGreatDoor
open Go Go.RowKit

def chkFor (ls : List ByteArray) (i : Nat) : Int :=
  if keyB (atL ByteArray.empty ls i) then (if 0 < i && leB (atL ByteArray.empty ls i) (atL ByteArray.empty ls (i - 1)) then 7 else 0) else 5
def forF (ls : List ByteArray) : Int := if ls.length = 0 then 8 else if 200 < ls.length then 2 else scanF ls.length (chkFor ls)

set_option maxRecDepth 100000 in
theorem forFault_any (p : Option Addr) (n c : Nat) (ls : List ByteArray) (w : World) (h : Sl 1 strC w p n ls) (hs : ∀ (i : Nat) (s : ByteArray), ls[i]? = some s → s.size ≤ 1000000000) :
    Calls Tryz.prog 134 #[.slice p n c] w fun e w' => e = .returned (.int .i64 (forF ls)) ∧ Ext w w' := by
  have hn := h.2.1
  have hl := h.1
  have hF : forF ls = if n = 0 then 8 else if 200 < n then 2 else scanF n (chkFor ls) := by unfold forF; rw [hl]
  replace hF := Lib.hid hF
  by_cases h0 : n = 0
  · have h0' : ((n : Int) == 0) = true := by simp [h0]
    replace h0 := Lib.hid h0
    clear h hl
    go_enter Tryz.func134, Tryz.ntmps134
    go_wp2
    go_ret
    exact ⟨ret_int (by rw [hF.out, if_pos h0.out]), Ext.refl _⟩
  · obtain ⟨b, off, rfl, hb, hE⟩ := h.2.2 h0
    clear h
    have h0' : ((n : Int) == 0) = false := by simp [h0]
    replace hl := Lib.hid hl
    by_cases h200 : 200 < n
    · go_enter Tryz.func134, Tryz.ntmps134
      go_wp2
      go_ret
      exact ⟨ret_int (by rw [hF.out, if_neg h0, if_pos h200]), Ext.refl _⟩
    have hd : decide (200 < (n : Int)) = false := by simp; omega
    go_enter Tryz.func134, Tryz.ntmps134
    go_wp2
    go_loopw [13] (fun i w' => ∃ k : Nat, k ≤ n ∧ i = .int .i64 k ∧ Zeros (chkFor ls) k ∧ Ext w w') (fun i _ => n - (intOf i).toNat)
    case atStart => exact ⟨0, Nat.zero_le _, rfl, fun _ hj => by omega, Ext.refl _⟩
    case round =>
      obtain ⟨k, hk, rfl, hz, he⟩ := hrel
      have hbw := Nat.lt_of_lt_of_le hb he.size
      by_cases hlt : k < n
      · obtain ⟨s, hx⟩ := getD_some hl.out hlt
        have hsz := hs k s hx
        have hcell := (hE.ext he hb).str hx
        have hchk : chkFor ls k = if keyB s then (if 0 < k && leB s (atL ByteArray.empty ls (k - 1)) then 7 else 0) else 5 := by unfold chkFor; rw [atL_of hx]
        replace hx := Lib.hid hx
        replace hchk := Lib.hid hchk
        by_cases hk0 : 0 < k
        · obtain ⟨s1, hx1⟩ := getD_some (i := k - 1) hl.out (by omega)
          have hcell1 := (hE.ext he hb).str hx1
          replace hx1 := Lib.hid hx1
          go_wp2_with (go_at_call 118; refine (isKey_any s _ (by omega)).mono ?_; rintro e w1 ⟨rfl, hb1⟩; obtain ⟨hc1, hf1, hz1⟩ := hb1.walk)
          · go_ret
            exact ⟨ret_int (by rw [hF.out, if_neg h0, if_neg h200]; exact scan_is hz hlt (by rw [hchk.out]; simp_all) (by decide)), he.trans hb1⟩
          · go_ret
            exact ⟨ret_int (by rw [hF.out, if_neg h0, if_neg h200]; exact scan_is hz hlt (by rw [hchk.out, atL_of hx1.out]; simp_all [leB]) (by decide)), he.trans hb1⟩
          · go_roundw
            case rel => exact ⟨k + 1, by omega, by go_num, hz.succ (by rw [hchk.out, atL_of hx1.out]; simp_all [leB]), he.trans hb1⟩
            case measure => simp [intOf]; omega
        · have hk1 : ((k : Int) == 0) = true := by simp; omega
          go_wp2_with (go_at_call 118; refine (isKey_any s _ (by omega)).mono ?_; rintro e w1 ⟨rfl, hb1⟩; obtain ⟨hc1, hf1, hz1⟩ := hb1.walk)
          · go_ret
            exact ⟨ret_int (by rw [hF.out, if_neg h0, if_neg h200]; exact scan_is hz hlt (by rw [hchk.out]; simp_all) (by decide)), he.trans hb1⟩
          · go_roundw
            case rel => exact ⟨k + 1, by omega, by go_num, hz.succ (by rw [hchk.out]; simp_all), he.trans hb1⟩
            case measure => simp [intOf]; omega
      · go_wp2
        go_ret
        obtain rfl : k = n := by omega
        exact ⟨ret_int (by rw [hF.out, if_neg h0, if_neg h200, scan_zero hz]), he⟩

end Go.Proofs.YthhbhjppljblnaaGreatDoor
