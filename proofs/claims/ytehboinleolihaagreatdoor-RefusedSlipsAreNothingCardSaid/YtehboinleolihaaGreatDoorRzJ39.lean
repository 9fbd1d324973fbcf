/- Those that are out are with one singer each: plain. Conditions: as each theorem says. What is owed for loans: plain. Conditions: as each theorem says. -/
import Derived.Test.YtehboinleolihaaGreatDoorRzLcB
import Derived.Test.YtehboinleolihaaGreatDoorRzJ22
import Derived.Test.YtehboinleolihaaGreatDoorRzJ19
set_option linter.unusedSimpArgs false
set_option linter.unusedVariables false
namespace Go.Proofs.YtehboinleolihaaGreatDoor
open Go Go.RowKit Go.Sort

theorem nodup_sub {α : Type} [DecidableEq α] : ∀ {A B : List α}, A.Nodup → (∀ x ∈ A, x ∈ B) → A.length ≤ B.length
  | [], _, _, _ => by simp
  | a :: A, B, hn, hs => by
    obtain ⟨h1, h2⟩ := List.nodup_cons.1 hn
    have hm := hs a List.mem_cons_self
    obtain ⟨X, Y, rfl⟩ := List.append_of_mem hm
    have h3 := nodup_sub (A := A) (B := X ++ Y) h2 fun x hx => by
      have := hs x (List.mem_cons_of_mem _ hx)
      rcases List.mem_append.1 this with h | h
      · exact List.mem_append_left _ h
      · rcases List.mem_cons.1 h with h | h
        · exact absurd (h ▸ hx) h1
        · exact List.mem_append_right _ h
    simp only [List.length_append, List.length_cons] at h3 ⊢
    omega
end Go.Proofs.YtehboinleolihaaGreatDoor

namespace Go.Proofs.YtehboinleolihaaGreatDoor
open Go Go.RowKit Go.Sort

/-! ### what always holds of loans -/
def LoanT (l : LoanV) : Prop := (0 ≤ l.since ∧ l.since ≤ 345686399999) ∧ (-1 ≤ l.till ∧ l.till ≤ 345686399999) ∧ keyB l.singer = true
def LibT (L : LibS) : Prop := ∀ l ∈ L.loans, LoanT l
theorem slipD_T {n : Nat} {T : List TitleV} {r : LendR} {L : LibS} {x : SlipV} (h : LibT L) (hn : LibN n L) (hx : SlipOk x) : LibT (slipD T r L x).1 := by
  unfold slipD
  by_cases h1 : isCopyT T (x.piece, x.copy) = false
  · rw [if_pos h1]; exact h
  rw [if_neg h1]
  by_cases h2 : L.at_ (x.piece, x.copy) ≠ needW x.kind
  · rw [if_pos h2]; exact h
  rw [if_neg h2]
  have h2 : L.at_ (x.piece, x.copy) = needW x.kind := Classical.byContradiction h2
  have hset : ∀ (y : LoanV), (L.at_ (x.piece, x.copy) = outW ∨ L.at_ (x.piece, x.copy) = lostW) → (LoanT (lastL L (x.piece, x.copy)) → LoanT y) → ∀ l ∈ L.loans.set (lastI L (x.piece, x.copy)) y, LoanT l := fun y hs hy l hl => by
    obtain ⟨i, e1, e2⟩ := hn.ok.last _ hs
    rcases List.mem_or_eq_of_mem_set hl with hl | rfl
    · exact h l hl
    · exact hy (h _ (List.mem_of_getElem? (lastL_of e1 e2)))
  by_cases k1 : x.kind = 1
  · rw [if_pos k1]
    unfold lendD
    by_cases h3 : x.piece ∈ ownOf L x.singer
    · rw [if_pos h3]; exact h
    rw [if_neg h3]
    by_cases h4 : r.each ≤ (ownOf L x.singer).length
    · rw [if_pos h4]; exact h
    rw [if_neg h4]
    intro l hl
    rcases List.mem_append.1 hl with hl | hl
    · exact h l hl
    · rw [List.mem_singleton.1 hl]
      exact ⟨hx.at_, ⟨by simp only; omega, by simp only; omega⟩, (hx.singer.resolve_right fun hh => hh.1 k1).2⟩
  rw [if_neg k1]
  by_cases k2 : x.kind = 2 ∨ x.kind = 3
  · rw [if_pos k2]
    refine hset _ (.inl (by rw [h2]; rcases k2 with e | e <;> rw [e] <;> rfl)) fun hh => ⟨hh.1, ⟨?_, hx.at_.2⟩, hh.2.2⟩
    have := hx.at_.1
    simp only
    omega
  rw [if_neg k2]
  by_cases k4 : x.kind = 4
  · rw [if_pos k4]
    exact hset _ (.inr (by rw [h2, k4]; rfl)) fun hh => hh
  rw [if_neg k4]
  exact h
theorem run_T {T : List TitleV} {r : LendR} {d : List SlipV} (hd : ∀ x ∈ d, SlipOk x ∧ x.singer.size ≤ 1000000) {is : List Nat} (hi : ∀ i ∈ is, i < d.length) : ∀ (k : Nat), k ≤ is.length → k ≤ 100000 → LibT (runR T r d (LibS.new, fun _ => none) (is.take k)).1
  | 0, _, _ => by
    intro l hl
    simp [runR, LibS.new] at hl
  | k + 1, hk, hb => by
    have e : is[k]? = some is[k] := List.getElem?_eq_getElem (by omega)
    rw [run_take e]
    have hm : is[k] < d.length := hi _ (List.getElem_mem _)
    have hx := hd d[is[k]] (List.getElem_mem _)
    have ed : d.getD is[k] default = d[is[k]] := by rw [List.getD_eq_getElem?_getD, List.getElem?_eq_getElem hm]; rfl
    unfold stepR
    rw [ed]
    exact slipD_T (run_T hd hi k (by omega) (by omega)) (run_ok (fun x hx => ⟨(hd x hx).1.kind, (hd x hx).2⟩) hi k (by omega) (by omega)) hx.1
theorem libAt_T {T : List TitleV} {r : LendR} {d : List SlipV} {t : Int} (hd : RightS d) (hs : ∀ x ∈ d, x.Small) : LibT (libAt T r d t).1 := by
  have h := run_T (T := T) (r := r) (d := d) (fun x hx => ⟨slip_ok (hd.one x hx), (hs x hx).2.2⟩) (is := ordF d t) (fun i hi => (mem_ord.1 hi).1) (ordF d t).length (Nat.le_refl _) (by have := ord_len d t; have := hd.len; omega)
  rw [List.take_length] at h
  exact h
/-! ### what is owed -/
def dueF (r : LendR) (s : Int) : Int := s + r.days * 86400000
def overF (r : LendR) (t : Int) (l : LoanV) : Int := (if l.till < 0 then t else l.till) - dueF r l.since
def costF (T : List TitleV) (p : ByteArray) : Int := ((titleOf T p).getD ⟨⟨#[]⟩, 0, 0⟩).cost
def lateF (r : LendR) (v : Int) : Int := if 0 < v then min ((v + 86399999) / 86400000 * r.late) r.most else 0
def owedF (T : List TitleV) (r : LendR) (t : Int) (l : LoanV) : Int := lateF r (overF r t l) + if l.lost then costF T l.piece else 0
structure LendOk (r : LendR) : Prop where
  days : 1 ≤ r.days ∧ r.days ≤ 1000
  late : 0 ≤ r.late ∧ r.late ≤ 10000
  most : 0 ≤ r.most ∧ r.most ≤ 10000
  each : 1 ≤ r.each ∧ r.each ≤ 300
theorem lend_ok {r : LendR} (h : lendF r = 0) : LendOk r := by
  unfold lendF at h
  split at h
  · rename_i h1
    unfold inB at h1
    simp at h1
    exact ⟨h1.1.1.1, h1.1.1.2, h1.1.2, h1.2⟩
  · cases h
theorem over_bound {r : LendR} {t : Int} {l : LoanV} (hr : LendOk r) (ht : 0 ≤ t ∧ t ≤ 345686399999) (hl : LoanT l) : -432086399999 ≤ overF r t l ∧ overF r t l ≤ 345686399999 := by
  obtain ⟨⟨a1, a2⟩, ⟨a3, a4⟩, -⟩ := hl
  have h1 := hr.days
  unfold overF dueF
  have h2 : r.days * 86400000 ≤ 86400000000 := by omega
  have h3 : 86400000 ≤ r.days * 86400000 := by omega
  split <;> omega
theorem mul_bound {a b A B : Int} (ha : 0 ≤ a ∧ a ≤ A) (hb : 0 ≤ b ∧ b ≤ B) : 0 ≤ a * b ∧ a * b ≤ A * B :=
  ⟨Int.mul_nonneg ha.1 hb.1, Int.mul_le_mul ha.2 hb.2 hb.1 (Int.le_trans ha.1 ha.2)⟩
theorem days_bound {v : Int} (h0 : 0 < v) (h1 : v ≤ 345686399999) : 0 ≤ (v + 86399999) / 86400000 ∧ (v + 86399999) / 86400000 ≤ 4002 := by omega
theorem late_bound {r : LendR} {v : Int} (hr : LendOk r) (h1 : v ≤ 345686399999) : 0 ≤ lateF r v ∧ lateF r v ≤ 10000 := by
  unfold lateF
  split
  · rename_i h0
    have h2 := (mul_bound (days_bound h0 h1) hr.late).1
    have h3 := hr.most
    omega
  · omega
theorem cost_bound {T : List TitleV} (hT : TitlesOk T) (p : ByteArray) : 0 ≤ costF T p ∧ costF T p ≤ 10000 := by
  unfold costF
  cases e : titleOf T p with
  | none => simp
  | some t =>
    have h := hT.one t (titleOf_get e).1
    exact h.2.2.2
theorem owed_bound {T : List TitleV} {r : LendR} {t : Int} {l : LoanV} (hT : TitlesOk T) (hr : LendOk r) (ht : 0 ≤ t ∧ t ≤ 345686399999) (hl : LoanT l) : 0 ≤ owedF T r t l ∧ owedF T r t l ≤ 20000 := by
  have h1 := late_bound hr (over_bound hr ht hl).2
  have h2 := cost_bound hT l.piece
  unfold owedF
  split <;> omega
/-- All that a singer owes. -/
def sumD (T : List TitleV) (r : LendR) (t : Int) (X : List LoanV) (s : ByteArray) : Int := ((X.filter fun l => decide (l.singer = s)).map (owedF T r t)).sum
theorem sumD_snoc (T : List TitleV) (r : LendR) (t : Int) (X : List LoanV) (l : LoanV) (s : ByteArray) : sumD T r t (X ++ [l]) s = sumD T r t X s + if l.singer = s then owedF T r t l else 0 := by
  unfold sumD
  rw [List.filter_append, List.map_append, List.sum_append]
  by_cases h : l.singer = s <;> simp [h]
theorem sumD_bound {T : List TitleV} {r : LendR} {t : Int} (hT : TitlesOk T) (hr : LendOk r) (ht : 0 ≤ t ∧ t ≤ 345686399999) (s : ByteArray) : ∀ {X : List LoanV}, (∀ l ∈ X, LoanT l) → 0 ≤ sumD T r t X s ∧ sumD T r t X s ≤ 20000 * X.length
  | [], _ => by simp [sumD]
  | l :: X, h => by
    have ih := sumD_bound hT hr ht s (X := X) fun z hz => h z (List.mem_cons_of_mem _ hz)
    have h1 := owed_bound hT hr ht (h l List.mem_cons_self)
    unfold sumD at ih ⊢
    by_cases e : l.singer = s
    · rw [List.filter_cons_of_pos (by simpa using e)]
      simp only [List.map_cons, List.sum_cons, List.length_cons]
      omega
    · rw [List.filter_cons_of_neg (by simpa using e)]
      simp only [List.length_cons]
      omega
def owedM (T : List TitleV) (r : LendR) (t : Int) (X : List LoanV) : ByteArray → Option Int := fun s => if X.any (fun l => decide (l.singer = s)) = true then some (sumD T r t X s) else none
theorem owedM_nil (T : List TitleV) (r : LendR) (t : Int) : owedM T r t [] = fun _ => none := rfl
theorem owedM_get (T : List TitleV) (r : LendR) (t : Int) (X : List LoanV) (s : ByteArray) : (owedM T r t X s).getD 0 = sumD T r t X s := by
  unfold owedM
  split
  · rfl
  · rename_i h
    unfold sumD
    rw [List.filter_eq_nil_iff.2 fun l hl => ?_]
    · rfl
    · intro e
      exact h (List.any_eq_true.2 ⟨l, hl, e⟩)
theorem owedM_put (T : List TitleV) (r : LendR) (t : Int) (X : List LoanV) (l : LoanV) : updK (owedM T r t X) l.singer (sumD T r t X l.singer + owedF T r t l) = owedM T r t (X ++ [l]) := by
  funext s
  unfold updK owedM
  rw [List.any_append, sumD_snoc]
  by_cases e : s = l.singer
  · subst e
    simp
  · rw [if_neg e]
    have e2 : ¬ l.singer = s := fun h => e h.symm
    simp [e2]
abbrev DebtV := ByteArray × Int
def debtLt (a b : DebtV) : Prop := b.2 < a.2 ∨ (a.2 = b.2 ∧ cmpS a.1 b.1 = -1)
theorem debtLt_asym {a b : DebtV} (h : debtLt a b) (k : debtLt b a) : False := by
  rcases h with h | ⟨h, h'⟩ <;> rcases k with k | ⟨k, k'⟩
  · omega
  · omega
  · omega
  · have h9 := cmpS_trans h' k'
    rw [cmpS_refl] at h9
    cases h9
def DebtP (T : List TitleV) (r : LendR) (t : Int) (X : List LoanV) (M : List DebtV) : Prop := M.Pairwise debtLt ∧ ∀ z : DebtV, z ∈ M ↔ owedM T r t X z.1 = some z.2 ∧ 0 < z.2
theorem debt_nodup {M : List DebtV} (h : M.Pairwise debtLt) : M.Nodup := h.imp fun h e => by subst e; exact debtLt_asym h h
theorem debt_uniq {T : List TitleV} {r : LendR} {t : Int} {X : List LoanV} {M N : List DebtV} (h : DebtP T r t X M) (k : DebtP T r t X N) : M = N :=
  same_of (fun _ _ => debtLt_asym) h.1 k.1 ((List.perm_ext_iff_of_nodup (debt_nodup h.1) (debt_nodup k.1)).2 fun z => (h.2 z).trans (k.2 z).symm)
def debtPair (z : DebtV) : ByteArray × ByteArray := (z.1, itoaL z.2)
end Go.Proofs.YtehboinleolihaaGreatDoor
