/- How stands are ordered, by both texts: what the comparison leaves of the world. Conditions: none. People by their height: plain mathematics (the stable sort by height alone is the sort by height and name). Conditions: as each theorem says. -/
import Derived.Test.YtfcoeikekbjgpaaGreatDoorRxStP
import Derived.Sort.Grow
import Derived.Test.YtfcoeikekbjgpaaGreatDoorRxJ14
import Derived.Sort.LotA
set_option linter.unusedSimpArgs false
set_option linter.unusedVariables false
namespace Go.Proofs.YtfcoeikekbjgpaaGreatDoor
open Go Go.RowKit Go.Sort

/-- Nothing but draws. -/
def Drw (w w' : World) : Prop := ∃ q, w' = w.drewN q
theorem Drw.refl (w : World) : Drw w w := ⟨0, rfl⟩
theorem Drw.trans {a b c : World} (h : Drw a b) (k : Drw b c) : Drw a c := by
  obtain ⟨q, rfl⟩ := h
  obtain ⟨r, rfl⟩ := k
  exact ⟨q + r, by simp [World.drewN, Nat.add_assoc]⟩
theorem Blk.drw {w w' : World} {g : Nat} {t : TypeId} {cs : Array Value} (h : Blk w g t cs) (he : Drw w w') : Blk w' g t cs := by
  obtain ⟨q, rfl⟩ := he
  exact h
set_option maxRecDepth 100000 in
theorem cmpIntE_any (x y : Int) (w : World) :
    Calls Tryz.prog 78 #[.int .i64 x, .int .i64 y] w fun e w' => e = .returned (.int .i64 (cmpZ x y)) ∧ Drw w w' := by
  have hc : (x < y ∧ cmpZ x y = -1) ∨ (x = y ∧ cmpZ x y = 0) ∨ (y < x ∧ cmpZ x y = 1) := by unfold cmpZ; split <;> (try split) <;> omega
  rcases hc with ⟨h, hv⟩ | ⟨h, hv⟩ | ⟨h, hv⟩
  all_goals
    rw [hv]
    clear hv
    go_enter Tryz.func78, Tryz.ntmps78
    go_wp2_with (go_at_call 115; (with_reducible refine Calls.mono (isNaNI_any _ _) ?_); rintro e w' ⟨rfl, rfl⟩)
    go_ret
    exact ⟨rfl, Drw.refl _⟩

theorem grow_three (w : World) (q : Nat) (A B C : Obj) : (((w.alloc A).alloc B).drew.drewN q).alloc C = grow (w.drewN (q + 1)) #[A, B, C] := by
  rw [alloc_eq_grow, alloc_eq_grow, alloc_eq_grow, drew_eq_ahead]
  simp [grow, World.drewN, ahead, Nat.add_assoc, Nat.add_comm]
  refine ⟨?_, by omega, rfl, rfl⟩
  show ((w.heap.push A).push B).push C = _
  apply Array.ext'
  simp
end Go.Proofs.YtfcoeikekbjgpaaGreatDoor

namespace Go.Proofs.YtfcoeikekbjgpaaGreatDoor
open Go Go.RowKit Go.Sort

section
variable {α : Type} [Inhabited α] {lt lt2 : α → α → Bool}
theorem insInner_at (j : Nat) : ∀ (d : Array α), j < d.size → (insInner lt 0 j d).size = d.size ∧ (∀ p, p ≤ j → ∃ p', p' ≤ j ∧ (insInner lt 0 j d)[p]! = d[p']!) ∧ ∀ q, j < q → (insInner lt 0 j d)[q]! = d[q]! := by
  induction j with
  | zero => intro d _; exact ⟨rfl, fun p hp => ⟨p, hp, rfl⟩, fun q _ => rfl⟩
  | succ j ih =>
    intro d hj
    unfold insInner
    split
    · have g := fun k => swp_get d hj (show j < d.size by omega) (k := k)
      obtain ⟨h1, h2, h3⟩ := ih (swp d (j + 1) j) (by rw [swp_size]; omega)
      refine ⟨by rw [h1, swp_size], fun p hp => ?_, fun q hq => ?_⟩
      · by_cases hpj : p = j + 1
        · refine ⟨j, by omega, ?_⟩
          rw [h3 p (by omega), hpj, g]
          simp
        · obtain ⟨p', hp', e⟩ := h2 p (by omega)
          rw [e, g]
          by_cases e1 : p' = j
          · exact ⟨j + 1, by omega, by simp [e1]⟩
          · exact ⟨p', by omega, by simp [e1, show p' ≠ j + 1 by omega]⟩
      · rw [h3 q (by omega), g]
        simp [show q ≠ j by omega, show q ≠ j + 1 by omega]
    · exact ⟨rfl, fun p hp => ⟨p, hp, rfl⟩, fun q _ => rfl⟩
variable {R : α → α → Prop} (hR : ∀ x y, R x y → lt y x = lt2 y x)
include hR
theorem insInner_congr (j : Nat) : ∀ (d : Array α), j < d.size → (∀ p, p < j → R d[p]! d[j]!) → insInner lt 0 j d = insInner lt2 0 j d := by
  induction j with
  | zero => intro d _ _; rfl
  | succ j ih =>
    intro d hj h
    unfold insInner
    rw [hR _ _ (h j (by omega))]
    split
    · refine ih _ (by rw [swp_size]; omega) fun p hp => ?_
      have g := fun k => swp_get d hj (show j < d.size by omega) (k := k)
      rw [g, g]
      simp only [show p ≠ j by omega, show p ≠ j + 1 by omega, if_false, if_true]
      exact h p (by omega)
    · rfl
theorem insOuter_congr (b : Nat) : ∀ (n i : Nat) (d : Array α), b - i = n → b ≤ d.size → (∀ p q, p < q → i ≤ q → q < b → R d[p]! d[q]!) → insOuter lt 0 b i d = insOuter lt2 0 b i d := by
  intro n
  induction n with
  | zero => intro i d hn _ _; rw [insOuter, if_neg (show ¬ i < b by omega), insOuter, if_neg (show ¬ i < b by omega)]
  | succ n ih =>
    intro i d hn hb h
    rw [insOuter, if_pos (by omega)]
    conv => rhs; rw [insOuter, if_pos (show i < b by omega)]
    rw [← insInner_congr hR i d (by omega) fun p hp => h p i hp (Nat.le_refl _) (by omega)]
    obtain ⟨h1, h2, h3⟩ := insInner_at (lt := lt) i d (by omega)
    refine ih (i + 1) _ (by omega) (by rw [h1]; exact hb) fun p q hpq hiq hqb => ?_
    rw [h3 q (by omega)]
    by_cases hpi : p ≤ i
    · obtain ⟨p', hp', e⟩ := h2 p hpi
      rw [e]
      exact h p' q (by omega) (by omega) hqb
    · rw [h3 p (by omega)]
      exact h p q hpq (by omega) hqb
theorem insertionSort_congr (d : Array α) (h : ∀ p q, p < q → q < d.size → R d[p]! d[q]!) : insertionSort lt d 0 d.size = insertionSort lt2 d 0 d.size := by
  unfold insertionSort
  exact insOuter_congr hR d.size _ 1 d rfl (Nat.le_refl _) fun p q hpq _ hq => h p q hpq hq
end

theorem same_of {α : Type} {r : α → α → Prop} (ha : ∀ a b, r a b → r b a → False) : ∀ {S T : List α}, S.Pairwise r → T.Pairwise r → S.Perm T → S = T
  | [], T, _, _, h => h.nil_eq
  | a :: S, [], _, _, h => by have := h.length_eq; simp at this
  | a :: S, b :: T, h1, h2, h => by
    obtain ⟨p1, q1⟩ := List.pairwise_cons.1 h1
    obtain ⟨p2, q2⟩ := List.pairwise_cons.1 h2
    have e : a = b := by
      rcases List.mem_cons.1 (h.subset List.mem_cons_self) with e | e
      · exact e
      · rcases List.mem_cons.1 (h.symm.subset List.mem_cons_self) with e2 | e2
        · exact e2.symm
        · exact (ha a b (p1 b e2) (p2 a e)).elim
    subst e
    rw [same_of ha q1 q2 h.cons_inv]

def cmpPer (a b : PersonV) : Int := orF [cmpZ a.high b.high, cmpS a.name b.name]
def cmpHi (a b : PersonV) : Int := cmpZ a.high b.high
/-- Strictly ahead, by height and name. -/
def LtP (a b : PersonV) : Prop := a.high < b.high ∨ (a.high = b.high ∧ cmpS a.name b.name = -1)
theorem cmpS_anti {a b : ByteArray} (h : cmpS a b = 1) : cmpS b a = -1 := cb_anti h
theorem cmpS_flip {a b : ByteArray} (h : cmpS a b = -1) : cmpS b a = 1 := by
  rcases cmpS_three b a with e | e | e
  · have := cmpS_trans h e
    rw [cmpS_refl] at this
    cases this
  · rw [cmpS_zero e, cmpS_refl] at h
    cases h
  · exact e
theorem cmpZ_lt {x y : Int} : cmpZ x y < 0 ↔ x < y := by unfold cmpZ; split <;> (try split) <;> omega
theorem cmpZ_zero {x y : Int} : cmpZ x y = 0 ↔ x = y := by unfold cmpZ; split <;> (try split) <;> omega
theorem cmpS_neg {a b : ByteArray} : cmpS a b < 0 ↔ cmpS a b = -1 := by rcases cmpS_three a b with h | h | h <;> omega
theorem ltP_iff (a b : PersonV) : ltOf cmpPer a b = true ↔ LtP a b := by
  unfold ltOf cmpPer orF orF LtP orF
  rw [decide_eq_true_iff]
  by_cases h : cmpZ a.high b.high = 0
  · rw [if_pos h]
    have h' := cmpZ_zero.1 h
    by_cases h2 : cmpS a.name b.name = 0
    · rw [if_pos h2]
      constructor
      · intro h; omega
      · rintro (h | ⟨-, h⟩) <;> omega
    · rw [if_neg h2, cmpS_neg]
      exact ⟨fun h => .inr ⟨h', h⟩, fun h => by rcases h with h | ⟨-, h⟩; omega; exact h⟩
  · rw [if_neg h, cmpZ_lt]
    have h' : ¬ a.high = b.high := fun e => h (cmpZ_zero.2 e)
    exact ⟨fun h => .inl h, fun h => by rcases h with h | ⟨e, -⟩; exact h; exact absurd e h'⟩
theorem ltP_asym {a b : PersonV} (h : LtP a b) (k : LtP b a) : False := by
  unfold LtP at h k
  rcases h with h | ⟨h1, h2⟩ <;> rcases k with k | ⟨k1, k2⟩
  · omega
  · omega
  · omega
  · rw [cmpS_flip h2] at k2; cases k2
theorem ltP_trans {a b c : PersonV} (h : LtP a b) (k : LtP b c) : LtP a c := by
  unfold LtP at *
  rcases h with h | ⟨h1, h2⟩ <;> rcases k with k | ⟨k1, k2⟩
  · exact .inl (by omega)
  · exact .inl (by omega)
  · exact .inl (by omega)
  · exact .inr ⟨by omega, cmpS_trans h2 k2⟩
theorem ltP_not {a b : PersonV} (h : ¬ LtP a b) : b.high < a.high ∨ (a.high = b.high ∧ (cmpS a.name b.name = 0 ∨ cmpS b.name a.name = -1)) := by
  unfold LtP at h
  rcases Int.lt_trichotomy a.high b.high with e | e | e
  · exact absurd (.inl e) h
  · refine .inr ⟨e, ?_⟩
    rcases cmpS_three a.name b.name with h1 | h1 | h1
    · exact absurd (.inr ⟨e, h1⟩) h
    · exact .inl h1
    · exact .inr (cmpS_anti h1)
  · exact .inl e
theorem per_swo : SWO (ltOf cmpPer) where
  irrefl x := by
    rw [← Bool.not_eq_true, ltP_iff]
    exact fun h => ltP_asym h h
  trans x y z h1 h2 := by
    rw [ltP_iff] at *
    exact ltP_trans h1 h2
  ntrans x y z h1 h2 := by
    rw [← Bool.not_eq_true, ltP_iff] at *
    have k1 := ltP_not h1
    have k2 := ltP_not h2
    rintro (h | ⟨h, h'⟩)
    · rcases k1 with k1 | ⟨k1, -⟩ <;> rcases k2 with k2 | ⟨k2, -⟩ <;> omega
    · rcases k1 with k1 | ⟨e1, k1⟩ <;> rcases k2 with k2 | ⟨e2, k2⟩ <;> try omega
      rcases k1 with k1 | k1 <;> rcases k2 with k2 | k2
      · rw [cmpS_zero k1, cmpS_zero k2, cmpS_refl] at h'; cases h'
      · rw [cmpS_zero k1] at h'
        rw [cmpS_flip k2] at h'; cases h'
      · rw [← cmpS_zero k2] at h'
        rw [cmpS_flip k1] at h'; cases h'
      · rw [cmpS_flip (cmpS_trans k2 k1)] at h'; cases h'

/-- By height, from the shortest one on. -/
def ByH (P M : List PersonV) : Prop := M.Perm P ∧ M.Pairwise LtP
theorem byH_uniq {P M N : List PersonV} (h : ByH P M) (k : ByH P N) : M = N := same_of (fun _ _ => ltP_asym) h.2 k.2 (h.1.trans k.1.symm)
/-- A sort by height and name of people whose names differ. -/
theorem byH_of {P : List PersonV} (hok : PeopleOk P) {d : Array PersonV} (hp : PermIn 0 P.length P.toArray d) (hs : SortedIn (ltOf cmpPer) 0 P.length d) : ByH P d.toList := by
  have hsz : d.size = P.length := by have := hp.1; simpa using this
  have e1 : d.extract 0 P.toArray.size = d := by simp [← hsz]
  have hperm : d.toList.Perm P := by
    have h9 := hp.2.2
    have e2 : d.extract 0 P.length = d := by simp [← hsz]
    rw [e2] at h9
    simpa using h9
  refine ⟨hperm, ?_⟩
  have hdis : P.Pairwise fun a b => a.name ≠ b.name := by
    rw [List.pairwise_iff_getElem]
    intro i j hi hj hij e
    have := hok.less (List.getElem?_eq_getElem hi) (List.getElem?_eq_getElem hj) hij
    rw [e, cmpS_refl] at this
    cases this
  have hdd := (hperm.symm.pairwise_iff (fun {x y} h k => h k.symm)).1 hdis
  rw [List.pairwise_iff_getElem] at hdd ⊢
  intro i j hi hj hij
  have h1 := hdd i j hi hj hij
  have h9 := hs i j (Nat.zero_le _) hij (by simp at hj; omega)
  rw [← Bool.not_eq_true, ltP_iff] at h9
  simp at hi hj
  rw [getElem!_pos d j hj, getElem!_pos d i hi] at h9
  rcases ltP_not h9 with h | ⟨h, k | k⟩
  · exact .inl h
  · exact absurd (cmpS_zero k).symm h1
  · exact .inr ⟨h.symm, k⟩
/-- The stable sort by height alone. -/
theorem stable_of {P : List PersonV} (hok : PeopleOk P) : ByH P (insertionSort (ltOf cmpHi) P.toArray 0 P.length).toList := by
  have h := insertionSort_congr (lt := ltOf cmpHi) (lt2 := ltOf cmpPer) (R := fun x y => cmpS x.name y.name = -1) (fun x y h => by
    unfold ltOf cmpHi cmpPer orF orF orF
    rw [cmpS_flip h]
    by_cases e : cmpZ y.high x.high = 0
    · rw [if_pos e, e]; rfl
    · rw [if_neg e]) P.toArray (fun p q hpq hq => by
    simp at hq
    have e1 : P.toArray[p]! = P[p] := by simp [getElem!_pos, show p < P.length by omega]
    have e2 : P.toArray[q]! = P[q] := by simp [getElem!_pos, hq]
    rw [e1, e2]
    exact hok.less (List.getElem?_eq_getElem (by omega)) (List.getElem?_eq_getElem hq) hpq)
  have e : P.toArray.size = P.length := by simp
  rw [e] at h
  rw [h]
  have h2 := insertionSort_holds (lt := ltOf cmpPer) per_swo P.toArray 0 P.length (Nat.zero_le _) (by simp)
  exact byH_of hok h2.1 h2.2
end Go.Proofs.YtfcoeikekbjgpaaGreatDoor
