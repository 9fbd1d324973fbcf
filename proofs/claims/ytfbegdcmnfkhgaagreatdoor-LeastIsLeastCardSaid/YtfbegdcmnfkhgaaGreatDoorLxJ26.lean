/- People by their height: plain mathematics (the stable sort by height alone is the sort by height and name). Conditions: as each theorem says. Appending a slice to a row of the call's own; cutting slices. Conditions: as each theorem says. -/
import Derived.Test.YtfbegdcmnfkhgaaGreatDoorLxStF
import Derived.Test.YtfbegdcmnfkhgaaGreatDoorLxJ25
import Derived.Sort.LotA
import Derived.Test.YtfbegdcmnfkhgaaGreatDoorLxStC
set_option linter.unusedSimpArgs false
set_option linter.unusedVariables false
namespace Go.Proofs.YtfbegdcmnfkhgaaGreatDoor
open Go Go.RowKit Go.Sort

section
variable {α : Type} [Inhabited α] {lt lt2 : α → α → Bool}
variable {R : α → α → Prop} (hR : ∀ x y, R x y → lt y x = lt2 y x)
include hR
end

def cmpPer (a b : PersonV) : Int := orF [cmpZ a.high b.high, cmpS a.name b.name]
/-- Strictly ahead, by height and name. -/
def LtP (a b : PersonV) : Prop := a.high < b.high ∨ (a.high = b.high ∧ cmpS a.name b.name = -1)
theorem cmpS_anti {a b : ByteArray} (h : cmpS a b = 1) : cmpS b a = -1 := cb_anti h
theorem cmpS_flip {a b : ByteArray} (h : cmpS a b = -1) : cmpS b a = 1 := by
  rcases cmpS_three b a with e | e | e
  · have := cmpS_trans h e
    rw [cmpS_refl] at this
    cases this
  · rw [cmpS_zero e, cmpS_refl] at h
    cases h
  · exact e
theorem cmpZ_lt {x y : Int} : cmpZ x y < 0 ↔ x < y := by unfold cmpZ; split <;> (try split) <;> omega
theorem cmpZ_zero {x y : Int} : cmpZ x y = 0 ↔ x = y := by unfold cmpZ; split <;> (try split) <;> omega
theorem cmpS_neg {a b : ByteArray} : cmpS a b < 0 ↔ cmpS a b = -1 := by rcases cmpS_three a b with h | h | h <;> omega
theorem ltP_iff (a b : PersonV) : ltOf cmpPer a b = true ↔ LtP a b := by
  unfold ltOf cmpPer orF orF LtP orF
  rw [decide_eq_true_iff]
  by_cases h : cmpZ a.high b.high = 0
  · rw [if_pos h]
    have h' := cmpZ_zero.1 h
    by_cases h2 : cmpS a.name b.name = 0
    · rw [if_pos h2]
      constructor
      · intro h; omega
      · rintro (h | ⟨-, h⟩) <;> omega
    · rw [if_neg h2, cmpS_neg]
      exact ⟨fun h => .inr ⟨h', h⟩, fun h => by rcases h with h | ⟨-, h⟩; omega; exact h⟩
  · rw [if_neg h, cmpZ_lt]
    have h' : ¬ a.high = b.high := fun e => h (cmpZ_zero.2 e)
    exact ⟨fun h => .inl h, fun h => by rcases h with h | ⟨e, -⟩; exact h; exact absurd e h'⟩
theorem ltP_asym {a b : PersonV} (h : LtP a b) (k : LtP b a) : False := by
  unfold LtP at h k
  rcases h with h | ⟨h1, h2⟩ <;> rcases k with k | ⟨k1, k2⟩
  · omega
  · omega
  · omega
  · rw [cmpS_flip h2] at k2; cases k2
theorem ltP_trans {a b c : PersonV} (h : LtP a b) (k : LtP b c) : LtP a c := by
  unfold LtP at *
  rcases h with h | ⟨h1, h2⟩ <;> rcases k with k | ⟨k1, k2⟩
  · exact .inl (by omega)
  · exact .inl (by omega)
  · exact .inl (by omega)
  · exact .inr ⟨by omega, cmpS_trans h2 k2⟩
theorem ltP_not {a b : PersonV} (h : ¬ LtP a b) : b.high < a.high ∨ (a.high = b.high ∧ (cmpS a.name b.name = 0 ∨ cmpS b.name a.name = -1)) := by
  unfold LtP at h
  rcases Int.lt_trichotomy a.high b.high with e | e | e
  · exact absurd (.inl e) h
  · refine .inr ⟨e, ?_⟩
    rcases cmpS_three a.name b.name with h1 | h1 | h1
    · exact absurd (.inr ⟨e, h1⟩) h
    · exact .inl h1
    · exact .inr (cmpS_anti h1)
  · exact .inl e
theorem per_swo : SWO (ltOf cmpPer) where
  irrefl x := by
    rw [← Bool.not_eq_true, ltP_iff]
    exact fun h => ltP_asym h h
  trans x y z h1 h2 := by
    rw [ltP_iff] at *
    exact ltP_trans h1 h2
  ntrans x y z h1 h2 := by
    rw [← Bool.not_eq_true, ltP_iff] at *
    have k1 := ltP_not h1
    have k2 := ltP_not h2
    rintro (h | ⟨h, h'⟩)
    · rcases k1 with k1 | ⟨k1, -⟩ <;> rcases k2 with k2 | ⟨k2, -⟩ <;> omega
    · rcases k1 with k1 | ⟨e1, k1⟩ <;> rcases k2 with k2 | ⟨e2, k2⟩ <;> try omega
      rcases k1 with k1 | k1 <;> rcases k2 with k2 | k2
      · rw [cmpS_zero k1, cmpS_zero k2, cmpS_refl] at h'; cases h'
      · rw [cmpS_zero k1] at h'
        rw [cmpS_flip k2] at h'; cases h'
      · rw [← cmpS_zero k2] at h'
        rw [cmpS_flip k1] at h'; cases h'
      · rw [cmpS_flip (cmpS_trans k2 k1)] at h'; cases h'

/-- By height, from the shortest one on. -/
def ByH (P M : List PersonV) : Prop := M.Perm P ∧ M.Pairwise LtP
/-- A sort by height and name of people whose names differ. -/
theorem byH_of {P : List PersonV} (hok : PeopleOk P) {d : Array PersonV} (hp : PermIn 0 P.length P.toArray d) (hs : SortedIn (ltOf cmpPer) 0 P.length d) : ByH P d.toList := by
  have hsz : d.size = P.length := by have := hp.1; simpa using this
  have e1 : d.extract 0 P.toArray.size = d := by simp [← hsz]
  have hperm : d.toList.Perm P := by
    have h9 := hp.2.2
    have e2 : d.extract 0 P.length = d := by simp [← hsz]
    rw [e2] at h9
    simpa using h9
  refine ⟨hperm, ?_⟩
  have hdis : P.Pairwise fun a b => a.name ≠ b.name := by
    rw [List.pairwise_iff_getElem]
    intro i j hi hj hij e
    have := hok.less (List.getElem?_eq_getElem hi) (List.getElem?_eq_getElem hj) hij
    rw [e, cmpS_refl] at this
    cases this
  have hdd := (hperm.symm.pairwise_iff (fun {x y} h k => h k.symm)).1 hdis
  rw [List.pairwise_iff_getElem] at hdd ⊢
  intro i j hi hj hij
  have h1 := hdd i j hi hj hij
  have h9 := hs i j (Nat.zero_le _) hij (by simp at hj; omega)
  rw [← Bool.not_eq_true, ltP_iff] at h9
  simp at hi hj
  rw [getElem!_pos d j hj, getElem!_pos d i hi] at h9
  rcases ltP_not h9 with h | ⟨h, k | k⟩
  · exact .inl h
  · exact absurd (cmpS_zero k).symm h1
  · exact .inr ⟨h.symm, k⟩
end Go.Proofs.YtfbegdcmnfkhgaaGreatDoor

namespace Go.Proofs.YtfbegdcmnfkhgaaGreatDoor
open Go Go.RowKit

/-- 'out = append(out, xs...)'. -/
theorem run_app_nil {P : Program} (w : World) (base : Nat) (t ty e : TypeId) (i : TypeInfo) (size : Nat) (ht : P.underlying t = some (.slice e)) (hi : P.info? e = some i)
    (v : Value) (n : Nat) (xs : List Value) (hown : w.ownsRow base e size v n xs) (c : Nat) : (Builtin.append_ #[t, t] ty #[v, .slice none 0 c]).run P w = .ok v w := by
  rcases hown.2 with ⟨rfl, rfl⟩ | ⟨g, cap, cur, rfl, _, _, hnc, _⟩
  · simp [Builtin.append_, run_underlying ht, sizeOf, typeInfo, hi, Builtin.lenOf, Builtin.firstCells]
  · simp [Builtin.append_, run_underlying ht, sizeOf, typeInfo, hi, Builtin.lenOf, Builtin.firstCells, hnc, storeCells]
theorem wp_appS {α : Type} {P : Program} (w : World) {ops : Array Oper} {rest : List Oper} {o : Oper} {a : Act} {Q : Exit → Act → World → Prop} (s x : Operand) (t e : TypeId) (k bytes : Nat) (z : Value) (hgd : o.guard = none)
    (ho : o.op = .call { callee := .builtin .append, args := #[s, x], argTypes := #[t, t] })
    (ht : P.underlying t = some (.slice e)) (hinfo : (P.info? e).map (fun i => (i.zero, i.size, i.bytes)) = some (some z, k, bytes)) (hzs : z.cells.size = k) (hsz : 0 < k) (hby : bytes ≤ 1000)
    (enc : α → List Value) (hk : ∀ x, (enc x).length = k) (h1 : ∀ x, ∀ u ∈ enc x, u.oneCell' = true)
    (base : Nat) (v : Value) (n : Nat) (xs : List Value) (hs : a.eval s = v) (hown : w.ownsRow base e k v n xs)
    (p : Option Addr) (m c : Nat) (ys : List α) (hx : a.eval x = .slice p m c) (hS : Slc k enc w p m c ys)
    (hn : n + m ≤ 1000000000) (hbase : base ≤ w.heap.size)
    (h : ∀ v' w', w'.ownsRow base e k v' (n + m) (xs ++ ys.flatMap enc) → w.grownBy w' v.ownBlock → wpList P ops Q rest (a.put o.dst v') w') : wpList P ops Q (o :: rest) a w := by
  obtain ⟨i0, hi, hz0, hz1, hz2⟩ := info_parts hinfo
  obtain ⟨hl, hcs⟩ := slcC hS
  have hl2 : m = ys.length := hl
  cases p with
  | none =>
    have hm : m = 0 := hS.2.2.1 rfl
    have hys : ys = [] := List.eq_nil_of_length_eq_zero (by omega)
    subst hys
    subst hm
    have hrun := run_app_nil (P := P) w base t o.type e i0 k ht hi v n xs hown c
    refine wpList_plain hgd fun K hK => ?_
    unfold Oper.wp
    simp [execOp, ho, resolve, invoke, builtin, hs, hx, hrun, Result.andThen]
    exact hK _ _ (h v w (by simpa using hown) (World.grownBy.refl w _))
  | some ad =>
    refine wpList_append_own w hgd s x t ho base e i0 z k bytes ht hi hz0 hz1 hz2 hzs hsz v n xs hs hown ad m c (ys.flatMap enc) hx (by rw [flat_lenK hk, hl2]) (fun j u hu => ?_) (fun u hu => ?_) ?_ ?_ hbase (fun v' w' h2 h3 h4 => h v' w' h2 h3)
    · have hj : j < ys.length * k := by rw [← flat_lenK hk]; exact (List.getElem?_eq_some_iff.1 hu).1
      have hn0 : m ≠ 0 := fun h0 => by rw [← hl2, h0] at hj; simp at hj
      obtain ⟨b, off, hpe, hb, hE⟩ := hS.1.2.2 hn0
      cases hpe
      have hq : j / k < ys.length := (Nat.div_lt_iff_lt_mul hsz).2 hj
      have hjm : j % k < k := Nat.mod_lt _ hsz
      have hyx : ys[j / k]? = some ys[j / k] := List.getElem?_eq_getElem hq
      have hux : (enc ys[j / k])[j % k]? = some ((enc ys[j / k])[j % k]'(by rw [hk]; exact hjm)) := List.getElem?_eq_getElem _
      have h2 := hE _ _ hyx _ _ hux
      have h3 := flat_at hk ys (j / k) _ hyx (j % k) _ hux
      rw [Nat.div_add_mod' j k] at h3
      rw [h3] at hu
      cases hu
      have h4 : (⟨b, off, none⟩ : Addr).add j = ⟨b, off + j, none⟩ := by unfold Addr.add; split <;> simp_all
      rw [h4, show off + j = off + j / k * k + j % k by rw [Nat.add_assoc, Nat.div_add_mod']]
      exact h2
    · obtain ⟨y, -, hy⟩ := List.mem_flatMap.1 hu
      exact h1 y u hy
    · unfold maxLen; omega
    · have : (n + m) * bytes ≤ 1000000000 * 1000 := Nat.mul_le_mul hn hby
      omega

theorem Slc.takeZ {α : Type} {k : Nat} {enc : α → List Value} {w : World} {p : Option Addr} {n c : Nat} {xs : List α} (h : Slc k enc w p n c xs) {m : Nat} (hm : m ≤ n) : Slc k enc w p m c (xs.take m) := by
  obtain ⟨hS, hnc, hp0, hp⟩ := h
  refine ⟨⟨by rw [List.length_take, hS.1]; omega, by have := hS.2.1; omega, fun h0 => ?_⟩, by omega, fun e => by have := hp0 e; omega, hp⟩
  obtain ⟨b, off, e, hb, hE⟩ := hS.2.2 (by omega)
  refine ⟨b, off, e, hb, fun i x hx j u hu => hE i x ?_ j u hu⟩
  rw [List.getElem?_take] at hx
  split at hx
  · exact hx
  · cases hx
theorem Slc.dropS {α : Type} {k : Nat} {enc : α → List Value} {w : World} {b off n c : Nat} {xs : List α} (h : Slc k enc w (some ⟨b, off, none⟩) n c xs) {m : Nat} (hm : m ≤ n) : Slc k enc w (some ⟨b, off + m * k, none⟩) (n - m) (c - m) (xs.drop m) := by
  obtain ⟨hS, hnc, hp0, hp⟩ := h
  obtain ⟨b', off', e0, hb0⟩ := hp _ rfl
  cases e0
  refine ⟨⟨by rw [List.length_drop, hS.1], by have := hS.2.1; omega, fun h0 => ?_⟩, by omega, fun e => (by cases e), fun a ha => ⟨_, _, (Option.some.inj ha).symm, hb0⟩⟩
  obtain ⟨b2, off2, e, hb, hE⟩ := hS.2.2 (by omega)
  cases e
  refine ⟨b, _, rfl, hb, fun i x hx j u hu => ?_⟩
  rw [List.getElem?_drop] at hx
  have := hE _ x hx j u hu
  rw [Nat.add_mul] at this
  rw [show off + m * k + i * k + j = off + (m * k + i * k) + j by omega]
  exact this
theorem Slc.empty {α : Type} {k : Nat} {enc : α → List Value} {w : World} {p : Option Addr} {n c d : Nat} {xs : List α} (h : Slc k enc w p n c xs) : Slc k enc w p 0 d [] :=
  ⟨⟨rfl, Nat.zero_le _, fun h0 => absurd rfl h0⟩, Nat.zero_le _, fun _ => rfl, h.2.2.2⟩

end Go.Proofs.YtfbegdcmnfkhgaaGreatDoor
