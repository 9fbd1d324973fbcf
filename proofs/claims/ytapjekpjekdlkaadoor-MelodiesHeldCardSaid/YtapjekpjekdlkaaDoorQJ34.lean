/- A row of elements of several cells, behind a sort; comparing in a region that draws. Conditions: as each theorem says. A whole slice is appended to a row of the call's own. Conditions: as each theorem says. -/
import Derived.Test.YtapjekpjekdlkaaDoorQSrtA
import Derived.Test.YtapjekpjekdlkaaDoorQFactsB
import Derived.Test.YtapjekpjekdlkaaDoorQJ6
import Derived.Sort.Grow
import Derived.Shelf.SlSortCmp.WholeK
import Derived.Test.YtapjekpjekdlkaaDoorQAppL
set_option linter.unusedSimpArgs false
set_option linter.unusedVariables false
namespace Go.Proofs.YtapjekpjekdlkaaDoor
open Go Go.RowKit Go.Sort

/-- Nothing but draws. -/
def Drw (w w' : World) : Prop := ∃ q, w' = w.drewN q
theorem Drw.refl (w : World) : Drw w w := ⟨0, rfl⟩
theorem Drw.trans {a b c : World} (h : Drw a b) (k : Drw b c) : Drw a c := by
  obtain ⟨q, rfl⟩ := h
  obtain ⟨r, rfl⟩ := k
  exact ⟨q + r, by simp [World.drewN, Nat.add_assoc]⟩
theorem flat_lenK {α : Type} {k : Nat} {enc : α → List Value} (hk : ∀ x, (enc x).length = k) : ∀ (xs : List α), (xs.flatMap enc).length = xs.length * k
  | [] => by simp
  | x :: l => by rw [List.flatMap_cons, List.length_append, flat_lenK hk l, hk, List.length_cons, Nat.add_mul]; omega
theorem flat_get {α : Type} [Inhabited α] {k : Nat} {enc : α → List Value} (hk : ∀ x, (enc x).length = k) (xs : List α) {t : Nat} (ht : t < xs.length * k) : (xs.flatMap enc)[t]? = some (flatK enc k xs.toArray)[t]! := by
  have hk0 : 0 < k := by rcases Nat.eq_zero_or_pos k with h | h; (subst h; simp at ht); exact h
  rw [get_flatK enc k xs.toArray t (by simpa using ht)]
  have hi : t / k < xs.length := (Nat.div_lt_iff_lt_mul hk0).2 ht
  have hj : t % k < k := Nat.mod_lt _ hk0
  have hx : xs[t / k]? = some xs[t / k] := List.getElem?_eq_getElem hi
  have hjl : t % k < (enc xs[t / k]).length := by rw [hk]; exact hj
  have hu : (enc xs[t / k])[t % k]? = some (enc xs[t / k])[t % k] := List.getElem?_eq_getElem hjl
  have h1 := flat_at hk xs (t / k) _ hx (t % k) _ hu
  rw [Nat.div_add_mod' t k] at h1
  rw [h1]
  congr 1
  have e1 : xs.toArray[t / k]! = xs[t / k] := by simp [getElem!_pos, hi]
  rw [e1, getElem!_pos (enc xs[t / k]) (t % k) hjl]
theorem holdsK_own {α : Type} [Inhabited α] {k : Nat} {enc : α → List Value} (hk : ∀ x, (enc x).length = k) {w : World} {base : Nat} {e : TypeId} {g n cap : Nat} {xs : List α} (h : w.ownsRow base e k (.slice (some ⟨g, 0, none⟩) n cap) n (xs.flatMap enc)) : HoldsK enc k w g 0 xs.toArray := by
  intro j hj
  have hj' : j < xs.length * k := by simpa using hj
  have hn : xs.length * k = n * k := by have := h.1; rw [flat_lenK hk] at this; exact this
  refine ⟨?_, h.frozenAt _⟩
  rw [Nat.zero_add]
  exact (h.cellAt j (by omega)).trans (flat_get hk xs hj')
theorem own_sortK {α : Type} [Inhabited α] {k : Nat} {enc : α → List Value} (hk : ∀ x, (enc x).length = k) {w : World} {base : Nat} {e : TypeId} {g n cap m : Nat} {os : Array Obj} {xs ys : List α} (h : w.ownsRow base e k (.slice (some ⟨g, 0, none⟩) n cap) n (xs.flatMap enc)) (hy : ys.length = xs.length) :
    (sortWorldK enc k w g 0 m ys.toArray os).ownsRow base e k (.slice (some ⟨g, 0, none⟩) n cap) n (ys.flatMap enc) := by
  have hl := h.1
  rw [flat_lenK hk] at hl
  refine ⟨by rw [flat_lenK hk, hy, hl], ?_⟩
  rcases h.2 with ⟨h1, -⟩ | ⟨g', cap', cur, h1, hb, hg, hnc, hcm, hcs, htk⟩
  · cases h1
  cases h1
  have hgl : g < w.heap.size := (Array.getElem?_eq_some_iff.1 hg).1
  refine .inr ⟨g, cap, putCells id 0 (flatK enc k ys.toArray) cur, rfl, hb, ?_, hnc, hcm, by simp [putCells, hcs], ?_⟩
  · have hs : (w.heap.modify g (onCells (putCells id 0 (flatK enc k ys.toArray)))).size = w.heap.size := by simp
    show (w.heap.modify g (onCells (putCells id 0 (flatK enc k ys.toArray))) ++ os)[g]? = _
    rw [Array.getElem?_append_left (by rw [hs]; exact hgl), Array.getElem?_modify, if_pos rfl, hg]
    rfl
  · have hle : n * k ≤ cur.size := by rw [hcs]; exact Nat.mul_le_mul_right _ hnc
    apply List.ext_getElem?
    intro t
    rw [List.getElem?_take]
    by_cases ht : t < n * k
    · rw [if_pos ht, flat_get hk ys (by rw [hy, hl]; exact ht)]
      have hz : (flatK enc k ys.toArray).size = n * k := by rw [size_flatK]; simp [hy, hl]
      have htc : t < cur.size := by omega
      rw [Array.getElem?_toList, putCells, Array.getElem?_mapIdx, Array.getElem?_eq_getElem htc]
      simp [hz, ht]
    · rw [if_neg ht, List.getElem?_eq_none (by rw [flat_lenK hk, hy, hl]; omega)]
theorem ext_sortK {α : Type} [Inhabited α] {k : Nat} {enc : α → List Value} {a w : World} (h : Ext a w) {g m : Nat} {os : Array Obj} {ys : Array α} (hg : a.heap.size ≤ g) : Ext a (sortWorldK enc k w g 0 m ys os) := by
  have hs : (w.heap.modify g (onCells (putCells id 0 (flatK enc k ys)))).size = w.heap.size := by simp
  refine ⟨h.os, h.tape, h.output, ?_, fun i hi => ?_⟩
  · show a.heap.size ≤ (w.heap.modify g (onCells (putCells id 0 (flatK enc k ys))) ++ os).size
    rw [Array.size_append, hs]
    have := h.size
    omega
  · have hiw : i < w.heap.size := Nat.lt_of_lt_of_le hi h.size
    show (w.heap.modify g (onCells (putCells id 0 (flatK enc k ys))) ++ os)[i]? = _
    rw [Array.getElem?_append_left (by rw [hs]; exact hiw), Array.getElem?_modify, if_neg (by omega)]
    exact h.block i hi
end Go.Proofs.YtapjekpjekdlkaaDoor

namespace Go.Proofs.YtapjekpjekdlkaaDoor
open Go Go.RowKit

/-- 'out = append(out, xs...)'. -/
theorem run_app_nil {P : Program} (w : World) (base : Nat) (t ty e : TypeId) (i : TypeInfo) (size : Nat) (ht : P.underlying t = some (.slice e)) (hi : P.info? e = some i)
    (v : Value) (n : Nat) (xs : List Value) (hown : w.ownsRow base e size v n xs) (c : Nat) : (Builtin.append_ #[t, t] ty #[v, .slice none 0 c]).run P w = .ok v w := by
  rcases hown.2 with ⟨rfl, rfl⟩ | ⟨g, cap, cur, rfl, _, _, hnc, _⟩
  · simp [Builtin.append_, run_underlying ht, sizeOf, typeInfo, hi, Builtin.lenOf, Builtin.firstCells]
  · simp [Builtin.append_, run_underlying ht, sizeOf, typeInfo, hi, Builtin.lenOf, Builtin.firstCells, hnc, storeCells]
theorem wp_appS {α : Type} {P : Program} (w : World) {ops : Array Oper} {rest : List Oper} {o : Oper} {a : Act} {Q : Exit → Act → World → Prop} (s x : Operand) (t e : TypeId) (k bytes : Nat) (z : Value) (hgd : o.guard = none)
    (ho : o.op = .call { callee := .builtin .append, args := #[s, x], argTypes := #[t, t] })
    (ht : P.underlying t = some (.slice e)) (hinfo : (P.info? e).map (fun i => (i.zero, i.size, i.bytes)) = some (some z, k, bytes)) (hzs : z.cells.size = k) (hsz : 0 < k) (hby : bytes ≤ 1000)
    (enc : α → List Value) (hk : ∀ x, (enc x).length = k) (h1 : ∀ x, ∀ u ∈ enc x, u.oneCell' = true)
    (base : Nat) (v : Value) (n : Nat) (xs : List Value) (hs : a.eval s = v) (hown : w.ownsRow base e k v n xs)
    (p : Option Addr) (m c : Nat) (ys : List α) (hx : a.eval x = .slice p m c) (hS : Slc k enc w p m c ys)
    (hn : n + m ≤ 1000000000) (hbase : base ≤ w.heap.size)
    (h : ∀ v' w', w'.ownsRow base e k v' (n + m) (xs ++ ys.flatMap enc) → w.grownBy w' v.ownBlock → wpList P ops Q rest (a.put o.dst v') w') : wpList P ops Q (o :: rest) a w := by
  obtain ⟨i0, hi, hz0, hz1, hz2⟩ := info_parts hinfo
  obtain ⟨hl, hcs⟩ := slcC hS
  have hl2 : m = ys.length := hl
  cases p with
  | none =>
    have hm : m = 0 := hS.2.2.1 rfl
    have hys : ys = [] := List.eq_nil_of_length_eq_zero (by omega)
    subst hys
    subst hm
    have hrun := run_app_nil (P := P) w base t o.type e i0 k ht hi v n xs hown c
    refine wpList_plain hgd fun K hK => ?_
    unfold Oper.wp
    simp [execOp, ho, resolve, invoke, builtin, hs, hx, hrun, Result.andThen]
    exact hK _ _ (h v w (by simpa using hown) (World.grownBy.refl w _))
  | some ad =>
    refine wpList_append_own w hgd s x t ho base e i0 z k bytes ht hi hz0 hz1 hz2 hzs hsz v n xs hs hown ad m c (ys.flatMap enc) hx (by rw [flat_lenK hk, hl2]) (fun j u hu => ?_) (fun u hu => ?_) ?_ ?_ hbase (fun v' w' h2 h3 h4 => h v' w' h2 h3)
    · have hj : j < ys.length * k := by rw [← flat_lenK hk]; exact (List.getElem?_eq_some_iff.1 hu).1
      have hn0 : m ≠ 0 := fun h0 => by rw [← hl2, h0] at hj; simp at hj
      obtain ⟨b, off, hpe, hb, hE⟩ := hS.1.2.2 hn0
      cases hpe
      have hq : j / k < ys.length := (Nat.div_lt_iff_lt_mul hsz).2 hj
      have hjm : j % k < k := Nat.mod_lt _ hsz
      have hyx : ys[j / k]? = some ys[j / k] := List.getElem?_eq_getElem hq
      have hux : (enc ys[j / k])[j % k]? = some ((enc ys[j / k])[j % k]'(by rw [hk]; exact hjm)) := List.getElem?_eq_getElem _
      have h2 := hE _ _ hyx _ _ hux
      have h3 := flat_at hk ys (j / k) _ hyx (j % k) _ hux
      rw [Nat.div_add_mod' j k] at h3
      rw [h3] at hu
      cases hu
      have h4 : (⟨b, off, none⟩ : Addr).add j = ⟨b, off + j, none⟩ := by unfold Addr.add; split <;> simp_all
      rw [h4, show off + j = off + j / k * k + j % k by rw [Nat.add_assoc, Nat.div_add_mod']]
      exact h2
    · obtain ⟨y, -, hy⟩ := List.mem_flatMap.1 hu
      exact h1 y u hy
    · unfold maxLen; omega
    · have : (n + m) * bytes ≤ 1000000000 * 1000 := Nat.mul_le_mul hn hby
      omega
end Go.Proofs.YtapjekpjekdlkaaDoor
