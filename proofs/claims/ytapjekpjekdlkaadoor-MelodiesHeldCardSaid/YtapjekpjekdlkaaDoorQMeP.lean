/- A row of steps of the call's own; rows of intervals cloned. Conditions: as each theorem says. -/
import Derived.Test.YtapjekpjekdlkaaDoorQJ13
import Derived.Test.YtapjekpjekdlkaaDoorQMeN
import Derived.Test.YtapjekpjekdlkaaDoorQShelf
import Derived.Test.YtapjekpjekdlkaaDoorQFactsB
set_option linter.unusedSimpArgs false
set_option linter.unusedVariables false
namespace Go.Proofs.YtapjekpjekdlkaaDoor
open Go Go.RowKit

theorem iv_flat_len : ∀ (xs : List I4), (xs.flatMap i4C).length = xs.length * 4
  | [] => rfl
  | x :: l => by rw [List.flatMap_cons, List.length_append, iv_flat_len l, i4C_len, List.length_cons]; omega
theorem cloneIv_any (p : Option Addr) (n c : Nat) (xs : List I4) (w : World) (h : Slc 4 i4C w p n c xs) (hn : n ≤ 1000) :
    Calls Tryd.prog 21 #[.slice p n c] w fun e w' => ∃ v, e = .returned v ∧ w'.ownsRow w.heap.size 30 4 v n (xs.flatMap i4C) ∧ Ext w w' := by
  obtain ⟨hS, hnc, hp0, hp⟩ := h
  cases p with
  | none =>
    obtain rfl := hp0 rfl
    have hx : xs = [] := List.eq_nil_of_length_eq_zero hS.1
    subst hx
    exact (AnyE.slices_Clone_nil Tryd.lecIv 0 c w).mono fun e w' ⟨he, hw⟩ => by
      subst hw
      exact ⟨_, he, World.ownsRow_nil _ _ _ _, Ext.refl _⟩
  | some a =>
    obtain ⟨b, off, rfl, hb⟩ := hp a rfl
    obtain ⟨i0, hi, hz0, hz1, hz2⟩ := info_parts (P := Tryd.prog) (e := 30) (z := .agg #[.int .i64 0, .int .i64 0, .int .i64 0, .int .i64 0]) (size := 4) (bytes := 32) (by kernel_rfl)
    refine (AnyE.slices_Clone Tryd.lecIv i0 _ 4 32 hi hz0 hz1 hz2 rfl (by decide) Tryd.sizeOf30 b off n c (xs.flatMap i4C) w (by rw [iv_flat_len, hS.1]) (by unfold maxLen; omega) (by omega) (fun j u hj => ?_) (fun u hu => ?_)).mono fun e w' ⟨v', he, ho, _, hb'⟩ => ⟨v', he, ho, hb'⟩
    · have hj' : j < xs.length * 4 := by rw [← iv_flat_len]; exact (List.getElem?_eq_some_iff.1 hj).1
      have hn0 : n ≠ 0 := by have := hS.1; omega
      obtain ⟨b', off', hpe, hb', hE⟩ := hS.2.2 hn0
      cases hpe
      obtain ⟨x, hx⟩ : ∃ x, xs[j / 4]? = some x := ⟨_, List.getElem?_eq_getElem (by omega)⟩
      have hjm : j % 4 < 4 := Nat.mod_lt _ (by omega)
      obtain ⟨u', hu'⟩ : ∃ u', (i4C x)[j % 4]? = some u' := ⟨_, List.getElem?_eq_getElem (by rw [i4C_len]; exact hjm)⟩
      have h1 := flat_at i4C_len xs (j / 4) x hx (j % 4) u' hu'
      have e5 : j / 4 * 4 + j % 4 = j := by omega
      rw [e5, hj] at h1
      cases h1
      have h2 := hE (j / 4) x hx (j % 4) u hu'
      rw [Nat.add_assoc, e5] at h2
      exact h2
    · obtain ⟨x, _, hu⟩ := List.mem_flatMap.1 hu
      exact i4C_one x u hu
/-- A block that holds a row whole is a slice. -/
theorem slc_blk {α : Type} {k : Nat} {enc : α → List Value} (hk : ∀ x, (enc x).length = k) {w : World} {g : Nat} {t : TypeId} {xs : List α} (h : Blk w g t (xs.flatMap enc).toArray) (hn : xs.length ≤ 1000000) : Slc k enc w (some ⟨g, 0, none⟩) xs.length xs.length xs :=
  ⟨⟨rfl, by omega, fun _ => ⟨g, 0, rfl, h.lt, fun i x hx j v hv => by
    rw [Nat.zero_add, h.cell]
    rw [List.getElem?_toArray]
    exact flat_at hk xs i x hx j v hv⟩⟩, Nat.le_refl _, (fun e => by cases e), fun a ha => by cases ha; exact ⟨g, 0, rfl, h.lt⟩⟩
theorem Slc.setC {α : Type} {k : Nat} {enc : α → List Value} {w : World} {p : Option Addr} {n c : Nat} {xs : List α} (h : Slc k enc w p n c xs) {q : Addr} (hp : ∀ a, p = some a → a.block ≠ q.block) (u : Value) : Slc k enc (w.setCell q u) p n c xs := by
  obtain ⟨⟨h1, h2, h3⟩, h4, h5, h6⟩ := h
  refine ⟨⟨h1, h2, fun hn => ?_⟩, h4, h5, fun a ha => ?_⟩
  · obtain ⟨b, off, e, hb, hE⟩ := h3 hn
    refine ⟨b, off, e, by simpa using hb, fun i x hx j v hv => ?_⟩
    exact (World.cell?_of_block (w := w) (a := ⟨b, off + i * k + j, none⟩) (Below.heap_setCell w q u b (hp _ e))).trans (hE i x hx j v hv)
  · obtain ⟨b, off, e, hb⟩ := h6 a ha
    exact ⟨b, off, e, by simpa using hb⟩
/-- Steps whose memory is all new. -/
def StpF (B : Nat) (w : World) (p : Option Addr) (n c : Nat) (X : List StepV) : Prop :=
  ∃ R, StpW w p n c R X ∧ (∀ a, p = some a → B ≤ a.block) ∧ ∀ (i : Nat) (r : StpR), R[i]? = some r → ∀ a, r.p = some a → B ≤ a.block
theorem StpF.m {B : Nat} {w : World} {p : Option Addr} {n c : Nat} {X : List StepV} (h : StpF B w p n c X) : StpM w p n c X := let ⟨R, h1, _⟩ := h; ⟨R, h1⟩
theorem StpF.extS {B s : Nat} {w w' : World} {p : Option Addr} {n c : Nat} {X : List StepV} (h : StpF B w p n c X) (hs : s < B) (he : ExtS s w w') : StpF B w' p n c X := by
  obtain ⟨R, ⟨h1, h2, h3⟩, h4, h5⟩ := h
  refine ⟨R, ⟨h1, h2.extS he fun a ha => by have := h4 a ha; omega, fun i x hx => ?_⟩, h4, h5⟩
  obtain ⟨r, a1, a2, a3, a4⟩ := h3 i x hx
  exact ⟨r, a1, a2, a3, a4.extS he fun a ha => by have := h5 i r a1 a ha; omega⟩
theorem StpF.ext {B : Nat} {w w' : World} {p : Option Addr} {n c : Nat} {X : List StepV} (h : StpF B w p n c X) (he : Ext w w') : StpF B w' p n c X := by
  obtain ⟨R, ⟨h1, h2, h3⟩, h4, h5⟩ := h
  exact ⟨R, ⟨h1, h2.ext he, fun i x hx => let ⟨r, a1, a2, a3, a4⟩ := h3 i x hx; ⟨r, a1, a2, a3, a4.ext he⟩⟩, h4, h5⟩
/-- A row of steps while it is made. -/
structure SL (w : World) (B g : Nat) (R : List StpR) (X : List StepV) : Prop where
  blk : Blk w g 52 (R.flatMap stpC).toArray
  len : R.length = X.length
  le : X.length ≤ 1000
  low : B ≤ g
  ch : ∀ (i : Nat) (x : StepV), X[i]? = some x → ∃ r, R[i]? = some r ∧ r.size = x.size ∧ r.n = x.cs.length ∧ Slc 4 i4C w r.p r.n r.c x.cs ∧ ∀ a, r.p = some a → B ≤ a.block ∧ a.block ≠ g
theorem SL.ext {w w' : World} {B g : Nat} {R : List StpR} {X : List StepV} (h : SL w B g R X) (he : Ext w w') : SL w' B g R X :=
  ⟨h.blk.ext he, h.len, h.le, h.low, fun i x hx => let ⟨r, a1, a2, a3, a4, a5⟩ := h.ch i x hx; ⟨r, a1, a2, a3, a4.ext he, a5⟩⟩
theorem SL.extS {w w' : World} {B g s : Nat} {R : List StpR} {X : List StepV} (h : SL w B g R X) (hs : s < B) (he : ExtS s w w') : SL w' B g R X :=
  ⟨h.blk.extS (by have := h.low; omega) he, h.len, h.le, h.low, fun i x hx => let ⟨r, a1, a2, a3, a4, a5⟩ := h.ch i x hx; ⟨r, a1, a2, a3, a4.extS he fun a ha => by have := (a5 a ha).1; omega, a5⟩⟩
theorem SL.m {w : World} {B g : Nat} {R : List StpR} {X : List StepV} (h : SL w B g R X) : StpF B w (some ⟨g, 0, none⟩) X.length X.length X := by
  have hS := slc_blk stpC_len h.blk (by rw [h.len]; have := h.le; omega)
  rw [h.len] at hS
  refine ⟨R, ⟨h.len, hS, fun i x hx => let ⟨r, a1, a2, a3, a4, a5⟩ := h.ch i x hx; ⟨r, a1, a2, a3, a4⟩⟩, fun a ha => by cases ha; exact h.low, fun i r hr a ha => ?_⟩
  obtain ⟨x, hx⟩ := getD_some h.len.symm (List.getElem?_eq_some_iff.1 hr).1
  obtain ⟨r', a1, _, _, _, a5⟩ := h.ch i x hx
  rw [hr] at a1; cases a1
  exact (a5 a ha).1
theorem SL.set {w : World} {B g k j : Nat} {R : List StpR} {X : List StepV} (h : SL w B g R X) {r r1 : StpR} {x1 : StepV} {v : Value} (hr : R[k]? = some r) (hj : j < 2) (he : stpC r1 = (stpC r).set j v) (h1 : r1.size = x1.size) (h2 : r1.n = x1.cs.length) (h3 : Slc 4 i4C w r1.p r1.n r1.c x1.cs) (h4 : ∀ a, r1.p = some a → B ≤ a.block ∧ a.block ≠ g) :
    SL (w.setCell ⟨g, k * 2 + j, none⟩ v) B g (R.set k r1) (X.set k x1) := by
  have hkl := (List.getElem?_eq_some_iff.1 hr).1
  refine ⟨(h.blk.set_ (k * 2 + j) v).cast ?_, by rw [List.length_set, List.length_set]; exact h.len, by rw [List.length_set]; exact h.le, h.low, fun i x hx => ?_⟩
  · rw [← flat_set1 stpC_len hr j hj v he]
    apply Array.ext'
    simp
  · rw [List.getElem?_set] at hx
    by_cases e : k = i
    · subst e
      rw [if_pos rfl, if_pos (by rw [← h.len]; exact hkl)] at hx
      cases hx
      exact ⟨r1, by rw [List.getElem?_set_self hkl], h1, h2, h3.setC (fun a ha => (h4 a ha).2) _, h4⟩
    · rw [if_neg e] at hx
      obtain ⟨r', a1, a2, a3, a4, a5⟩ := h.ch i x hx
      exact ⟨r', by rw [List.getElem?_set, if_neg e]; exact a1, a2, a3, a4.setC (fun a ha => (a5 a ha).2) _, a5⟩
theorem blk_ne {w : World} {g g' t t' : Nat} {cs cs' : Array Value} (h : Blk w g t cs) (h' : Blk w g' t' cs') (ht : t ≠ t') : g ≠ g' := by
  intro e
  subst e
  unfold Blk at h h'
  rw [h] at h'
  simp at h'
  exact ht h'.2
/-- One step changed. -/
def stOne (L : Src) (a : Nat) (x : StepV) : StepV × Nat :=
  if flF L (ivF L (a + 1)).2 3 then (⟨pkF L a [x.size, x.size + 1, 25], []⟩, (ivF L (a + 1)).2 + 1) else (⟨pkF L a [x.size, x.size + 1, 25], x.cs ++ [(ivF L (a + 1)).1, ⟨-3, 2, 0, 0⟩]⟩, (ivF L (a + 1)).2 + 1)
theorem stOne_le (L : Src) (a : Nat) (x : StepV) : (stOne L a x).2 ≤ a + 17 := by
  have := (ivF_le L (a + 1)).2
  unfold stOne; split <;> simp only <;> omega
end Go.Proofs.YtapjekpjekdlkaaDoor
