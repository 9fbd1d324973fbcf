/- People by sections: plain mathematics, and rows of people in rows of their own. Conditions: as each theorem says. What is wrong with an order of sections, by both texts: the walks. Conditions: names lie in memory. -/
import Derived.Test.YtfcoeikekbjgpaaGreatDoorSxJ42
import Derived.Test.YtfcoeikekbjgpaaGreatDoorSxJ39
import Derived.Test.YtfcoeikekbjgpaaGreatDoorSxBeE
import Derived.Test.YtfcoeikekbjgpaaGreatDoorSxJ36
import Derived.Test.YtfcoeikekbjgpaaGreatDoorSxJ5
set_option linter.unusedSimpArgs false
set_option linter.unusedVariables false
namespace Go.Proofs.YtfcoeikekbjgpaaGreatDoor
open Go Go.RowKit

def lensL (G : List (List PersonV)) : List Int := G.map fun g => (g.length : Int)
theorem lensL_len (G : List (List PersonV)) : (lensL G).length = G.length := by simp [lensL]
theorem lensL_nonneg (G : List (List PersonV)) : ∀ a ∈ lensL G, 0 ≤ a := by
  intro a ha
  obtain ⟨g, _, rfl⟩ := List.mem_map.1 ha
  omega
def nextG (G : List (List PersonV)) (T : List Int) : List (List PersonV) := (List.range G.length).map fun i => (G.getD i []).drop (T.getD i 0).toNat
theorem nextG_len (G : List (List PersonV)) (T : List Int) : (nextG G T).length = G.length := by simp [nextG]
/-- The shares of row r, and who is left ahead of it. -/
def secG (wide : List Int) (n : Nat) (A : List Int) (G0 : List (List PersonV)) : Nat → List (List PersonV)
  | 0 => G0
  | r + 1 => nextG (secG wide n A G0 r) (if takeN wide n r = 0 then [] else shrL (takeN wide n r) A (lensL (secG wide n A G0 r)))
section
variable (wide : List Int) (n : Nat) (A : List Int) (G0 : List (List PersonV))
def secT (r : Nat) : List Int := if takeN wide n r = 0 then [] else shrL (takeN wide n r) A (lensL (secG wide n A G0 r))
theorem secG_succ (r : Nat) : secG wide n A G0 (r + 1) = nextG (secG wide n A G0 r) (secT wide n A G0 r) := rfl
theorem secG_len : ∀ r, (secG wide n A G0 r).length = G0.length
  | 0 => rfl
  | r + 1 => by rw [secG_succ, nextG_len, secG_len r]
variable {wide n A G0}
/-- What is needed of the sizes. -/
structure SecOk (A : List Int) (G0 : List (List PersonV)) : Prop where
  a0 : ∀ a ∈ A, 0 ≤ a
  s0 : 0 < A.sum
  len : G0.length = A.length
theorem SecOk.sh (h : SecOk A G0) (r : Nat) : ShOk (takeN wide n r) A (lensL (secG wide n A G0 r)) :=
  ⟨by omega, h.a0, h.s0, lensL_nonneg _, by rw [lensL_len, secG_len, h.len]⟩
end

/-- A row of lists of people in memory, each list in a row of its own. -/
structure OutQ (w0 w : World) (og bs : Nat) (rows : List (List PersonV)) (vs : List Value) : Prop where
  ext : Ext w0 w
  low : w0.heap.size ≤ og ∧ og < bs
  len : vs.length = rows.length
  blk : Blk w og 26 vs.toArray
  own : ∀ (b : Nat) (v : Value) (r : List PersonV), vs[b]? = some v → rows[b]? = some r → w.ownsRow bs 59 3 v r.length (r.flatMap perC)
  far : ∀ (b c : Nat) (u v : Value), b ≠ c → vs[b]? = some u → vs[c]? = some v → ∀ j, u.ownBlock = some j → v.ownBlock ≠ some j
section
variable {w0 w : World} {og bs : Nat} {rows : List (List PersonV)} {vs : List Value}
theorem OutQ.more (h : OutQ w0 w og bs rows vs) {w' : World} (he : Ext w w') : OutQ w0 w' og bs rows vs :=
  ⟨h.ext.trans he, h.low, h.len, h.blk.ext he, fun b v r hv hr => own_ext he (h.own b v r hv hr), h.far⟩
theorem OutQ.at_ (h : OutQ w0 w og bs rows vs) {b : Nat} {r : List PersonV} (hr : rows[b]? = some r) : ∃ p c, vs[b]? = some (.slice p r.length c) ∧ w.cell? ⟨og, b, none⟩ = some (.slice p r.length c) ∧ w.ownsRow bs 59 3 (.slice p r.length c) r.length (r.flatMap perC) := by
  have hb := (List.getElem?_eq_some_iff.1 hr).1
  have hbv : b < vs.length := by rw [h.len]; exact hb
  have hv : vs[b]? = some vs[b] := List.getElem?_eq_getElem hbv
  have ho := h.own b _ r hv hr
  have e : ∃ p c, vs[b] = .slice p r.length c := by
    rcases ho.2 with ⟨h1, h2⟩ | ⟨g, cap, cur, h1, _⟩
    · exact ⟨none, 0, by rw [h1, h2]⟩
    · exact ⟨_, cap, h1⟩
  obtain ⟨p, c, e⟩ := e
  rw [e] at hv ho
  refine ⟨p, c, hv, ?_, ho⟩
  rw [h.blk.cell b]
  simpa using hv
theorem OutQ.app (h : OutQ w0 w og bs rows vs) {b : Nat} {r : List PersonV} {p : Option Addr} {c : Nat} (hr : rows[b]? = some r) (hv : vs[b]? = some (.slice p r.length c)) {w' : World} {b' c' : Nat} {s : PersonV}
    (h1 : w'.ownsRow bs 59 3 (.slice (some ⟨b', 0, none⟩) (r.length + 1) c') (r.length + 1) (r.flatMap perC ++ perC s)) (hg : w.grownBy w' (Value.slice p r.length c).ownBlock) (hb : w.heap.size ≤ b' ∨ p = some ⟨b', 0, none⟩) :
    OutQ w0 (w'.setCell ⟨og, b, none⟩ (.slice (some ⟨b', 0, none⟩) (r.length + 1) c')) og bs (rows.set b (r ++ [s])) (vs.set b (.slice (some ⟨b', 0, none⟩) (r.length + 1) c')) := by
  have hlow := h.low
  have ho := h.own b _ r hv hr
  have hB : Blk w' og 26 vs.toArray := (hg.block og h.blk.lt fun e => own_no ho h.blk (by decide) e.symm).trans h.blk
  have hk := grown_set w' ⟨og, b, none⟩ (.slice (some ⟨b', 0, none⟩) (r.length + 1) c')
  have hbl := (List.getElem?_eq_some_iff.1 hv).1
  have hbr := (List.getElem?_eq_some_iff.1 hr).1
  have other : ∀ d u, d ≠ b → vs[d]? = some u → ∀ j, u.ownBlock = some j → j ≠ b' := fun d u hd hu j hj e => by
    subst e
    have hdl : d < rows.length := by rw [← h.len]; exact (List.getElem?_eq_some_iff.1 hu).1
    have hlt := ((h.own d u _ hu (List.getElem?_eq_getElem hdl)).lt j hj).2
    rcases hb with hb | hb
    · omega
    · subst hb
      exact h.far d b u _ hd hu hv j hj rfl
  refine ⟨(h.ext.grown hg fun k e => Nat.le_trans hlow.1 (Nat.le_trans (Nat.le_of_lt hlow.2) (ho.lt k e).1)).setCell (p := ⟨og, b, none⟩) hlow.1 _, hlow, by rw [List.length_set, List.length_set]; exact h.len, ?_, fun d u r' hu hr' => ?_, fun d e u v hde hu hv2 j hj => ?_⟩
  · have := hB.set_ b (.slice (some ⟨b', 0, none⟩) (r.length + 1) c')
    simpa using this
  · rw [List.getElem?_set] at hu hr'
    by_cases hd : b = d
    · subst hd
      rw [if_pos rfl, if_pos hbl] at hu
      rw [if_pos rfl, if_pos hbr] at hr'
      cases hu
      cases hr'
      rw [List.length_append, List.length_singleton, flat_snoc]
      exact h1.kept hk (.inr (own_no h1 hB (by decide)))
    · rw [if_neg hd] at hu hr'
      have ho2 := h.own d u r' hu hr'
      have ho3 : w'.ownsRow bs 59 3 u r'.length (r'.flatMap perC) := ho2.kept hg (by
        cases hj : u.ownBlock with
        | none => exact .inl rfl
        | some j => exact .inr fun e => h.far d b u _ (fun e2 => hd e2.symm) hu hv j hj e.symm)
      exact ho3.kept hk (.inr (own_no ho3 hB (by decide)))
  · rw [List.getElem?_set] at hu hv2
    by_cases hd : b = d
    · subst hd
      rw [if_pos rfl, if_pos hbl] at hu
      cases hu
      rw [if_neg hde] at hv2
      intro e2
      exact other e v (fun e3 => hde e3.symm) hv2 j e2 (by simpa [Value.ownBlock] using hj.symm)
    · rw [if_neg hd] at hu
      by_cases he : b = e
      · subst he
        rw [if_pos rfl, if_pos hbl] at hv2
        cases hv2
        intro e2
        exact other d u (fun e3 => hd e3.symm) hu j hj (by simpa [Value.ownBlock] using e2.symm)
      · rw [if_neg he] at hv2
        exact h.far d e u v hde hu hv2 j hj
end
/-- A new row of empty lists. -/
theorem OutQ.made {w0 w' : World} {og bs most : Nat} (hE : Ext w0 w') (h0 : w0.heap.size ≤ og) (h1 : og < bs) (h : Blk w' og 26 (List.replicate most (Value.slice none 0 0)).toArray) : OutQ w0 w' og bs (List.replicate most []) (List.replicate most (.slice none 0 0)) := by
  refine ⟨hE, ⟨h0, h1⟩, by simp, h, fun b v r hv hr => ?_, fun b c u v _ hu _ j hj => ?_⟩
  · rw [List.getElem?_replicate] at hv hr
    by_cases hb : b < most
    · rw [if_pos hb] at hv hr
      cases hv
      cases hr
      exact World.ownsRow_nil _ _ _ _
    · rw [if_neg hb] at hv
      cases hv
  · rw [List.getElem?_replicate] at hu
    split at hu
    · cases hu
      cases hj
    · cases hu
/-- All stands but two blocks. -/
def ExtQ (F b : Nat) (w w' : World) : Prop := w'.os = w.os ∧ w'.tape = w.tape ∧ w'.output = w.output ∧ w.heap.size ≤ w'.heap.size ∧ ∀ k, k < w.heap.size → k ≠ F → k ≠ b → w'.heap[k]? = w.heap[k]?
theorem ExtQ.refl (F b : Nat) (w : World) : ExtQ F b w w := ⟨rfl, rfl, rfl, Nat.le_refl _, fun _ _ _ _ => rfl⟩
theorem ExtQ.trans {F b : Nat} {u v w : World} (h : ExtQ F b u v) (k : ExtQ F b v w) : ExtQ F b u w :=
  ⟨k.1.trans h.1, k.2.1.trans h.2.1, k.2.2.1.trans h.2.2.1, Nat.le_trans h.2.2.2.1 k.2.2.2.1, fun i hi h1 h2 => (k.2.2.2.2 i (Nat.lt_of_lt_of_le hi h.2.2.2.1) h1 h2).trans (h.2.2.2.2 i hi h1 h2)⟩
theorem Ext.extQ {F b : Nat} {u v : World} (h : Ext u v) : ExtQ F b u v := ⟨h.os, h.tape, h.output, h.size, fun k hk _ _ => h.block k hk⟩
theorem ExtQ.ext {F b : Nat} {u v w : World} (h : ExtQ F b u v) (k : Ext v w) : ExtQ F b u w := h.trans k.extQ
theorem ExtQ.set {F b : Nat} {u v : World} (h : ExtQ F b u v) {p : Addr} (hp : p.block = F ∨ p.block = b) (x : Value) : ExtQ F b u (v.setCell p x) := by
  refine h.trans ⟨rfl, rfl, rfl, by simp, fun k hk h1 h2 => ?_⟩
  exact (grown_set v p x).block k hk fun e => by
    have : k = p.block := by simpa using e
    rcases hp with hp | hp
    · exact h1 (this.trans hp)
    · exact h2 (this.trans hp)
theorem ExtQ.grown {F b : Nat} {u v w : World} {r : Option Nat} (h : ExtQ F b u v) (k : v.grownBy w r) (hr : ∀ j, r = some j → u.heap.size ≤ j) : ExtQ F b u w :=
  ⟨k.os.trans h.1, k.tape.trans h.2.1, k.output.trans h.2.2.1, Nat.le_trans h.2.2.2.1 k.size, fun i hi h1 h2 => (k.block i (Nat.lt_of_lt_of_le hi h.2.2.2.1) fun e => by have := hr i e.symm; omega).trans (h.2.2.2.2 i hi h1 h2)⟩
theorem ExtQ.back {F b : Nat} {u v w : World} (h : Ext u v) (h1 : u.heap.size ≤ F) (h2 : u.heap.size ≤ b) (k : ExtQ F b v w) : Ext u w :=
  ⟨k.1.trans h.os, k.2.1.trans h.tape, k.2.2.1.trans h.output, Nat.le_trans h.size k.2.2.2.1, fun i hi => (k.2.2.2.2 i (Nat.lt_of_lt_of_le hi h.size) (by omega) (by omega)).trans (h.block i hi)⟩
theorem Blk.extQ {F b : Nat} {w w' : World} {g : Nat} {t : TypeId} {cs : Array Value} (h : Blk w g t cs) (h1 : g ≠ F) (h2 : g ≠ b) (he : ExtQ F b w w') : Blk w' g t cs := (he.2.2.2.2 g h.lt h1 h2).trans h
theorem Slc.extQ {α : Type} {k : Nat} {enc : α → List Value} {w w' : World} {F b : Nat} {p : Option Addr} {n c : Nat} {xs : List α} (h : Slc k enc w p n c xs) (he : ExtQ F b w w') (hp : ∀ a, p = some a → a.block ≠ F ∧ a.block ≠ b) : Slc k enc w' p n c xs := by
  obtain ⟨⟨h1, h2, h3⟩, h4, h5, h6⟩ := h
  refine ⟨⟨h1, h2, fun hn => ?_⟩, h4, h5, fun a ha => let ⟨b, off, e, hb⟩ := h6 a ha; ⟨b, off, e, Nat.lt_of_lt_of_le hb he.2.2.2.1⟩⟩
  obtain ⟨b, off, rfl, hb, hE⟩ := h3 hn
  obtain ⟨n1, n2⟩ := hp _ rfl
  exact ⟨b, off, rfl, Nat.lt_of_lt_of_le hb he.2.2.2.1, fun i x hx j v hv => (World.cell?_of_block (w := w) (he.2.2.2.2 b hb n1 n2)).trans (hE i x hx j v hv)⟩
end Go.Proofs.YtfcoeikekbjgpaaGreatDoor

namespace Go.Proofs.YtfcoeikekbjgpaaGreatDoor
open Go Go.RowKit

end Go.Proofs.YtfcoeikekbjgpaaGreatDoor
