/- The solver's memory: a place taken or left, those who stand cut, the best so far kept. Conditions: as each theorem says. Stands the other way round: the program's walk. Conditions: people, a stage and stands are right. Which part is seen, by the document's text; the choir that the laws try out. Conditions: as each theorem says. -/
import Derived.Test.YtfbegdcmnfkhgaaGreatDoorLxJ36
import Derived.Test.YtfbegdcmnfkhgaaGreatDoorLxJ23
import Derived.Shelf.SlSortCmp.NoneTotal
import Derived.Test.YtfbegdcmnfkhgaaGreatDoorLxJ30
import Derived.Test.YtfbegdcmnfkhgaaGreatDoorLxJ31
set_option linter.unusedSimpArgs false
set_option linter.unusedVariables false
namespace Go.Proofs.YtfbegdcmnfkhgaaGreatDoor
open Go Go.RowKit

section
variable {w0 w : World} {v gk ck : Nat} {pp : Option Addr} {pc : Nat} {P : List PersonV} {wp : Option Addr} {wcap : Nat} {wide : List Int} {hp : Option Addr} {hc : Nat} {high : List Int} {plp : Option Addr} {plc : Nat} {all : List StandV} {K : List Bool} {np : Option Addr} {nc : Nat} {T : List StandV} {bp : Option Addr} {bc : Nat} {fw : Int} {bst : List StandV}
theorem SvM.setT (h : SvM w0 w v gk ck pp pc P wp wcap wide hp hc high plp plc all K np nc T bp bc fw bst) (i : Nat) (b : Bool) :
    SvM w0 (w.setCell ⟨gk, i, none⟩ (.bool b)) v gk ck pp pc P wp wcap wide hp hc high plp plc all (K.set i b) np nc T bp bc fw bst := by
  have hlow := h.low
  have hvk := h.vk
  have hg := grown_set w ⟨gk, i, none⟩ (.bool b)
  have hne : ∀ (u : Value) (n : Nat) (xs : List Value), w.ownsRow (gk + 1) 46 3 u n xs → u.ownBlock ≠ some gk := fun u n xs ho e => by have := (own_block_ge ho e).1; omega
  refine ⟨h.ext.setCell (by simp only; omega) _, h.low, h.vk, h.blk.far (by simp only; omega) _, ?_, h.ckl, by rw [List.length_set]; exact h.kl, h.per, h.wid, h.hig, ?_, h.pln, h.now.kept hg (.inr (hne _ _ _ h.now)), h.bes.kept hg (.inr (hne _ _ _ h.bes)), h.far⟩
  · exact (h.tak.set_ i (.bool b)).cast (bolR_set K i b)
  · refine slc_keep h.pla (by simp [World.setCell]) fun a ha => ?_
    obtain ⟨k1, k2⟩ := h.pln a ha
    exact Below.heap_setCell w _ _ a.block (by simp only; omega)
theorem SvM.setV (h : SvM w0 w v gk ck pp pc P wp wcap wide hp hc high plp plc all K np nc T bp bc fw bst) (j : Nat) (u : Value) {np' : Option Addr} {nc' : Nat} {T' : List StandV} {bp' : Option Addr} {bc' : Nat} {fw' : Int} {bst' : List StandV}
    (hcs : (#[Value.slice pp P.length pc, .slice wp wide.length wcap, .slice hp high.length hc, .slice plp all.length plc, .slice (some ⟨gk, 0, none⟩) all.length ck, .slice np T.length nc, .slice bp bst.length bc, .int .i64 fw] : Array Value).setIfInBounds j u = #[.slice pp P.length pc, .slice wp wide.length wcap, .slice hp high.length hc, .slice plp all.length plc, .slice (some ⟨gk, 0, none⟩) all.length ck, .slice np' T'.length nc', .slice bp' bst'.length bc', .int .i64 fw'])
    (ho : w.ownsRow (gk + 1) 46 3 (.slice np' T'.length nc') T'.length (T'.flatMap staC)) (hb : w.ownsRow (gk + 1) 46 3 (.slice bp' bst'.length bc') bst'.length (bst'.flatMap staC)) (hf : ∀ a b, np' = some a → bp' = some b → a.block ≠ b.block) :
    SvM w0 (w.setCell ⟨v, j, none⟩ u) v gk ck pp pc P wp wcap wide hp hc high plp plc all K np' nc' T' bp' bc' fw' bst' := by
  have hlow := h.low
  have hvk := h.vk
  have hg := grown_set w ⟨v, j, none⟩ u
  have hne : ∀ (u : Value) (n : Nat) (xs : List Value), w.ownsRow (gk + 1) 46 3 u n xs → u.ownBlock ≠ some v := fun u n xs ho e => by have := (own_block_ge ho e).1; omega
  refine ⟨h.ext.setCell (by simp only; omega) _, h.low, h.vk, (h.blk.set_ j u).cast hcs, h.tak.far (by simp only; omega) _, h.ckl, h.kl, h.per, h.wid, h.hig, ?_, h.pln, ho.kept hg (.inr (hne _ _ _ ho)), hb.kept hg (.inr (hne _ _ _ hb)), hf⟩
  refine slc_keep h.pla (by simp [World.setCell]) fun a ha => ?_
  exact Below.heap_setCell w _ _ a.block (h.pln a ha).1
theorem SvM.nform (h : SvM w0 w v gk ck pp pc P wp wcap wide hp hc high plp plc all K np nc T bp bc fw bst) (hl : 0 < T.length) : ∃ b, np = some ⟨b, 0, none⟩ ∧ gk < b ∧ b < w.heap.size ∧ T.length ≤ nc := by
  obtain ⟨b, c, e, h1, h2⟩ := h.now.form hl
  cases e
  refine ⟨b, rfl, h1, h2, ?_⟩
  rcases h.now.2 with ⟨h3, _⟩ | ⟨g, cap, cur, h3, _, _, h4, _⟩
  · cases h3
  · cases h3; exact h4
theorem SvM.cut {b : Nat} (h : SvM w0 w v gk ck pp pc P wp wcap wide hp hc high plp plc all K (some ⟨b, 0, none⟩) nc T bp bc fw bst) {m : Nat} (hm : m ≤ T.length) :
    SvM w0 (w.setCell ⟨v, 5, none⟩ (.slice (some ⟨b, 0, none⟩) m nc)) v gk ck pp pc P wp wcap wide hp hc high plp plc all K (some ⟨b, 0, none⟩) nc (T.take m) bp bc fw bst := by
  have hl : (T.take m).length = m := by rw [List.length_take]; omega
  have ho := own_take h.now hm
  have hfl : ∀ (l : List StandV) (m : Nat), (l.flatMap staC).take (m * 3) = (l.take m).flatMap staC := by
    intro l
    induction l with
    | nil => intro m; simp
    | cons x l ih =>
      intro m
      cases m with
      | zero => simp
      | succ m =>
        rw [List.flatMap_cons, List.take_succ_cons, List.flatMap_cons, show (m + 1) * 3 = m * 3 + 3 by omega, ← ih m]
        rfl
  rw [hfl] at ho
  exact h.setV 5 _ (by rw [hl]; rfl) (by rw [hl]; exact ho) h.bes h.far
theorem SvM.keep (h : SvM w0 w v gk ck pp pc P wp wcap wide hp hc high plp plc all K np nc T bp bc fw bst) {p9 : Option Addr} {c9 : Nat} {base : Nat} (ho : w.ownsRow base 46 3 (.slice p9 T.length c9) T.length (T.flatMap staC)) (hb : gk + 1 ≤ base) (hf : ∀ a, np = some a → a.block < base) (n : Int) :
    SvM w0 ((w.setCell ⟨v, 7, none⟩ (.int .i64 n)).setCell ⟨v, 6, none⟩ (.slice p9 T.length c9)) v gk ck pp pc P wp wcap wide hp hc high plp plc all K np nc T p9 c9 n T := by
  have h1 := h.setV (fw' := n) 7 (.int .i64 n) rfl h.now h.bes h.far
  have ho1 := own_low ho hb
  have hne : (Value.slice p9 T.length c9).ownBlock ≠ some v := fun e => by have := (own_block_ge ho1 e).1; have := h.vk; omega
  exact h1.setV 6 _ rfl h1.now (ho1.kept (grown_set w ⟨v, 7, none⟩ _) (.inr hne)) fun a b ha hb2 => by
    have k1 := hf a ha
    subst hb2
    have := (own_block_ge ho (g := b.block) (by simp [Value.ownBlock])).1
    omega
end

/-- One more stands. -/
theorem svT_next {P : List PersonV} {wide high : List Int} {T : List StandV} (h : SvT P wide high T) (hl : T.length < P.length) {x : StandV} (hx : OnStage wide x) : SvT P wide high (nxt P T x) := by
  obtain ⟨hok, hle, hnm⟩ := h
  obtain ⟨q, hq⟩ : ∃ q, P[T.length]? = some q := ⟨_, List.getElem?_eq_getElem hl⟩
  have hn : (putN P T.length x).name = q.name := by unfold putN; rw [List.getD_eq_getElem?_getD, hq]; rfl
  have hlen := hok.po.len
  refine ⟨⟨hok.po, hok.wo, hok.ho, hok.wh, by rw [nxt_len]; omega, fun y hy => ?_, fun y hy => ?_⟩, by rw [nxt_len]; omega, fun i y hy => ?_⟩
  · rcases List.mem_append.1 hy with h | h
    · exact hok.on y h
    · rw [List.mem_singleton.1 h]; exact hx
  · rcases List.mem_append.1 hy with h | h
    · exact hok.all y h
    · rw [List.mem_singleton.1 h]; exact ⟨_, q, hq, hn.symm⟩
  · unfold nxt at hy
    rcases Nat.lt_or_ge i T.length with hi | hi
    · rw [List.getElem?_append_left hi] at hy
      exact hnm i y hy
    · have hi2 := (List.getElem?_eq_some_iff.1 hy).1
      rw [List.length_append, List.length_singleton] at hi2
      obtain rfl : i = T.length := by omega
      rw [List.getElem?_append_right (Nat.le_refl _), Nat.sub_self] at hy
      simp at hy
      subst hy
      exact ⟨q, hq, hn.symm⟩
end Go.Proofs.YtfbegdcmnfkhgaaGreatDoor

namespace Go.Proofs.YtfbegdcmnfkhgaaGreatDoor
open Go Go.RowKit Go.Sort

end Go.Proofs.YtfbegdcmnfkhgaaGreatDoor

namespace Go.Proofs.YtfbegdcmnfkhgaaGreatDoor
open Go Go.RowKit

end Go.Proofs.YtfbegdcmnfkhgaaGreatDoor
