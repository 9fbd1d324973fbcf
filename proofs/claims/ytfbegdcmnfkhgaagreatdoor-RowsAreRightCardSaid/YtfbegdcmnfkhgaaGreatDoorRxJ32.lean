/- Stands that the stream makes. Conditions: sizes. Stands the other way round: the program's walk. Conditions: people, a stage and stands are right. The solver's memory while it tries. Conditions: as each theorem says. The solver's memory: a place taken or left, those who stand cut, the best so far kept. Conditions: as each theorem says. Which part is seen, by the document's text; the choir that the laws try out. Conditions: as each theorem says. -/
import Derived.Test.YtfbegdcmnfkhgaaGreatDoorRxJ31
import Derived.Test.YtfbegdcmnfkhgaaGreatDoorRxJ22
import Derived.Test.YtfbegdcmnfkhgaaGreatDoorRxJ26
import Derived.Shelf.SlicesE.Clone
import Derived.Test.YtfbegdcmnfkhgaaGreatDoorRxBeD
import Derived.Test.YtfbegdcmnfkhgaaGreatDoorRxJ27
set_option linter.unusedSimpArgs false
set_option linter.unusedVariables false
namespace Go.Proofs.YtfbegdcmnfkhgaaGreatDoor
open Go Go.RowKit

theorem staInfo : (Tryz.prog.info? 46).map (fun i => (i.zero, i.size, i.bytes)) = some (some (.agg #[.string ⟨#[]⟩, .int .i64 0, .int .i64 0]), 3, 32) := by kernel_rfl
theorem sta_one (x : StandV) : ∀ u ∈ staC x, u.oneCell' = true := by simp [staC, Value.oneCell']
/-- Stands that are being made. -/
structure SlM (s k0 : Nat) (w : World) (base : Nat) (wr : World) (P : List PersonV) (p0 : Option Addr) (c0 lo : Nat) (v7 : Value) (po : Option Addr) (m co : Nat) (S : List StandV) : Prop where
  own : wr.ownsRow base 46 3 v7 S.length (S.flatMap staC)
  sum : S.length + m = P.length
  small : ∀ x ∈ S, x.Small
  cap : m ≤ co
  at_ : m ≠ 0 → ∃ bo off, po = some ⟨bo, off, none⟩ ∧ p0 = some ⟨bo, 0, none⟩ ∧ off + m ≤ P.length
  ord : OwG (fun x => 0 ≤ x ∧ x < P.length) wr lo p0 P.length c0
  low : s < lo ∧ s < base ∧ w.heap.size ≤ base
  szb : base ≤ wr.heap.size
  str : Str wr s k0
  ext : ExtS s w wr
theorem SlM.extS {s k0 k1 : Nat} {w : World} {base : Nat} {wr wq : World} {P : List PersonV} {p0 : Option Addr} {c0 lo : Nat} {v7 : Value} {po : Option Addr} {m co : Nat} {S : List StandV} (h : SlM s k0 w base wr P p0 c0 lo v7 po m co S) (he : ExtS s wr wq) (hs : Str wq s k1) : SlM s k1 w base wq P p0 c0 lo v7 po m co S :=
  ⟨own_extS he h.low.2.1 h.own, h.sum, h.small, h.cap, h.at_, h.ord.extS h.low.1 he, h.low, Nat.le_trans h.szb he.2.2.2.1, hs, h.ext.trans he⟩
theorem SlM.more {s k0 : Nat} {w : World} {base : Nat} {wr wq : World} {P : List PersonV} {p0 : Option Addr} {c0 lo : Nat} {v7 : Value} {po : Option Addr} {m co : Nat} {S : List StandV} (h : SlM s k0 w base wr P p0 c0 lo v7 po m co S) (he : Ext wr wq) : SlM s k0 w base wq P p0 c0 lo v7 po m co S := h.extS he.extS (h.str.ext he)

end Go.Proofs.YtfbegdcmnfkhgaaGreatDoor

namespace Go.Proofs.YtfbegdcmnfkhgaaGreatDoor
open Go Go.RowKit Go.Sort

/-- Nobody stands where somebody else does. -/
def Apart (a b : StandV) : Prop := ¬ (a.row = b.row ∧ a.place = b.place)
end Go.Proofs.YtfbegdcmnfkhgaaGreatDoor

namespace Go.Proofs.YtfbegdcmnfkhgaaGreatDoor
open Go Go.RowKit

def bolR (K : List Bool) : Array Value := (K.map Value.bool).toArray
structure SvM (w0 w : World) (v gk ck : Nat) (pp : Option Addr) (pc : Nat) (P : List PersonV) (wp : Option Addr) (wcap : Nat) (wide : List Int) (hp : Option Addr) (hc : Nat) (high : List Int) (plp : Option Addr) (plc : Nat) (all : List StandV) (K : List Bool) (np : Option Addr) (nc : Nat) (T : List StandV) (bp : Option Addr) (bc : Nat) (fw : Int) (bst : List StandV) : Prop where
  ext : Ext w0 w
  low : w0.heap.size ≤ v
  vk : v < gk
  blk : Blk w v 77 #[.slice pp P.length pc, .slice wp wide.length wcap, .slice hp high.length hc, .slice plp all.length plc, .slice (some ⟨gk, 0, none⟩) all.length ck, .slice np T.length nc, .slice bp bst.length bc, .int .i64 fw]
  tak : Blk w gk 4 (bolR K)
  ckl : all.length ≤ ck
  kl : K.length = all.length
  per : Slc 3 perC w0 pp P.length pc P
  wid : Slc 1 intC w0 wp wide.length wcap wide
  hig : Slc 1 intC w0 hp high.length hc high
  pla : Slc 3 staC w plp all.length plc all
  pln : ∀ a, plp = some a → a.block ≠ v ∧ a.block < gk
  now : w.ownsRow (gk + 1) 46 3 (.slice np T.length nc) T.length (T.flatMap staC)
  bes : w.ownsRow (gk + 1) 46 3 (.slice bp bst.length bc) bst.length (bst.flatMap staC)
  far : ∀ a b, np = some a → bp = some b → a.block ≠ b.block
section
variable {w0 w : World} {v gk ck : Nat} {pp : Option Addr} {pc : Nat} {P : List PersonV} {wp : Option Addr} {wcap : Nat} {wide : List Int} {hp : Option Addr} {hc : Nat} {high : List Int} {plp : Option Addr} {plc : Nat} {all : List StandV} {K : List Bool} {np : Option Addr} {nc : Nat} {T : List StandV} {bp : Option Addr} {bc : Nat} {fw : Int} {bst : List StandV}
theorem SvM.more (h : SvM w0 w v gk ck pp pc P wp wcap wide hp hc high plp plc all K np nc T bp bc fw bst) {w' : World} (he : Ext w w') : SvM w0 w' v gk ck pp pc P wp wcap wide hp hc high plp plc all K np nc T bp bc fw bst :=
  ⟨h.ext.trans he, h.low, h.vk, h.blk.ext he, h.tak.ext he, h.ckl, h.kl, h.per, h.wid, h.hig, h.pla.ext he, h.pln, own_ext he h.now, own_ext he h.bes, h.far⟩
theorem SvM.nlen (h : SvM w0 w v gk ck pp pc P wp wcap wide hp hc high plp plc all K np nc T bp bc fw bst) (hl : T.length ≤ 1000) : Slc 3 staC w np T.length nc T := by
  obtain ⟨p, c, e, hS⟩ := slc_of_own staC_len h.now (by decide) (by omega)
  cases e
  exact hS
theorem SvM.read (h : SvM w0 w v gk ck pp pc P wp wcap wide hp hc high plp plc all K np nc T bp bc fw bst) (hl : T.length ≤ 1000) : SvR w v pp pc P wp wcap wide hp hc high np nc T (.slice plp all.length plc) (.slice (some ⟨gk, 0, none⟩) all.length ck) (.slice bp bst.length bc) fw :=
  ⟨h.blk, h.per.ext h.ext, h.wid.ext h.ext, h.hig.ext h.ext, h.nlen hl⟩
theorem own_block_ge {w : World} {base k n : Nat} {e : TypeId} {v : Value} {xs : List Value} (h : w.ownsRow base e k v n xs) {g : Nat} (hg : v.ownBlock = some g) : base ≤ g ∧ g < w.heap.size := by
  rcases h.2 with ⟨rfl, _⟩ | ⟨b, cap, cur, rfl, hb, h3, _⟩
  · simp [Value.ownBlock] at hg
  · have : b = g := by simpa [Value.ownBlock] using hg
    subst this
    exact ⟨hb, (Array.getElem?_eq_some_iff.1 h3).1⟩
theorem slc_keep {α : Type} {k : Nat} {enc : α → List Value} {w w' : World} {p : Option Addr} {n c : Nat} {xs : List α} (h : Slc k enc w p n c xs) (hs : w.heap.size ≤ w'.heap.size) (hk : ∀ a, p = some a → w'.heap[a.block]? = w.heap[a.block]?) : Slc k enc w' p n c xs := by
  obtain ⟨⟨h1, h2, h3⟩, h4, h5, h6⟩ := h
  refine ⟨⟨h1, h2, fun hn => ?_⟩, h4, h5, fun a ha => ?_⟩
  · obtain ⟨b, off, e, hb, hE⟩ := h3 hn
    refine ⟨b, off, e, Nat.lt_of_lt_of_le hb hs, fun i x hx j u hu => ?_⟩
    rw [← hE i x hx j u hu]
    exact World.cell?_of_block (w := w) (a := ⟨b, off + i * k + j, none⟩) (hk ⟨b, off, none⟩ e)
  · obtain ⟨b, off, e, hb⟩ := h6 a ha
    exact ⟨b, off, e, Nat.lt_of_lt_of_le hb hs⟩
theorem SvM.app (h : SvM w0 w v gk ck pp pc P wp wcap wide hp hc high plp plc all K np nc T bp bc fw bst) {x : StandV} {b1 c1 : Nat} {w6 : World}
    (ho : w6.ownsRow (gk + 1) 46 3 (.slice (some ⟨b1, 0, none⟩) (T.length + 1) c1) (T.length + 1) (T.flatMap staC ++ staC x)) (hg : w.grownBy w6 (Value.slice np T.length nc).ownBlock) (hl : w.heap.size ≤ b1 ∨ np = some ⟨b1, 0, none⟩) :
    SvM w0 (w6.setCell ⟨v, 5, none⟩ (.slice (some ⟨b1, 0, none⟩) (T.length + 1) c1)) v gk ck pp pc P wp wcap wide hp hc high plp plc all K (some ⟨b1, 0, none⟩) c1 (T ++ [x]) bp bc fw bst := by
  have hlow := h.low
  have hvk := h.vk
  have hob : ∀ g, (Value.slice np T.length nc).ownBlock = some g → gk + 1 ≤ g := fun g hg => (own_block_ge h.now hg).1
  have hsz := hg.size
  have hb1 := (ho.lt b1 rfl).1
  have hne : (Value.slice np T.length nc).ownBlock ≠ some v := fun e => by have := hob v e; omega
  have hnk : (Value.slice np T.length nc).ownBlock ≠ some gk := fun e => by have := hob gk e; omega
  have hbs : ∀ b, bp = some b → (Value.slice np T.length nc).ownBlock ≠ some b.block := fun b hb e => by
    cases np with
    | none => simp [Value.ownBlock] at e
    | some a => exact h.far a b rfl hb (by simpa [Value.ownBlock] using e)
  have hblt : ∀ b, bp = some b → b.block < w.heap.size := fun b hb => by
    subst hb
    exact (own_block_ge h.bes (g := b.block) (by simp [Value.ownBlock])).2
  have hV : Blk w6 v 77 _ := (hg.block v h.blk.lt fun e => hne e.symm).trans h.blk
  have hK : Blk w6 gk 4 _ := (hg.block gk h.tak.lt fun e => hnk e.symm).trans h.tak
  have hext : Ext w0 w6 := h.ext.grown hg fun g hgg => by have := hob g hgg; have := h.ext.size; omega
  have hE : ∀ j, j ≠ v → (w6.setCell ⟨v, 5, none⟩ (.slice (some ⟨b1, 0, none⟩) (T.length + 1) c1)).heap[j]? = w6.heap[j]? := fun j hj => Below.heap_setCell w6 _ _ j hj
  have hbe6 : w6.ownsRow (gk + 1) 46 3 (.slice bp bst.length bc) bst.length (bst.flatMap staC) := h.bes.kept hg (by
    cases bp with
    | none => exact .inl (by simp [Value.ownBlock])
    | some b => exact .inr fun e => hbs b rfl (by simpa [Value.ownBlock] using e.symm))
  refine ⟨hext.setCell (by simp only; omega) _, h.low, h.vk, ?_, hK.far (by simp only; omega) _, h.ckl, h.kl, h.per, h.wid, h.hig, ?_, h.pln, ?_, ?_, ?_⟩
  · have := (hV.set_ 5 (.slice (some ⟨b1, 0, none⟩) (T.length + 1) c1)).cast (cs' := #[.slice pp P.length pc, .slice wp wide.length wcap, .slice hp high.length hc, .slice plp all.length plc, .slice (some ⟨gk, 0, none⟩) all.length ck, .slice (some ⟨b1, 0, none⟩) (T ++ [x]).length c1, .slice bp bst.length bc, .int .i64 fw]) (by simp)
    exact this
  · refine slc_keep h.pla (by simpa using hsz) fun a ha => ?_
    obtain ⟨k1, k2⟩ := h.pln a ha
    rw [hE _ k1]
    obtain ⟨b, off, e, hb⟩ := h.pla.2.2.2 a ha
    subst e
    exact hg.block _ hb fun e => by have := hob b e.symm; simp only at k2; omega
  · rw [List.length_append, List.length_singleton, flat_snoc]
    exact ho.kept (grown_set w6 ⟨v, 5, none⟩ _) (.inr fun e => by
      have e2 : v = b1 := by simpa [Value.ownBlock] using e.symm
      omega)
  · refine hbe6.kept (grown_set w6 ⟨v, 5, none⟩ _) ?_
    cases hbp : (Value.slice bp bst.length bc).ownBlock with
    | none => exact .inl rfl
    | some g =>
      have := (own_block_ge h.bes hbp).1
      exact .inr fun e => by
        have e2 : g = v := by simpa using e
        omega
  · intro a b ha hb
    cases ha
    rcases hl with hl | hl
    · have := hblt b hb
      simp only
      omega
    · exact h.far _ b hl hb
end
end Go.Proofs.YtfbegdcmnfkhgaaGreatDoor

namespace Go.Proofs.YtfbegdcmnfkhgaaGreatDoor
open Go Go.RowKit

section
variable {w0 w : World} {v gk ck : Nat} {pp : Option Addr} {pc : Nat} {P : List PersonV} {wp : Option Addr} {wcap : Nat} {wide : List Int} {hp : Option Addr} {hc : Nat} {high : List Int} {plp : Option Addr} {plc : Nat} {all : List StandV} {K : List Bool} {np : Option Addr} {nc : Nat} {T : List StandV} {bp : Option Addr} {bc : Nat} {fw : Int} {bst : List StandV}
theorem SvM.setV (h : SvM w0 w v gk ck pp pc P wp wcap wide hp hc high plp plc all K np nc T bp bc fw bst) (j : Nat) (u : Value) {np' : Option Addr} {nc' : Nat} {T' : List StandV} {bp' : Option Addr} {bc' : Nat} {fw' : Int} {bst' : List StandV}
    (hcs : (#[Value.slice pp P.length pc, .slice wp wide.length wcap, .slice hp high.length hc, .slice plp all.length plc, .slice (some ⟨gk, 0, none⟩) all.length ck, .slice np T.length nc, .slice bp bst.length bc, .int .i64 fw] : Array Value).setIfInBounds j u = #[.slice pp P.length pc, .slice wp wide.length wcap, .slice hp high.length hc, .slice plp all.length plc, .slice (some ⟨gk, 0, none⟩) all.length ck, .slice np' T'.length nc', .slice bp' bst'.length bc', .int .i64 fw'])
    (ho : w.ownsRow (gk + 1) 46 3 (.slice np' T'.length nc') T'.length (T'.flatMap staC)) (hb : w.ownsRow (gk + 1) 46 3 (.slice bp' bst'.length bc') bst'.length (bst'.flatMap staC)) (hf : ∀ a b, np' = some a → bp' = some b → a.block ≠ b.block) :
    SvM w0 (w.setCell ⟨v, j, none⟩ u) v gk ck pp pc P wp wcap wide hp hc high plp plc all K np' nc' T' bp' bc' fw' bst' := by
  have hlow := h.low
  have hvk := h.vk
  have hg := grown_set w ⟨v, j, none⟩ u
  have hne : ∀ (u : Value) (n : Nat) (xs : List Value), w.ownsRow (gk + 1) 46 3 u n xs → u.ownBlock ≠ some v := fun u n xs ho e => by have := (own_block_ge ho e).1; omega
  refine ⟨h.ext.setCell (by simp only; omega) _, h.low, h.vk, (h.blk.set_ j u).cast hcs, h.tak.far (by simp only; omega) _, h.ckl, h.kl, h.per, h.wid, h.hig, ?_, h.pln, ho.kept hg (.inr (hne _ _ _ ho)), hb.kept hg (.inr (hne _ _ _ hb)), hf⟩
  refine slc_keep h.pla (by simp [World.setCell]) fun a ha => ?_
  exact Below.heap_setCell w _ _ a.block (h.pln a ha).1
theorem SvM.cut {b : Nat} (h : SvM w0 w v gk ck pp pc P wp wcap wide hp hc high plp plc all K (some ⟨b, 0, none⟩) nc T bp bc fw bst) {m : Nat} (hm : m ≤ T.length) :
    SvM w0 (w.setCell ⟨v, 5, none⟩ (.slice (some ⟨b, 0, none⟩) m nc)) v gk ck pp pc P wp wcap wide hp hc high plp plc all K (some ⟨b, 0, none⟩) nc (T.take m) bp bc fw bst := by
  have hl : (T.take m).length = m := by rw [List.length_take]; omega
  have ho := own_take h.now hm
  have hfl : ∀ (l : List StandV) (m : Nat), (l.flatMap staC).take (m * 3) = (l.take m).flatMap staC := by
    intro l
    induction l with
    | nil => intro m; simp
    | cons x l ih =>
      intro m
      cases m with
      | zero => simp
      | succ m =>
        rw [List.flatMap_cons, List.take_succ_cons, List.flatMap_cons, show (m + 1) * 3 = m * 3 + 3 by omega, ← ih m]
        rfl
  rw [hfl] at ho
  exact h.setV 5 _ (by rw [hl]; rfl) (by rw [hl]; exact ho) h.bes h.far
theorem SvM.keep (h : SvM w0 w v gk ck pp pc P wp wcap wide hp hc high plp plc all K np nc T bp bc fw bst) {p9 : Option Addr} {c9 : Nat} {base : Nat} (ho : w.ownsRow base 46 3 (.slice p9 T.length c9) T.length (T.flatMap staC)) (hb : gk + 1 ≤ base) (hf : ∀ a, np = some a → a.block < base) (n : Int) :
    SvM w0 ((w.setCell ⟨v, 7, none⟩ (.int .i64 n)).setCell ⟨v, 6, none⟩ (.slice p9 T.length c9)) v gk ck pp pc P wp wcap wide hp hc high plp plc all K np nc T p9 c9 n T := by
  have h1 := h.setV (fw' := n) 7 (.int .i64 n) rfl h.now h.bes h.far
  have ho1 := own_low ho hb
  have hne : (Value.slice p9 T.length c9).ownBlock ≠ some v := fun e => by have := (own_block_ge ho1 e).1; have := h.vk; omega
  exact h1.setV 6 _ rfl h1.now (ho1.kept (grown_set w ⟨v, 7, none⟩ _) (.inr hne)) fun a b ha hb2 => by
    have k1 := hf a ha
    subst hb2
    have := (own_block_ge ho (g := b.block) (by simp [Value.ownBlock])).1
    omega
end

end Go.Proofs.YtfbegdcmnfkhgaaGreatDoor

namespace Go.Proofs.YtfbegdcmnfkhgaaGreatDoor
open Go Go.RowKit

theorem slc_of_blk {α : Type} {k : Nat} {enc : α → List Value} (hk : ∀ x, (enc x).length = k) {w : World} {g : Nat} {t : TypeId} {xs : List α} (h : Blk w g t (xs.flatMap enc).toArray) (hl : xs.length ≤ 1000) : Slc k enc w (some ⟨g, 0, none⟩) xs.length xs.length xs := by
  refine ⟨⟨rfl, by omega, fun _ => ⟨g, 0, rfl, h.lt, fun i x hx j u hu => ?_⟩⟩, Nat.le_refl _, (fun e => by cases e), fun a ha => by cases ha; exact ⟨g, 0, rfl, h.lt⟩⟩
  rw [Nat.zero_add, h.cell, List.getElem?_toArray]
  exact flat_at hk xs i x hx j u hu

end Go.Proofs.YtfbegdcmnfkhgaaGreatDoor
