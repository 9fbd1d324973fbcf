/- Stands that the stream makes. Conditions: sizes. Stands the other way round: the program's walk. Conditions: people, a stage and stands are right. The solver's memory while it tries. Conditions: as each theorem says. -/
import Derived.Test.YtfbegdcmnfkhgaaGreatDoorLxJ35
import Derived.Test.YtfbegdcmnfkhgaaGreatDoorLxJ25
import Derived.Test.YtfbegdcmnfkhgaaGreatDoorLxJ30
import Derived.Shelf.SlicesE.Clone
import Derived.Test.YtfbegdcmnfkhgaaGreatDoorLxBeD
set_option linter.unusedSimpArgs false
set_option linter.unusedVariables false
namespace Go.Proofs.YtfbegdcmnfkhgaaGreatDoor
open Go Go.RowKit

theorem staInfo : (Tryz.prog.info? 46).map (fun i => (i.zero, i.size, i.bytes)) = some (some (.agg #[.string ⟨#[]⟩, .int .i64 0, .int .i64 0]), 3, 32) := by kernel_rfl
theorem sta_one (x : StandV) : ∀ u ∈ staC x, u.oneCell' = true := by simp [staC, Value.oneCell']
/-- Stands that are being made. -/
structure SlM (s k0 : Nat) (w : World) (base : Nat) (wr : World) (P : List PersonV) (p0 : Option Addr) (c0 lo : Nat) (v7 : Value) (po : Option Addr) (m co : Nat) (S : List StandV) : Prop where
  own : wr.ownsRow base 46 3 v7 S.length (S.flatMap staC)
  sum : S.length + m = P.length
  small : ∀ x ∈ S, x.Small
  cap : m ≤ co
  at_ : m ≠ 0 → ∃ bo off, po = some ⟨bo, off, none⟩ ∧ p0 = some ⟨bo, 0, none⟩ ∧ off + m ≤ P.length
  ord : OwG (fun x => 0 ≤ x ∧ x < P.length) wr lo p0 P.length c0
  low : s < lo ∧ s < base ∧ w.heap.size ≤ base
  szb : base ≤ wr.heap.size
  str : Str wr s k0
  ext : ExtS s w wr
theorem SlM.extS {s k0 k1 : Nat} {w : World} {base : Nat} {wr wq : World} {P : List PersonV} {p0 : Option Addr} {c0 lo : Nat} {v7 : Value} {po : Option Addr} {m co : Nat} {S : List StandV} (h : SlM s k0 w base wr P p0 c0 lo v7 po m co S) (he : ExtS s wr wq) (hs : Str wq s k1) : SlM s k1 w base wq P p0 c0 lo v7 po m co S :=
  ⟨own_extS he h.low.2.1 h.own, h.sum, h.small, h.cap, h.at_, h.ord.extS h.low.1 he, h.low, Nat.le_trans h.szb he.2.2.2.1, hs, h.ext.trans he⟩
theorem SlM.more {s k0 : Nat} {w : World} {base : Nat} {wr wq : World} {P : List PersonV} {p0 : Option Addr} {c0 lo : Nat} {v7 : Value} {po : Option Addr} {m co : Nat} {S : List StandV} (h : SlM s k0 w base wr P p0 c0 lo v7 po m co S) (he : Ext wr wq) : SlM s k0 w base wq P p0 c0 lo v7 po m co S := h.extS he.extS (h.str.ext he)

end Go.Proofs.YtfbegdcmnfkhgaaGreatDoor

namespace Go.Proofs.YtfbegdcmnfkhgaaGreatDoor
open Go Go.RowKit Go.Sort

theorem sta_flat_len (xs : List StandV) : (xs.flatMap staC).length = xs.length * 3 := flat_lenK staC_len xs
theorem cloneSta_any (p : Option Addr) (n c : Nat) (xs : List StandV) (w : World) (h : Slc 3 staC w p n c xs) (hn : n ≤ 1000) :
    Calls Tryz.prog 50 #[.slice p n c] w fun e w' => ∃ v, e = .returned v ∧ w'.ownsRow w.heap.size 46 3 v n (xs.flatMap staC) ∧ Ext w w' := by
  obtain ⟨hS, hnc, hp0, hp⟩ := h
  cases p with
  | none =>
    obtain rfl := hp0 rfl
    have hx : xs = [] := List.eq_nil_of_length_eq_zero hS.1
    subst hx
    exact (AnyE.slices_Clone_nil Tryz.lecStand 0 c w).mono fun e w' ⟨he, hw⟩ => by
      subst hw
      exact ⟨_, he, World.ownsRow_nil _ _ _ _, Ext.refl _⟩
  | some a =>
    obtain ⟨b, off, rfl, hb⟩ := hp a rfl
    obtain ⟨i0, hi, hz0, hz1, hz2⟩ := info_parts (P := Tryz.prog) (e := 46) (z := .agg #[.string ⟨#[]⟩, .int .i64 0, .int .i64 0]) (size := 3) (bytes := 32) (by kernel_rfl)
    refine (AnyE.slices_Clone Tryz.lecStand i0 _ 3 32 hi hz0 hz1 hz2 rfl (by decide) Tryz.sizeOf46 b off n c (xs.flatMap staC) w (by rw [sta_flat_len, hS.1]) (by unfold maxLen; omega) (by omega) (fun j u hj => ?_) (fun u hu => ?_)).mono fun e w' ⟨v', he, ho, _, hb'⟩ => ⟨v', he, ho, hb'⟩
    · have hj' : j < xs.length * 3 := by rw [← sta_flat_len]; exact (List.getElem?_eq_some_iff.1 hj).1
      have hn0 : n ≠ 0 := by have := hS.1; omega
      obtain ⟨b', off', hpe, hb', hE⟩ := hS.2.2 hn0
      cases hpe
      obtain ⟨x, hx⟩ : ∃ x, xs[j / 3]? = some x := ⟨_, List.getElem?_eq_getElem (by omega)⟩
      have hjm : j % 3 < 3 := Nat.mod_lt _ (by omega)
      obtain ⟨u', hu'⟩ : ∃ u', (staC x)[j % 3]? = some u' := ⟨_, List.getElem?_eq_getElem (by rw [staC_len]; exact hjm)⟩
      have h2 := hE _ x hx _ u' hu'
      have h3 := flat_at staC_len xs (j / 3) x hx (j % 3) u' hu'
      rw [Nat.div_add_mod' j 3] at h3
      rw [h3] at hj
      cases hj
      have h4 : (⟨b, off, none⟩ : Addr).add j = ⟨b, off + j, none⟩ := by unfold Addr.add; split <;> simp_all
      rw [show off + j = off + j / 3 * 3 + j % 3 by omega]
      exact h2
    · obtain ⟨x, -, hx⟩ := List.mem_flatMap.1 hu
      exact sta_one x u hx

theorem cmp_swo : SWO (ltOf cmpV) where
  irrefl x := by unfold ltOf; rw [← ltV_cmp]; exact ltV_irrefl x
  trans x y z h1 h2 := by
    unfold ltOf at *
    rw [← ltV_cmp] at *
    exact ltV_trans h1 h2
  ntrans x y z h1 h2 := by
    unfold ltOf at *
    rw [← ltV_cmp] at *
    unfold ltV at *
    simp at *
    omega
/-- Nobody stands where somebody else does. -/
def Apart (a b : StandV) : Prop := ¬ (a.row = b.row ∧ a.place = b.place)
theorem sorted_apart {M : List StandV} (h1 : M.Pairwise Apart) (h2 : ∀ i j, i < j → (hj : j < M.length) → (hi : i < M.length) → ltV M[j] M[i] = false) : M.Pairwise (fun a b => ltV a b = true) := by
  rw [List.pairwise_iff_getElem] at h1 ⊢
  intro i j hi hj hij
  have k1 := h1 i j hi hj hij
  have k2 := h2 i j hij hj hi
  unfold Apart at k1
  unfold ltV at k2 ⊢
  simp at k2 ⊢
  omega
end Go.Proofs.YtfbegdcmnfkhgaaGreatDoor

namespace Go.Proofs.YtfbegdcmnfkhgaaGreatDoor
open Go Go.RowKit

def bolR (K : List Bool) : Array Value := (K.map Value.bool).toArray
theorem bolR_at {K : List Bool} {i : Nat} {b : Bool} (h : K[i]? = some b) : (bolR K)[i]? = some (.bool b) := by
  unfold bolR
  simp [h]
theorem bolR_set (K : List Bool) (i : Nat) (b : Bool) : (bolR K).setIfInBounds i (.bool b) = bolR (K.set i b) := by
  unfold bolR
  rw [List.setIfInBounds_toArray, List.map_set]
/-- Which places are taken. -/
def flagsL (all T : List StandV) : List Bool := all.map fun x => inT T x
theorem flagsL_len (all T : List StandV) : (flagsL all T).length = all.length := by simp [flagsL]
theorem flagsL_at {all T : List StandV} {i : Nat} {x : StandV} (h : all[i]? = some x) : (flagsL all T)[i]? = some (inT T x) := by simp [flagsL, h]
def AllApart (all : List StandV) : Prop := ∀ (i j : Nat) (x y : StandV), all[i]? = some x → all[j]? = some y → sameP x y = true → i = j
theorem sameP_put (P : List PersonV) (k : Nat) (x y : StandV) : sameP x (putN P k y) = sameP x y := rfl
theorem sameP_self (x : StandV) : sameP x x = true := by simp [sameP]
theorem inT_nxt (P : List PersonV) (T : List StandV) (x y : StandV) : inT (nxt P T x) y = (inT T y || sameP y x) := by
  unfold inT nxt
  rw [List.any_append]
  simp [sameP_put]
theorem flags_set {all : List StandV} (ha : AllApart all) (P : List PersonV) (T : List StandV) {i : Nat} {x : StandV} (h : all[i]? = some x) : (flagsL all T).set i true = flagsL all (nxt P T x) := by
  apply List.ext_getElem?
  intro j
  have hi := (List.getElem?_eq_some_iff.1 h).1
  unfold flagsL
  rw [List.getElem?_set, List.getElem?_map, List.getElem?_map, List.length_map]
  by_cases e : i = j
  · subst e
    rw [if_pos rfl, if_pos hi, h, Option.map_some, inT_nxt, sameP_self, Bool.or_true]
  · rw [if_neg e]
    cases hy : all[j]? with
    | none => rfl
    | some y =>
      rw [Option.map_some, Option.map_some, inT_nxt]
      cases hs : sameP y x
      · rw [Bool.or_false]
      · exact absurd (ha j i _ _ hy h hs).symm e
theorem flags_back {all : List StandV} {T : List StandV} {i : Nat} {x : StandV} (h : all[i]? = some x) (hn : inT T x = false) : ((flagsL all T).set i true).set i false = flagsL all T := by
  rw [List.set_set]
  exact set_self9 (by rw [flagsL_at h, hn])

structure SvM (w0 w : World) (v gk ck : Nat) (pp : Option Addr) (pc : Nat) (P : List PersonV) (wp : Option Addr) (wcap : Nat) (wide : List Int) (hp : Option Addr) (hc : Nat) (high : List Int) (plp : Option Addr) (plc : Nat) (all : List StandV) (K : List Bool) (np : Option Addr) (nc : Nat) (T : List StandV) (bp : Option Addr) (bc : Nat) (fw : Int) (bst : List StandV) : Prop where
  ext : Ext w0 w
  low : w0.heap.size ≤ v
  vk : v < gk
  blk : Blk w v 77 #[.slice pp P.length pc, .slice wp wide.length wcap, .slice hp high.length hc, .slice plp all.length plc, .slice (some ⟨gk, 0, none⟩) all.length ck, .slice np T.length nc, .slice bp bst.length bc, .int .i64 fw]
  tak : Blk w gk 4 (bolR K)
  ckl : all.length ≤ ck
  kl : K.length = all.length
  per : Slc 3 perC w0 pp P.length pc P
  wid : Slc 1 intC w0 wp wide.length wcap wide
  hig : Slc 1 intC w0 hp high.length hc high
  pla : Slc 3 staC w plp all.length plc all
  pln : ∀ a, plp = some a → a.block ≠ v ∧ a.block < gk
  now : w.ownsRow (gk + 1) 46 3 (.slice np T.length nc) T.length (T.flatMap staC)
  bes : w.ownsRow (gk + 1) 46 3 (.slice bp bst.length bc) bst.length (bst.flatMap staC)
  far : ∀ a b, np = some a → bp = some b → a.block ≠ b.block
section
variable {w0 w : World} {v gk ck : Nat} {pp : Option Addr} {pc : Nat} {P : List PersonV} {wp : Option Addr} {wcap : Nat} {wide : List Int} {hp : Option Addr} {hc : Nat} {high : List Int} {plp : Option Addr} {plc : Nat} {all : List StandV} {K : List Bool} {np : Option Addr} {nc : Nat} {T : List StandV} {bp : Option Addr} {bc : Nat} {fw : Int} {bst : List StandV}
theorem SvM.more (h : SvM w0 w v gk ck pp pc P wp wcap wide hp hc high plp plc all K np nc T bp bc fw bst) {w' : World} (he : Ext w w') : SvM w0 w' v gk ck pp pc P wp wcap wide hp hc high plp plc all K np nc T bp bc fw bst :=
  ⟨h.ext.trans he, h.low, h.vk, h.blk.ext he, h.tak.ext he, h.ckl, h.kl, h.per, h.wid, h.hig, h.pla.ext he, h.pln, own_ext he h.now, own_ext he h.bes, h.far⟩
theorem SvM.nlen (h : SvM w0 w v gk ck pp pc P wp wcap wide hp hc high plp plc all K np nc T bp bc fw bst) (hl : T.length ≤ 1000) : Slc 3 staC w np T.length nc T := by
  obtain ⟨p, c, e, hS⟩ := slc_of_own staC_len h.now (by decide) (by omega)
  cases e
  exact hS
theorem SvM.read (h : SvM w0 w v gk ck pp pc P wp wcap wide hp hc high plp plc all K np nc T bp bc fw bst) (hl : T.length ≤ 1000) : SvR w v pp pc P wp wcap wide hp hc high np nc T (.slice plp all.length plc) (.slice (some ⟨gk, 0, none⟩) all.length ck) (.slice bp bst.length bc) fw :=
  ⟨h.blk, h.per.ext h.ext, h.wid.ext h.ext, h.hig.ext h.ext, h.nlen hl⟩
theorem own_block_ge {w : World} {base k n : Nat} {e : TypeId} {v : Value} {xs : List Value} (h : w.ownsRow base e k v n xs) {g : Nat} (hg : v.ownBlock = some g) : base ≤ g ∧ g < w.heap.size := by
  rcases h.2 with ⟨rfl, _⟩ | ⟨b, cap, cur, rfl, hb, h3, _⟩
  · simp [Value.ownBlock] at hg
  · have : b = g := by simpa [Value.ownBlock] using hg
    subst this
    exact ⟨hb, (Array.getElem?_eq_some_iff.1 h3).1⟩
theorem slc_keep {α : Type} {k : Nat} {enc : α → List Value} {w w' : World} {p : Option Addr} {n c : Nat} {xs : List α} (h : Slc k enc w p n c xs) (hs : w.heap.size ≤ w'.heap.size) (hk : ∀ a, p = some a → w'.heap[a.block]? = w.heap[a.block]?) : Slc k enc w' p n c xs := by
  obtain ⟨⟨h1, h2, h3⟩, h4, h5, h6⟩ := h
  refine ⟨⟨h1, h2, fun hn => ?_⟩, h4, h5, fun a ha => ?_⟩
  · obtain ⟨b, off, e, hb, hE⟩ := h3 hn
    refine ⟨b, off, e, Nat.lt_of_lt_of_le hb hs, fun i x hx j u hu => ?_⟩
    rw [← hE i x hx j u hu]
    exact World.cell?_of_block (w := w) (a := ⟨b, off + i * k + j, none⟩) (hk ⟨b, off, none⟩ e)
  · obtain ⟨b, off, e, hb⟩ := h6 a ha
    exact ⟨b, off, e, Nat.lt_of_lt_of_le hb hs⟩
theorem SvM.app (h : SvM w0 w v gk ck pp pc P wp wcap wide hp hc high plp plc all K np nc T bp bc fw bst) {x : StandV} {b1 c1 : Nat} {w6 : World}
    (ho : w6.ownsRow (gk + 1) 46 3 (.slice (some ⟨b1, 0, none⟩) (T.length + 1) c1) (T.length + 1) (T.flatMap staC ++ staC x)) (hg : w.grownBy w6 (Value.slice np T.length nc).ownBlock) (hl : w.heap.size ≤ b1 ∨ np = some ⟨b1, 0, none⟩) :
    SvM w0 (w6.setCell ⟨v, 5, none⟩ (.slice (some ⟨b1, 0, none⟩) (T.length + 1) c1)) v gk ck pp pc P wp wcap wide hp hc high plp plc all K (some ⟨b1, 0, none⟩) c1 (T ++ [x]) bp bc fw bst := by
  have hlow := h.low
  have hvk := h.vk
  have hob : ∀ g, (Value.slice np T.length nc).ownBlock = some g → gk + 1 ≤ g := fun g hg => (own_block_ge h.now hg).1
  have hsz := hg.size
  have hb1 := (ho.lt b1 rfl).1
  have hne : (Value.slice np T.length nc).ownBlock ≠ some v := fun e => by have := hob v e; omega
  have hnk : (Value.slice np T.length nc).ownBlock ≠ some gk := fun e => by have := hob gk e; omega
  have hbs : ∀ b, bp = some b → (Value.slice np T.length nc).ownBlock ≠ some b.block := fun b hb e => by
    cases np with
    | none => simp [Value.ownBlock] at e
    | some a => exact h.far a b rfl hb (by simpa [Value.ownBlock] using e)
  have hblt : ∀ b, bp = some b → b.block < w.heap.size := fun b hb => by
    subst hb
    exact (own_block_ge h.bes (g := b.block) (by simp [Value.ownBlock])).2
  have hV : Blk w6 v 77 _ := (hg.block v h.blk.lt fun e => hne e.symm).trans h.blk
  have hK : Blk w6 gk 4 _ := (hg.block gk h.tak.lt fun e => hnk e.symm).trans h.tak
  have hext : Ext w0 w6 := h.ext.grown hg fun g hgg => by have := hob g hgg; have := h.ext.size; omega
  have hE : ∀ j, j ≠ v → (w6.setCell ⟨v, 5, none⟩ (.slice (some ⟨b1, 0, none⟩) (T.length + 1) c1)).heap[j]? = w6.heap[j]? := fun j hj => Below.heap_setCell w6 _ _ j hj
  have hbe6 : w6.ownsRow (gk + 1) 46 3 (.slice bp bst.length bc) bst.length (bst.flatMap staC) := h.bes.kept hg (by
    cases bp with
    | none => exact .inl (by simp [Value.ownBlock])
    | some b => exact .inr fun e => hbs b rfl (by simpa [Value.ownBlock] using e.symm))
  refine ⟨hext.setCell (by simp only; omega) _, h.low, h.vk, ?_, hK.far (by simp only; omega) _, h.ckl, h.kl, h.per, h.wid, h.hig, ?_, h.pln, ?_, ?_, ?_⟩
  · have := (hV.set_ 5 (.slice (some ⟨b1, 0, none⟩) (T.length + 1) c1)).cast (cs' := #[.slice pp P.length pc, .slice wp wide.length wcap, .slice hp high.length hc, .slice plp all.length plc, .slice (some ⟨gk, 0, none⟩) all.length ck, .slice (some ⟨b1, 0, none⟩) (T ++ [x]).length c1, .slice bp bst.length bc, .int .i64 fw]) (by simp)
    exact this
  · refine slc_keep h.pla (by simpa using hsz) fun a ha => ?_
    obtain ⟨k1, k2⟩ := h.pln a ha
    rw [hE _ k1]
    obtain ⟨b, off, e, hb⟩ := h.pla.2.2.2 a ha
    subst e
    exact hg.block _ hb fun e => by have := hob b e.symm; simp only at k2; omega
  · rw [List.length_append, List.length_singleton, flat_snoc]
    exact ho.kept (grown_set w6 ⟨v, 5, none⟩ _) (.inr fun e => by
      have e2 : v = b1 := by simpa [Value.ownBlock] using e.symm
      omega)
  · refine hbe6.kept (grown_set w6 ⟨v, 5, none⟩ _) ?_
    cases hbp : (Value.slice bp bst.length bc).ownBlock with
    | none => exact .inl rfl
    | some g =>
      have := (own_block_ge h.bes hbp).1
      exact .inr fun e => by
        have e2 : g = v := by simpa using e
        omega
  · intro a b ha hb
    cases ha
    rcases hl with hl | hl
    · have := hblt b hb
      simp only
      omega
    · exact h.far _ b hl hb
end
end Go.Proofs.YtfbegdcmnfkhgaaGreatDoor
