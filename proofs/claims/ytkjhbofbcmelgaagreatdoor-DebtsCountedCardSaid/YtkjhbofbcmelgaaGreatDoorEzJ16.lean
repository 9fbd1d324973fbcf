/- Without the refused slips all is as it was: plain. Conditions: as each theorem says. What is in, counted and seen: plain. Conditions: as each theorem says. An own map with any keys and any values; a loop over it in any order. Conditions: as each theorem says. -/
import Derived.Test.YtkjhbofbcmelgaaGreatDoorEzJ15
import Derived.Test.YtkjhbofbcmelgaaGreatDoorEzJ14
import Derived.Test.YtkjhbofbcmelgaaGreatDoorEzJ8
import Derived.Test.YtkjhbofbcmelgaaGreatDoorEzJ3
import Derived.Maps.OwnSet
import Derived.Maps.RangeWalk
import Derived.Maps.Views
import Derived.DeepKeys3
set_option linter.unusedSimpArgs false
set_option linter.unusedVariables false
namespace Go.Proofs.YtkjhbofbcmelgaaGreatDoor
open Go Go.RowKit Go.Sort
theorem slipD_same {T : List TitleV} {r : LendR} {L : LibS} {x : SlipV} (h : (slipD T r L x).2 ≠ 0) : (slipD T r L x).1 = L := by
 unfold slipD lendD at h ⊢
 repeat' split at h
 all_goals first | exact absurd rfl h | (simp only [*, if_true, if_false] at *)
 all_goals first | rfl | simp [*]
abbrev getS (d : List SlipV) (i : Nat) : SlipV := d.getD i default
def ltA (a b : SlipV) : Prop := a.at_ < b.at_ ∨ (a.at_ = b.at_ ∧ sliLt a b)
theorem ltA_asym {a b : SlipV} (h : ltA a b) (k : ltA b a) : False := by
 rcases h with h | ⟨h, h'⟩ <;> rcases k with k | ⟨k, k'⟩
 ·omega
 ·omega
 ·omega
 ·exact sliLt_asym h' k'
theorem ord_ltA {d : List SlipV} (hd : d.Pairwise sliLt) (t : Int) {is : List Nat} (hs : is.Sublist (ordF d t)) : (is.map (getS d)).Pairwise ltA := by
 rw [List.pairwise_map]
 have h1 := (ord_rise d t).sublist hs
 have h2 : is.Pairwise fun a b => a < d.length ∧ b < d.length := by
  refine List.pairwise_iff_getElem.2 fun i j hi hj _ => ⟨?_, ?_⟩
  ·exact (mem_ord.1 (hs.subset (List.getElem_mem hi))).1
  ·exact (mem_ord.1 (hs.subset (List.getElem_mem hj))).1
 refine (h1.and h2).imp fun {a b} h => ?_
 obtain ⟨h, ha, hb⟩ := h
 rcases h with h | ⟨h, h'⟩
 ·exact .inl h
 ·refine .inr ⟨h, ?_⟩
  have := List.pairwise_iff_getElem.1 hd a b ha hb h'
  simpa [getS, List.getD_eq_getElem?_getD, List.getElem?_eq_getElem ha, List.getElem?_eq_getElem hb] using this
/-! ### which slips are refused -/
end Go.Proofs.YtkjhbofbcmelgaaGreatDoor
namespace Go.Proofs.YtkjhbofbcmelgaaGreatDoor
open Go Go.RowKit Go.Sort
instance memDecI (a : IdV) (l : List IdV) : Decidable (a ∈ l) := decidable_of_iff ((l.any fun z => decide (z = a)) = true) (by simp)
abbrev DiffT (T : List TitleV) : Prop := T.Pairwise fun a b => a.piece ≠ b.piece
theorem TitlesOk.diff {T : List TitleV} (h : TitlesOk T) : DiffT T := h.rise.imp fun {a b} hl e => by
 rw [e, cmpS_refl] at hl
 cases hl
theorem titleOf_mem {T : List TitleV} (h : DiffT T) {t : TitleV} (ht : t ∈ T) : titleOf T t.piece = some t := by
 induction T with
 | nil => cases ht
 | cons a T ih =>
   obtain ⟨h1, h2⟩ := List.pairwise_cons.1 h
   unfold titleOf
   by_cases e : a.piece = t.piece
   ·rcases List.mem_cons.1 ht with rfl | ht
    ·simp
    ·exact absurd e (h1 t ht)
   ·rw [List.find?_cons_of_neg (by simpa using e)]
    rcases List.mem_cons.1 ht with rfl | ht
    ·exact absurd rfl e
    ·exact ih h2 ht
theorem titleOf_get {T : List TitleV} {p : ByteArray} {t : TitleV} (h : titleOf T p = some t) : t ∈ T ∧ t.piece = p := by
 unfold titleOf at h
 exact ⟨List.mem_of_find?_eq_some h, by simpa using List.find?_some h⟩
/-- All copies of a title; all copies. -/
def nosT (t : TitleV) : List IdV := (List.range t.owned.toNat).map fun i => (t.piece, ((i + 1 : Nat) : Int))
def idsT (T : List TitleV) : List IdV := T.flatMap nosT
def inP (L : LibS) (k : IdV) : Bool := decide (L.at_ k = inW)
def insT (T : List TitleV) (L : LibS) : List IdV := (idsT T).filter (inP L)
theorem mem_nos {t : TitleV} {k : IdV} (h : k ∈ nosT t) : k.1 = t.piece ∧ 1 ≤ k.2 ∧ k.2 ≤ t.owned := by
 unfold nosT at h
 obtain ⟨i, hi, rfl⟩ := List.mem_map.1 h
 rw [List.mem_range] at hi
 exact ⟨rfl, by simp; omega, by simp; omega⟩
theorem nos_nodup (t : TitleV) : (nosT t).Nodup := by
 unfold nosT
 refine List.pairwise_map.2 ((List.nodup_range).imp fun {a b} hab e => hab ?_)
 have := congrArg Prod.snd e
 simp at this
 omega
theorem ids_nodup {T : List TitleV} (h : DiffT T) : (idsT T).Nodup := by
 induction T with
 | nil => exact List.Pairwise.nil
 | cons a T ih =>
   obtain ⟨h1, h2⟩ := List.pairwise_cons.1 h
   have e : idsT (a :: T) = nosT a ++ idsT T := rfl
   rw [e]
   refine List.nodup_append.2 ⟨nos_nodup a, ih h2, fun x hx y hy e => ?_⟩
   subst e
   obtain ⟨t, ht, hxt⟩ := List.mem_flatMap.1 hy
   exact h1 t ht ((mem_nos hx).1.symm.trans (mem_nos hxt).1)
theorem ids_copy {T : List TitleV} (h : TitlesOk T) {k : IdV} (hk : k ∈ idsT T) : (∃ t, titleOf T k.1 = some t) ∧ isCopyT T k = true ∧ 1 ≤ k.2 ∧ k.2 ≤ 500 ∧ keyB k.1 = true := by
 obtain ⟨t, ht, hkt⟩ := List.mem_flatMap.1 hk
 obtain ⟨e, h1, h2⟩ := mem_nos hkt
 obtain ⟨o1, o2, o3, -⟩ := h.one t ht
 have hT := titleOf_mem h.diff ht
 rw [← e] at hT
 refine ⟨⟨t, hT⟩, ?_, h1, by omega, by rw [e]; exact o1⟩
 unfold isCopyT
 rw [hT]
 simp [outB]
 omega
def pairOf (k : IdV) : ByteArray × ByteArray := (k.1, itoaL k.2)
/-- The copies that somebody saw, behind what is wrong. -/
def seenF (T : List TitleV) : List IdV → List (ByteArray × ByteArray) → List IdV × Int
 | out, [] => (out, 0)
 | out, x :: r => if titleOf T x.1 = none then ([],8) else if numOk 4 x.2 = false then ([],9) else if isCopyT T (x.1, numV x.2) = false then ([],8) else if (x.1, numV x.2) ∈ out then ([],6) else seenF T (out ++ [(x.1, numV x.2)]) r
def missL (T : List TitleV) (L : LibS) (C : List IdV) : List (ByteArray × ByteArray) := ((idsT T).filter fun k => inP L k && decide (k ∉ C)).map pairOf
def wrongL (L : LibS) (C : List IdV) : List (ByteArray × ByteArray) := (C.filter fun k => !inP L k).map pairOf
theorem num_read4 {n : Nat} (h : n < 10000) : numOk 4 (itoaL n) = true ∧ numV (itoaL n) = n := num_readM (m := 4) (by omega) (by decide)
theorem seen_all {T : List TitleV} (h : TitlesOk T) : ∀ (r out : List IdV), (∀ k ∈ r, k ∈ idsT T) → (out ++ r).Nodup → seenF T out (r.map pairOf) = (out ++ r, 0)
 | [], out, _, _ => by simp [seenF]
 | k :: r, out, hm, hn => by
   obtain ⟨⟨t, ht⟩, h2, h3, h4, -⟩ := ids_copy h (hm k List.mem_cons_self)
   have hk : ((k.2.toNat : Nat) : Int) = k.2 := by omega
   have h5 := num_read4 (n := k.2.toNat) (by omega)
   rw [hk] at h5
   obtain ⟨h5, h6⟩ := h5
   have e : (pairOf k).1 = k.1 := rfl
   have e2 : (pairOf k).2 = itoaL k.2 := rfl
   have hnk : k ∉ out := fun hk => by
    have := (List.nodup_append.1 hn).2.2 k hk k List.mem_cons_self
    exact this rfl
   rw [List.map_cons, seenF, e, e2, ht, if_neg (by simp), h5, if_neg (by simp), h6, show ((k.1, k.2) : IdV) = k from rfl, h2, if_neg (by simp), if_neg hnk, seen_all h r (out ++ [k]) (fun z hz => hm z (List.mem_cons_of_mem _ hz)) (by simpa using hn)]
   simp
theorem counted {T : List TitleV} (h : TitlesOk T) (L : LibS) : missL T L [] = (insT T L).map pairOf ∧ seenF T [] ((insT T L).map pairOf) = (insT T L, 0) ∧ missL T L (insT T L) = [] ∧ wrongL L (insT T L) = [] := by
 have hn : (insT T L).Nodup := List.Pairwise.filter _ (ids_nodup h.diff)
 refine ⟨?_, ?_, ?_, ?_⟩
 ·unfold missL insT
  congr 1
  refine List.filter_congr fun k _ => by simp
 ·have := seen_all h (insT T L) [] (fun k hk => (List.mem_filter.1 hk).1) (by simpa using hn)
  simpa using this
 ·unfold missL
  rw [List.filter_eq_nil_iff.2, List.map_nil]
  intro k hk
  simp only [Bool.and_eq_true, decide_eq_true_eq, not_and, Decidable.not_not]
  exact fun hi => List.mem_filter.2 ⟨hk, hi⟩
 ·unfold wrongL
  rw [List.filter_eq_nil_iff.2, List.map_nil]
  intro k hk
  rw [(List.mem_filter.1 hk).2]
  simp
end Go.Proofs.YtkjhbofbcmelgaaGreatDoor
namespace Go.Proofs.YtkjhbofbcmelgaaGreatDoor
open Go Go.RowKit Go.Maps
theorem ownv_sized {P : Program} {k : TypeId} {R : Value → Option (DataW Unit × List MemPlace)} {w : World} {b n : Nat} {D : DataW Unit} (h : w.ownsMap P k R b n D) : w.ownsMap P k R b (Maps.size D) D := by
 obtain ⟨es, clock, hb, F, _, rfl⟩ := h
 exact ⟨es, clock, hb, F, by simp [Maps.size, length_sorted], rfl⟩
def intRd : Value → Option (DataW Unit × List MemPlace)
 | .int .i64 a => some (.lit (.int .i64 a), [])
 | _ => none
def boolRd : Value → Option (DataW Unit × List MemPlace)
 | .bool a => some (.lit (.bool a), [])
 | _ => none
/-- A kind of map: its keys, its values. -/
structure KMap (P : Program) (κ ν : Type) where
 kt : TypeId
 mt : TypeId
 vt : TypeId
 kv : κ → Value
 ok : κ → Prop
 val : ν → Value
 dat : ν → DataW Unit
 rd : Value → Option (DataW Unit × List MemPlace)
 zero : ν
 keyed : Keyed P kt
 key : ∀ k, ok k → ∃ l, keyOf P kt (kv k) = some l
 inj : ∀ a b, ok a → ok b → kv a = kv b → a = b
 rd_mk : ∀ v, rd (val v) = some (dat v, [])
 rd_inv : ∀ u v ps, rd u = some (dat v, ps) → u = val v
 und : P.underlying mt = some (.map kt vt)
 zer : ∀ w, (zeroValue vt).run P w = .ok (val zero) w
section
variable {P : Program} {κ ν : Type} {M : KMap P κ ν}
/-- What an own map with n entries at most holds. -/
def OwnK (M : KMap P κ ν) (w : World) (b n : Nat) (f : κ → Option ν) : Prop :=
 ∃ D : DataW Unit, w.ownsMap P M.kt M.rd b (Maps.size D) D ∧ Maps.Tidy D ∧ (∀ k l, M.ok k → keyOf P M.kt (M.kv k) = some l → Maps.has D l = (f k).isSome) ∧
  (∀ k l v, M.ok k → keyOf P M.kt (M.kv k) = some l → f k = some v → ∀ z, D.atKey l z = M.dat v) ∧ Maps.size D ≤ n
def updK [DecidableEq κ] (f : κ → Option ν) (k : κ) (v : ν) : κ → Option ν := fun q => if q = k then some v else f q
theorem KMap.lit_ne {a b : κ} (h : M.ok a) (h' : M.ok b) {la lb : Lit} (ha : keyOf P M.kt (M.kv a) = some la) (hb : keyOf P M.kt (M.kv b) = some lb) (hne : a ≠ b) : la ≠ lb := fun e => by
 subst e
 exact hne (M.inj a b h h' (M.keyed.inj ha hb))
theorem OwnK.made (w : World) : OwnK M (w.alloc (.map #[] 0)) w.heap.size 0 (fun _ => none) :=
 ⟨.map [], World.ownsMap_made w _ _ _, tidy_empty, (fun _ _ _ _ => rfl), (fun k l v _ _ h => by cases h), by simp [Maps.size]⟩
theorem OwnK.lt {w : World} {b n : Nat} {f : κ → Option ν} (h : OwnK M w b n f) : b < w.heap.size := by
 obtain ⟨D, hD, -⟩ := h
 exact hD.lt
theorem OwnK.le {w : World} {b n m : Nat} {f : κ → Option ν} (h : OwnK M w b n f) (hnm : n ≤ m) : OwnK M w b m f := by
 obtain ⟨D, h1, h2, h3, h4, h5⟩ := h
 exact ⟨D, h1, h2, h3, h4, Nat.le_trans h5 hnm⟩
theorem OwnK.grown {w w' : World} {b n : Nat} {f : κ → Option ν} (h : OwnK M w b n f) {row : Option Nat} (hg : w.grownBy w' row) (hne : some b ≠ row) : OwnK M w' b n f := by
 obtain ⟨D, hD, h2⟩ := h
 exact ⟨D, hD.kept hg hne, h2⟩
theorem OwnK.ext {w w' : World} {b n : Nat} {f : κ → Option ν} (h : OwnK M w b n f) (he : Ext w w') : OwnK M w' b n f :=
 h.grown (row := none) ⟨he.os, he.tape, he.output, he.size, fun k hk _ => he.block k hk⟩ (by simp)
theorem OwnK.atk {f : κ → Option ν} {D : DataW Unit} (h1 : ∀ k l, M.ok k → keyOf P M.kt (M.kv k) = some l → Maps.has D l = (f k).isSome) (h2 : ∀ k l v, M.ok k → keyOf P M.kt (M.kv k) = some l → f k = some v → ∀ z, D.atKey l z = M.dat v) {k : κ} {l : Lit} (hk : M.ok k) (hl : keyOf P M.kt (M.kv k) = some l) :
 D.atKey l (M.dat M.zero) = M.dat ((f k).getD M.zero) := by
 cases hf : f k with
 | none => exact atKey_of_not_has (by rw [h1 k l hk hl, hf]; rfl) _
 | some v => exact h2 k l v hk hl hf _
theorem OwnK.look_ok {w : World} {b n : Nat} {f : κ → Option ν} (h : OwnK M w b n f) {k : κ} (hk : M.ok k) :
 (Instr.lookup M.mt (.map (some b)) (M.kv k) true).run P w = .ok (.tuple #[M.val ((f k).getD M.zero), .bool (f k).isSome]) w := by
 obtain ⟨D, hD, hT, h1, h2, h3⟩ := h
 obtain ⟨l, hl⟩ := M.key k hk
 obtain ⟨v, ps, hrun, hv⟩ := hD.look_ok M.keyed M.und (M.zer w) (M.rd_mk M.zero) hl
 rw [OwnK.atk h1 h2 hk hl] at hv
 rw [hrun, M.rd_inv _ _ _ hv, h1 k l hk hl]
theorem OwnK.look {w : World} {b n : Nat} {f : κ → Option ν} (h : OwnK M w b n f) {k : κ} (hk : M.ok k) :
 (Instr.lookup M.mt (.map (some b)) (M.kv k) false).run P w = .ok (M.val ((f k).getD M.zero)) w := by
 obtain ⟨D, hD, hT, h1, h2, h3⟩ := h
 obtain ⟨l, hl⟩ := M.key k hk
 obtain ⟨v, ps, hrun, hv⟩ := hD.lookup M.keyed M.und (M.zer w) (M.rd_mk M.zero) hl
 rw [OwnK.atk h1 h2 hk hl] at hv
 rw [hrun, M.rd_inv _ _ _ hv]
theorem OwnK.put1 [DecidableEq κ] {w : World} {b n : Nat} {f : κ → Option ν} (h : OwnK M w b n f) {k : κ} (hk : M.ok k) (hn : n ≤ 1000000000000000000) (v : ν) :
 ∃ w', (Instr.mapUpdate M.mt (.map (some b)) (M.kv k) (M.val v)).run P w = .ok () w' ∧ OwnK M w' b (if (f k).isSome then n else n + 1) (updK f k v) ∧ w.grownBy w' (some b) := by
 obtain ⟨D, hD, hT, h1, h2, h3⟩ := h
 obtain ⟨l, hl⟩ := M.key k hk
 have hil := M.keyed.key hl
 obtain ⟨w', hrun, hD', hg⟩ := hD.update M.keyed M.und (by unfold maxLen; omega) hl (M.rd_mk v)
 refine ⟨w', hrun, ⟨_, ownv_sized hD', hT.put hil _, fun q lq hq hlq => ?_, fun q lq u hq hlq hu z => ?_, ?_⟩, hg⟩
 ·unfold updK
  by_cases e : q = k
  ·subst e
   have : lq = l := Option.some.inj (hlq.symm.trans hl)
   subst this
   rw [if_pos rfl, has_put_same hT.isMap hil]; rfl
  ·rw [if_neg e, has_put_other (KMap.lit_ne hq hk hlq hl e)]; exact h1 q lq hq hlq
 ·unfold updK at hu
  by_cases e : q = k
  ·subst e
   have : lq = l := Option.some.inj (hlq.symm.trans hl)
   subst this
   rw [if_pos rfl] at hu; cases hu; exact atKey_put_same hT.isMap hil _ _
  ·rw [if_neg e] at hu; rw [atKey_put_other (KMap.lit_ne hq hk hlq hl e)]; exact h2 q lq u hq hlq hu z
 ·rw [size_put hT, h1 k l hk hl]
  split <;> omega
theorem OwnK.put [DecidableEq κ] {w : World} {b n : Nat} {f : κ → Option ν} (h : OwnK M w b n f) {k : κ} (hk : M.ok k) (hn : n ≤ 1000000000000000000) (v : ν) :
 ∃ w', (Instr.mapUpdate M.mt (.map (some b)) (M.kv k) (M.val v)).run P w = .ok () w' ∧ OwnK M w' b (n + 1) (updK f k v) ∧ w.grownBy w' (some b) := by
 obtain ⟨w', h1, h2, h3⟩ := h.put1 hk hn v
 exact ⟨w', h1, h2.le (by split <;> omega), h3⟩
end
section
variable {P : Program} {κ ν : Type} {M : KMap P κ ν}
/-- A map's content is a function's. -/
def Tells (M : KMap P κ ν) (D : DataW Unit) (f : κ → Option ν) : Prop :=
 Maps.Tidy D ∧ (∀ k l, M.ok k → keyOf P M.kt (M.kv k) = some l → Maps.has D l = (f k).isSome) ∧ (∀ k l v, M.ok k → keyOf P M.kt (M.kv k) = some l → f k = some v → ∀ z, D.atKey l z = M.dat v) ∧
  ∀ l, Maps.has D l = true → ∃ k, M.ok k ∧ keyOf P M.kt (M.kv k) = some l
def OwnX (M : KMap P κ ν) (w : World) (b n : Nat) (f : κ → Option ν) : Prop := ∃ D : DataW Unit, w.ownsMap P M.kt M.rd b n D ∧ Maps.size D = n ∧ Tells M D f
theorem OwnX.made (w : World) : OwnX M (w.alloc (.map #[] 0)) w.heap.size 0 (fun _ => none) :=
 ⟨.map [], World.ownsMap_made w _ _ _, by simp [Maps.size], tidy_empty, (fun _ _ _ _ => rfl), (fun k l v _ _ h => by cases h), (fun l h => by cases h)⟩
theorem OwnX.lt {w : World} {b n : Nat} {f : κ → Option ν} (h : OwnX M w b n f) : b < w.heap.size := by
 obtain ⟨D, hD, -⟩ := h
 exact hD.lt
theorem OwnX.grown {w w' : World} {b n : Nat} {f : κ → Option ν} (h : OwnX M w b n f) {row : Option Nat} (hg : w.grownBy w' row) (hne : some b ≠ row) : OwnX M w' b n f := by
 obtain ⟨D, hD, h2⟩ := h
 exact ⟨D, hD.kept hg hne, h2⟩
theorem OwnX.ext {w w' : World} {b n : Nat} {f : κ → Option ν} (h : OwnX M w b n f) (he : Ext w w') : OwnX M w' b n f :=
 h.grown (row := none) ⟨he.os, he.tape, he.output, he.size, fun k hk _ => he.block k hk⟩ (by simp)
theorem OwnX.put [DecidableEq κ] {w : World} {b n : Nat} {f : κ → Option ν} (h : OwnX M w b n f) {k : κ} (hk : M.ok k) (hn : n ≤ 1000000000000000000) (v : ν) :
 ∃ w', (Instr.mapUpdate M.mt (.map (some b)) (M.kv k) (M.val v)).run P w = .ok () w' ∧ OwnX M w' b (if (f k).isSome then n else n + 1) (updK f k v) ∧ w.grownBy w' (some b) := by
 obtain ⟨D, hD, hsz, hT, h1, h2, h4⟩ := h
 obtain ⟨l, hl⟩ := M.key k hk
 have hil := M.keyed.key hl
 obtain ⟨w', hrun, hD', hg⟩ := hD.update M.keyed M.und (by unfold maxLen; omega) hl (M.rd_mk v)
 have hsz' : Maps.size (D.put l (M.dat v)) = if (f k).isSome then n else n + 1 := by
  rw [size_put hT, h1 k l hk hl, hsz]
 refine ⟨w', hrun, ⟨_, by rw [← hsz']; exact ownv_sized hD', hsz', hT.put hil _, fun q lq hq hlq => ?_, fun q lq u hq hlq hu z => ?_, fun lq hlq => ?_⟩, hg⟩
 ·unfold updK
  by_cases e : q = k
  ·subst e
   have : lq = l := Option.some.inj (hlq.symm.trans hl)
   subst this
   rw [if_pos rfl, has_put_same hT.isMap hil]; rfl
  ·rw [if_neg e, has_put_other (KMap.lit_ne hq hk hlq hl e)]; exact h1 q lq hq hlq
 ·unfold updK at hu
  by_cases e : q = k
  ·subst e
   have : lq = l := Option.some.inj (hlq.symm.trans hl)
   subst this
   rw [if_pos rfl] at hu; cases hu; exact atKey_put_same hT.isMap hil _ _
  ·rw [if_neg e] at hu; rw [atKey_put_other (KMap.lit_ne hq hk hlq hl e)]; exact h2 q lq u hq hlq hu z
 ·by_cases e : lq = l
  ·exact ⟨k, hk, by rw [hl, e]⟩
  ·rw [has_put_other e] at hlq
   exact h4 lq hlq
/-- A loop over an own map: which keys were visited, how many are still to come. -/
def RngX (M : KMap P κ ν) (w : World) (b r n : Nat) (f : κ → Option ν) (ks : List κ) (cnt : Nat) : Prop :=
 ∃ (D : DataW Unit) (left : Lit → Bool), w.ranges P M.kt M.rd b r n D left cnt ∧ Maps.size D = n ∧ Tells M D f ∧ (∀ l, left l = true → Maps.has D l = true) ∧
  (∀ k l, M.ok k → keyOf P M.kt (M.kv k) = some l → (k ∈ ks ↔ (Maps.has D l = true ∧ left l = false))) ∧ (∀ k ∈ ks, M.ok k) ∧ ks.length + cnt ≤ n
theorem RngX.kept {w w' : World} {b r n cnt : Nat} {f : κ → Option ν} {ks : List κ} {row : Option Nat} (h : RngX M w b r n f ks cnt) (hg : w.grownBy w' row) (hb : some b ≠ row) (hr : some r ≠ row) : RngX M w' b r n f ks cnt := by
 obtain ⟨D, left, h1, h2⟩ := h
 exact ⟨D, left, h1.kept hg hb hr, h2⟩
theorem RngX.at_ {w w' : World} {b r n cnt : Nat} {f : κ → Option ν} {ks : List κ} (h : RngX M w b r n f ks cnt) (hb : w'.heap[b]? = w.heap[b]?) (hr : w'.heap[r]? = w.heap[r]?) : RngX M w' b r n f ks cnt := by
 obtain ⟨D, left, ⟨es, clock, since, seen, c0, a1, a2, a3, a4, a5, a6⟩, h2⟩ := h
 exact ⟨D, left, ⟨es, clock, since, seen, c0, hb.trans a1, a2, a3, a4, hr.trans a5, a6⟩, h2⟩
theorem RngX.lt0 {w : World} {b r n cnt : Nat} {f : κ → Option ν} {ks : List κ} (h : RngX M w b r n f ks cnt) : r < w.heap.size ∧ b < w.heap.size := by
 obtain ⟨D, left, h1, -⟩ := h
 exact ⟨h1.lt, h1.owns.lt⟩
theorem RngX.ext {w w' : World} {b r n cnt : Nat} {f : κ → Option ν} {ks : List κ} (h : RngX M w b r n f ks cnt) (he : Ext w w') : RngX M w' b r n f ks cnt :=
 h.at_ (he.block b h.lt0.2) (he.block r h.lt0.1)
theorem RngX.left_eq {w : World} {b r n cnt : Nat} {f : κ → Option ν} {ks : List κ} (h : RngX M w b r n f ks cnt) : w.rangeLeft b r = cnt := by
 obtain ⟨D, left, h1, -⟩ := h
 exact h1.left_eq
theorem RngX.lt {w : World} {b r n cnt : Nat} {f : κ → Option ν} {ks : List κ} (h : RngX M w b r n f ks cnt) : r < w.heap.size ∧ b < w.heap.size := by
 obtain ⟨D, left, h1, -⟩ := h
 exact ⟨h1.lt, h1.owns.lt⟩
theorem RngX.oks {w : World} {b r n cnt : Nat} {f : κ → Option ν} {ks : List κ} (h : RngX M w b r n f ks cnt) : (∀ k ∈ ks, M.ok k) ∧ ks.length + cnt ≤ n := by
 obtain ⟨D, left, _, _, _, _, _, h1, h2⟩ := h
 exact ⟨h1, h2⟩
theorem RngX.owns {w : World} {b r n cnt : Nat} {f : κ → Option ν} {ks : List κ} (h : RngX M w b r n f ks cnt) : OwnX M w b n f := by
 obtain ⟨D, left, h1, h2, h3, -⟩ := h
 exact ⟨D, h1.owns, h2, h3⟩
variable (w : World) {ops : Array Oper} {rest : List Oper} {o : Oper} {a : Act} {Q : Exit → Act → World → Prop}
theorem wpList_range_X (hg : o.guard = none) (m : Operand) (hop : o.op = Op.range M.mt m) (b n : Nat) (f : κ → Option ν) (hm : a.eval m = .map (some b)) (h : OwnX M w b n f)
 (hK : ∀ w', RngX M w' b w.heap.size n f [] n → w.grownBy w' none → w'.heap.size = w.heap.size + 1 → wpList P ops Q rest (a.put o.dst (.pointer (some ⟨w.heap.size, 0, none⟩))) w') : wpList P ops Q (o :: rest) a w := by
 obtain ⟨D, hD, hsz, hT⟩ := h
 refine wpList_range_own w hg m M.mt hop M.kt M.vt M.keyed M.und M.rd b n D hm hD fun w' h1 h2 h3 => hK w' ⟨D, _, by rw [hsz] at h1; exact h1, hsz, hT, (fun l hl => hl), fun k l hk hl => ?_, (fun k hk => by cases hk), by simp⟩ h2 h3
 cases Maps.has D l <;> simp
end
theorem boolRd_inv {u : Value} {v : Bool} {ps : List MemPlace} (h : boolRd u = some (.lit (.bool v), ps)) : u = .bool v := by
 unfold boolRd at h
 split at h
 ·simp only [Option.some.injEq, Prod.mk.injEq, DataW.lit.injEq, Lit.bool.injEq] at h
  rw [h.1]
 ·cases h
theorem datI_inj (c d : Int) (h : (DataW.lit (H := Unit) (.int .i64 c)) = .lit (.int .i64 d)) : c = d := by
 simpa using h
theorem intRd_shape (v : Value) (y : DataW Unit × List MemPlace) (h : intRd v = some y) : ∃ c : Int, v = .int .i64 c := by
 unfold intRd at h
 split at h
 ·exact ⟨_, rfl⟩
 ·cases h
section
variable {P : Program} {κ ν : Type} {M : KMap P κ ν}
theorem OwnX.at_ {w w' : World} {b n : Nat} {f : κ → Option ν} (h : OwnX M w b n f) (hb : w'.heap[b]? = w.heap[b]?) : OwnX M w' b n f := by
 obtain ⟨D, ⟨es, clock, a1, a2⟩, h2⟩ := h
 exact ⟨D, ⟨es, clock, hb.trans a1, a2⟩, h2⟩
end
theorem own_mapX_ne {P : Program} {κ ν : Type} {M : KMap P κ ν} {w : World} {b n : Nat} {f : κ → Option ν} (h : OwnX M w b n f) {base k m : Nat} {e : TypeId} {v : Value} {xs : List Value} (ho : w.ownsRow base e k v m xs) : v.ownBlock ≠ some b := by
 obtain ⟨D, ⟨es, clock, hb, -⟩, -⟩ := h
 rcases ho.2 with ⟨rfl, _⟩ | ⟨g, cap, cur, rfl, _, h3, _⟩
 ·simp [Value.ownBlock]
 ·intro e1
  have e2 : g = b := by simpa [Value.ownBlock] using e1
  subst e2
  rw [h3] at hb
  cases hb
theorem own_at {w w' : World} {base k n : Nat} {e : TypeId} {v : Value} {xs : List Value} (h : w.ownsRow base e k v n xs) (hb : ∀ g, v.ownBlock = some g → w'.heap[g]? = w.heap[g]?) : w'.ownsRow base e k v n xs :=
 ⟨h.1, h.2.imp id fun ⟨g, cap, cur, hv, hg, hc, r⟩ => ⟨g, cap, cur, hv, hg, (hb g (by rw [hv]; rfl)).trans hc, r⟩⟩
section
variable {P : Program} {ops : Array Oper} {rest : List Oper} {o : Oper} {a : Act} {w : World} {Q : Exit → Act → World → Prop}
theorem wpList_putM (hg : o.guard = none) (m x y : Operand) (t : TypeId) (hop : o.op = Op.mapUpdate t m x y) (mv kv v : Value) (hm : a.eval m = mv) (hx : a.eval x = kv) (hy : a.eval y = v) (w' : World) (hrun : (Instr.mapUpdate t mv kv v).run P w = .ok () w')
 (hK : wpList P ops Q rest (a.put o.dst undef) w') : wpList P ops Q (o :: rest) a w := by
 refine wpList_plain hg fun K' hK' => ?_
 unfold Oper.wp
 simp [execOp, hop, hm, hx, hy, hrun, Result.andThen]
 exact hK' _ _ hK
theorem wpList_insM (hg : o.guard = none) (m x y : Operand) (t : TypeId) (hop : o.op = Op.insert t m x y) (mv kv v : Value) (hm : a.eval m = mv) (hx : a.eval x = kv) (hy : a.eval y = v) (w' : World) (hrun : (Instr.mapUpdate t mv kv v).run P w = .ok () w')
 (hK : wpList P ops Q rest (a.put o.dst undef) w') : wpList P ops Q (o :: rest) a w := by
 refine wpList_plain hg fun K' hK' => ?_
 unfold Oper.wp
 simp [execOp, hop, hm, hx, hy, hrun, Result.andThen]
 exact hK' _ _ hK
theorem wpList_lookM (hg : o.guard = none) (m x : Operand) (t : TypeId) (ok : Bool) (hop : o.op = Op.lookup t m x ok) (mv kv v : Value) (hm : a.eval m = mv) (hx : a.eval x = kv) (hrun : (Instr.lookup t mv kv ok).run P w = .ok v w)
 (hK : wpList P ops Q rest (a.put o.dst v) w) : wpList P ops Q (o :: rest) a w := by
 refine wpList_plain hg fun K' hK' => ?_
 unfold Oper.wp
 simp [execOp, hop, hm, hx, hrun, Result.andThen]
 exact hK' _ _ hK
end
end Go.Proofs.YtkjhbofbcmelgaaGreatDoor
