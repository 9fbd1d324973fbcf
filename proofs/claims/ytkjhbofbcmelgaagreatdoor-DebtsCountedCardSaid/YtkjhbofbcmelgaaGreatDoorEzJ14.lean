/- Slips in order; slips of two lists as one: plain. Conditions: as each theorem says. The text of slips, by both texts: what is written. Conditions: sizes. (Printed by gen_sle.py.) A line is read. Conditions: sizes. A text of slips is read, by copies. Conditions: sizes. Slips parted into two lists; two lists one behind the other. Conditions: sizes. A library of copies, as slips are followed: plain. Conditions: as each theorem says. -/
import Derived.Test.YtkjhbofbcmelgaaGreatDoorEzSlD
import Derived.Test.YtkjhbofbcmelgaaGreatDoorEzJ11
import Derived.Test.YtkjhbofbcmelgaaGreatDoorEzJ9
import Derived.Test.YtkjhbofbcmelgaaGreatDoorEzJ8
import Derived.Test.YtkjhbofbcmelgaaGreatDoorEzJ3
import Derived.Lib.AppendZerosOnto
import Derived.Deep.DeepAppendWide
set_option linter.unusedSimpArgs false
set_option linter.unusedVariables false
namespace Go.Proofs.YtkjhbofbcmelgaaGreatDoor
open Go Go.RowKit Go.Sort
theorem bytesB {a b : ByteArray} : (a.toList == b.toList) = true ↔ a = b := by
 rw [ByteArray.toList_eq, ByteArray.toList_eq]
 constructor
 ·intro h
  have := eq_of_beq h
  cases a; cases b
  simp only at this
  congr 1
  exact Array.toList_inj.1 this
 ·rintro rfl
  exact beq_self_eq_true _
theorem scanZ {n : Nat} {f : Nat → Int} (h : scanF n f = 0) : Zeros f n := by
 have hz : ∀ k, k ≤ n → Zeros f k := by
  intro k
  induction k with
  | zero => intro _ j hj; omega
  | succ k ih =>
    intro hk
    have hz := ih (by omega)
    refine hz.succ ?_
    rcases (inferInstance : Decidable (f k = 0)) with hn | hy
    ·have := scan_at (n := n) k (by omega) hz hn
     rw [h] at this
     exact this.symm
    ·exact hy
 exact hz n (Nat.le_refl _)
instance : DecidableEq SlipV := fun a b =>
 if h : a.by_ = b.by_ ∧ a.no = b.no ∧ a.at_ = b.at_ ∧ a.kind = b.kind ∧ a.piece = b.piece ∧ a.copy = b.copy ∧ a.singer = b.singer then
  .isTrue (by cases a; cases b; simp only at h; obtain ⟨rfl, rfl, rfl, rfl, rfl, rfl, rfl⟩ := h; rfl)
 else .isFalse fun e => h (by subst e; exact ⟨rfl, rfl, rfl, rfl, rfl, rfl, rfl⟩)
def sliLt (a b : SlipV) : Prop := cmpS a.by_ b.by_ = -1 ∨ (a.by_ = b.by_ ∧ a.no < b.no)
theorem sliLt_iff (a b : SlipV) : sliO a b < 0 ↔ sliLt a b := by
 unfold sliO sliLt orF
 rcases cmpS_three a.by_ b.by_ with h | h | h
 ·rw [h]; simp
 ·have e := cmpS_zero h
  rw [h]
  simp only [e, cmpS_refl]
  unfold orF
  by_cases h1 : a.no < b.no
  ·have : cmpZ a.no b.no = -1 := by unfold cmpZ; rw [if_pos h1]
   rw [this]; simp [h1]
  ·have : 0 ≤ cmpZ a.no b.no := by have h' : ¬ cmpZ a.no b.no < 0 := fun h' => h1 (cmpZ_lt.1 h'); omega
   simp only [if_pos]
   by_cases h2 : cmpZ a.no b.no = 0
   ·rw [h2]; simp [h1, orF]
   ·simp [h2, h1]; omega
 ·have hne : a.by_ ≠ b.by_ := fun e => by rw [e, cmpS_refl] at h; cases h
  rw [h]; simp [hne]
theorem sliLt_trans {a b c : SlipV} (h : sliLt a b) (k : sliLt b c) : sliLt a c := by
 rcases h with h | ⟨h, h'⟩ <;> rcases k with k | ⟨k, k'⟩
 ·exact .inl (cmpS_trans h k)
 ·exact .inl (k ▸ h)
 ·exact .inl (h ▸ k)
 ·exact .inr ⟨h.trans k, by omega⟩
theorem sliLt_asym {a b : SlipV} (h : sliLt a b) (k : sliLt b a) : False := by
 rcases sliLt_trans h k with e | ⟨_, e⟩
 ·rw [cmpS_refl] at e; cases e
 ·omega
theorem sliLt_key {a b : SlipV} (h : sliLt a b) : ¬ (a.by_ = b.by_ ∧ a.no = b.no) := fun ⟨e1, e2⟩ => by
 rcases h with h | ⟨_, h⟩
 ·rw [e1, cmpS_refl] at h; cases h
 ·omega
theorem sliLt_tri (a b : SlipV) : sliLt a b ∨ sliLt b a ∨ (a.by_ = b.by_ ∧ a.no = b.no) := by
 rcases cmpS_three a.by_ b.by_ with h | h | h
 ·exact .inl (.inl h)
 ·have e := cmpS_zero h
  rcases Int.lt_trichotomy a.no b.no with h1 | h1 | h1
  ·exact .inl (.inr ⟨e, h1⟩)
  ·exact .inr (.inr ⟨e, h1⟩)
  ·exact .inr (.inl (.inr ⟨e.symm, h1⟩))
 ·exact .inr (.inl (.inl (cmpS_anti h)))
def LateOk (x y : SlipV) : Prop := x.by_ = y.by_ → x.at_ ≤ y.at_
/-- Right slips. -/
structure RightS (V : List SlipV) : Prop where
 len : V.length ≤ 3000
 one : ∀ x ∈ V, slipE x = 0
 rise : V.Pairwise sliLt
 late : V.Pairwise LateOk
theorem pw_of_next {α : Type} {r : α → α → Prop} (ht : ∀ a b c, r a b → r b c → r a c) {V : List α} (h : ∀ i x y, V[i]? = some x → V[i + 1]? = some y → r x y) : ∀ (d i : Nat) (x y : α), V[i]? = some x → V[i + 1 + d]? = some y → r x y
 | 0, i, x, y, hx, hy => h i x y hx hy
 | d + 1, i, x, y, hx, hy => by
   have hl := (List.getElem?_eq_some_iff.1 hy).1
   have hz : V[i + 1 + d]? = some V[i + 1 + d] := List.getElem?_eq_getElem (by omega)
   exact ht _ _ _ (pw_of_next ht h d i x _ hx hz) (h (i + 1 + d) _ y hz (by rw [← hy]; congr 1))
theorem pw_get {α : Type} {r : α → α → Prop} {V : List α} (h : ∀ (d i : Nat) (x y : α), V[i]? = some x → V[i + 1 + d]? = some y → r x y) : V.Pairwise r := by
 rw [List.pairwise_iff_getElem]
 intro i j hi hj hij
 obtain ⟨d, rfl⟩ : ∃ d, j = i + 1 + d := ⟨j - (i + 1), by omega⟩
 exact h d i _ _ (List.getElem?_eq_getElem hi) (List.getElem?_eq_getElem hj)
theorem slipsF_right {V : List SlipV} (h : slipsF V = 0) : RightS V := by
 obtain ⟨hl, ho⟩ := slipsF_good h
 unfold slipsF at h
 rw [if_neg (by omega)] at h
 have hs : scanF V.length (chkSli V) = 0 := by
  refine Classical.byContradiction fun hne => ?_
  rw [if_neg hne] at h; exact hne h
 rw [if_pos hs] at h
 have hc := scanZ hs
 have ht := scanZ h
 have hn : ∀ i x y, V[i]? = some x → V[i + 1]? = some y → sliLt x y := fun i x y hx hy => by
  have h0 := hc (i + 1) (List.getElem?_eq_some_iff.1 hy).1
  unfold chkSli at h0
  rw [atL_of hy, Nat.add_sub_cancel, atL_of hx, if_pos (ho y (List.mem_of_getElem? hy))] at h0
  refine (sliLt_iff x y).1 ?_
  refine Classical.byContradiction fun hge => ?_
  rw [if_pos (by simp; omega)] at h0
  cases h0
 have hl1 : ∀ i x y, V[i]? = some x → V[i + 1]? = some y → LateOk x y := fun i x y hx hy e => by
  have h0 := ht (i + 1) (List.getElem?_eq_some_iff.1 hy).1
  unfold lateS at h0
  rw [atL_of hy, Nat.add_sub_cancel, atL_of hx] at h0
  refine Classical.byContradiction fun hge => ?_
  rw [if_pos (by simp [e]; omega)] at h0
  cases h0
 have hp := pw_of_next (r := sliLt) (fun _ _ _ h k => sliLt_trans h k) hn
 refine ⟨hl, ho, pw_get hp, pw_get fun d => ?_⟩
 induction d with
 | zero => exact fun i x y hx hy => hl1 i x y hx hy
 | succ d ih =>
   intro i x y hx hy e
   have hl := (List.getElem?_eq_some_iff.1 hy).1
   have hz : V[i + 1 + d]? = some V[i + 1 + d] := List.getElem?_eq_getElem (by omega)
   generalize V[i + 1 + d] = z at hz
   have h1 := hp d i x z hx hz
   have hy' : V[i + 1 + d + 1]? = some y := by rw [← hy]; congr 1
   have h2 := hn (i + 1 + d) z y hz hy'
   have e1 : x.by_ = z.by_ := by
    rcases h1 with h1 | ⟨h1, _⟩
    ·rcases h2 with h2 | ⟨h2, _⟩
     ·have := cmpS_trans h1 h2
      rw [e, cmpS_refl] at this; cases this
     ·rw [h2, ← e, cmpS_refl] at h1; cases h1
    ·exact h1
   have a1 := ih i x z hx hz e1
   have a2 := hl1 (i + 1 + d) z y hz hy' (e1.symm.trans e)
   omega
/-! ### slips of two lists as one -/
end Go.Proofs.YtkjhbofbcmelgaaGreatDoor
namespace Go.Proofs.YtkjhbofbcmelgaaGreatDoor
open Go Go.RowKit
end Go.Proofs.YtkjhbofbcmelgaaGreatDoor
namespace Go.Proofs.YtkjhbofbcmelgaaGreatDoor
open Go Go.RowKit
theorem results_rowT {P : Program} {fn : Func} {p q : Tmp} {ty : TypeId} (h : fn.results = #[.cell p ty, .tmp q]) (tmps : Array Value) (w : World) (g : Nat) (t : TypeId) (cs : Array Value) (fr : Nat × Nat) (d : TypeDesc)
 (hp : tmps.getD p undef = .pointer (some ⟨g, 0, none⟩)) (hg : w.heap[g]? = some (.cells cs t fr))
 (hu : P.underlying ty = some d) (hd : (match d with | .struct _ | .array _ _ => true | _ => false) = true) (hi : (P.info? ty).map (·.size) = some cs.size) (v : Value) (hq : tmps.getD q undef = v) :
 (results fn tmps).run P w = .ok (.tuple #[.agg cs, v]) w := by
 have hp' : tmps[p]?.getD undef = .pointer (some ⟨g, 0, none⟩) := by simpa using hp
 have hq' : tmps[q]?.getD undef = v := by simpa using hq
 simp [results, h, hp', hq', asAddr, run_loadVar_row w g t ty cs fr d hg hu hd hi]
end Go.Proofs.YtkjhbofbcmelgaaGreatDoor
namespace Go.Proofs.YtkjhbofbcmelgaaGreatDoor
open Go Go.RowKit
theorem sliInfo : (Tryz.prog.info? 101).map (fun i => (i.zero, i.size, i.bytes)) = some (some (.agg #[.string ⟨#[]⟩, .int .i64 0, .int .i64 0, .int .i64 0, .string ⟨#[]⟩, .int .i64 0, .string ⟨#[]⟩]), 7,80) := by kernel_rfl
end Go.Proofs.YtkjhbofbcmelgaaGreatDoor
namespace Go.Proofs.YtkjhbofbcmelgaaGreatDoor
open Go Go.RowKit Go.Lib
/-! ### parts -/
/-- The two parts as rows of their own that share no block. -/
def PartO (s k n : Nat) (V : List SlipV) (w : World) (e : Ending) (w' : World) : Prop := ∃ (p q : Option Addr) (c1 c2 : Nat) (A B : List SlipV), e = .returned (.tuple #[.slice p A.length c1, .slice q B.length c2]) ∧ w'.ownsRow w.heap.size 101 7 (.slice p A.length c1) A.length (A.flatMap slipC) ∧ w'.ownsRow w.heap.size 101 7 (.slice q B.length c2) B.length (B.flatMap slipC) ∧ A.length ≤ n ∧ B.length ≤ n ∧ A.Sublist V ∧ B.Sublist V ∧ (∀ x ∈ V, x ∈ A ∨ x ∈ B) ∧ (∀ g, (Value.slice p A.length c1).ownBlock = some g → (Value.slice q B.length c2).ownBlock ≠ some g) ∧ Str w' s (k + n) ∧ ExtS s w w'
def PartR (s k n : Nat) (V : List SlipV) (w : World) (e : Ending) (w' : World) : Prop := ∃ (p q : Option Addr) (n1 c1 n2 c2 : Nat) (A B : List SlipV), e = .returned (.tuple #[.slice p n1 c1, .slice q n2 c2]) ∧ Slc 7 slipC w' p n1 c1 A ∧ Slc 7 slipC w' q n2 c2 B ∧ n1 ≤ n ∧ n2 ≤ n ∧ A.Sublist V ∧ B.Sublist V ∧ (∀ x ∈ V, x ∈ A ∨ x ∈ B) ∧ (∀ a, p = some a → w.heap.size ≤ a.block) ∧ (∀ a, q = some a → w.heap.size ≤ a.block) ∧ Str w' s (k + n) ∧ ExtS s w w'
theorem PartO.r {s k n : Nat} {V : List SlipV} {w w' : World} {e : Ending} (h : PartO s k n V w e w') (hn : n ≤ 1000) : PartR s k n V w e w' := by
 obtain ⟨p1, p2, c1, c2, A, B, rfl, ho1, ho2, hA, hB, hsA, hsB, hAB, -, hS, hE⟩ := h
 obtain ⟨q1, d1, e1, hS1⟩ := slc_of_own slipC_len ho1 (by decide) (by omega)
 obtain ⟨q2, d2, e2, hS2⟩ := slc_of_own slipC_len ho2 (by decide) (by omega)
 cases e1
 cases e2
 exact ⟨p1, p2, _, c1, _, c2, A, B, rfl, hS1, hS2, hA, hB, hsA, hsB, hAB, (fun a ha => by subst ha; exact (ho1.lt a.block rfl).1), (fun a ha => by subst ha; exact (ho2.lt a.block rfl).1), hS, hE⟩
/-! ### one behind the other -/
end Go.Proofs.YtkjhbofbcmelgaaGreatDoor
namespace Go.Proofs.YtkjhbofbcmelgaaGreatDoor
open Go Go.RowKit Go.Sort
instance memDec (a : ByteArray) (l : List ByteArray) : Decidable (a ∈ l) := decidable_of_iff ((l.any fun z => decide (z = a)) = true) (by simp)
structure TitleV where
 piece : ByteArray
 owned : Int
 cost : Int
instance : Inhabited TitleV := ⟨⟨⟨#[]⟩, 0,0⟩⟩
def titleC (x : TitleV) : List Value := [.string x.piece, .int .i64 x.owned, .int .i64 x.cost]
theorem titleC_len (x : TitleV) : (titleC x).length = 3 := rfl
theorem titleC_one (x : TitleV) : ∀ u ∈ titleC x, u.oneCell' = true := by simp [titleC, Value.oneCell']
theorem Elems.title {w : World} {b off : Nat} {xs : List TitleV} (h : Elems 3 titleC w b off xs) {i : Nat} {x : TitleV} (hx : xs[i]? = some x) :
 w.cell? ⟨b, off + i * 3, none⟩ = some (.string x.piece) ∧ w.cell? ⟨b, off + i * 3 + 1, none⟩ = some (.int .i64 x.owned) ∧ w.cell? ⟨b, off + i * 3 + 2, none⟩ = some (.int .i64 x.cost) :=
 ⟨h i x hx 0 _ rfl, h i x hx 1 _ rfl, h i x hx 2 _ rfl⟩
def TitleV.Small (x : TitleV) : Prop := x.piece.size ≤ 1000 ∧ -1099511627776 ≤ x.owned ∧ x.owned ≤ 1099511627776 ∧ -1099511627776 ≤ x.cost ∧ x.cost ≤ 1099511627776
def chkTi (xs : List TitleV) (i : Nat) : Int :=
 if keyB (atL default xs i).piece then (if (inB (atL default xs i).owned 1 500 && inB (atL default xs i).cost 0 10000) = true then (if 0 < i && leB (atL default xs i).piece (atL default xs (i - 1)).piece then 7 else 0) else 1) else 5
def titlesF (xs : List TitleV) : Int := if 300 < xs.length then 2 else scanF xs.length (chkTi xs)
structure LendR where
 days : Int
 late : Int
 most : Int
 each : Int
def lendF (r : LendR) : Int := if (inB r.days 1 1000 && inB r.late 0 10000 && inB r.most 0 10000 && inB r.each 1 300) = true then 0 else 1
theorem less_cb : ∀ a b : List UInt8, Op.bytesLess a b = decide (Lib.compareBytes a b = -1)
 | [],[] => by simp [Op.bytesLess, Lib.compareBytes]
 | [], _ :: _ => by simp [Op.bytesLess, Lib.compareBytes]
 | _ :: _, [] => by simp [Op.bytesLess, Lib.compareBytes]
 | a :: x, b :: y => by
   have ih := less_cb x y
   unfold Lib.compareBytes
   simp only [Op.bytesLess]
   rw [ih]
   by_cases h1 : a < b
   ·have h1' : a.toNat < b.toNat := h1
    simp [h1, h1']
   ·have h1' : ¬ a.toNat < b.toNat := h1
    by_cases h2 : b < a
    ·have h2' : b.toNat < a.toNat := h2
     have h3 : ¬ a = b := fun e => by subst e; exact h1 h2
     simp [h1, h2, h3]
    ·have h3 : a = b := u8_tri h1 h2
     subst h3
     simp [h1]
theorem lt_of_leB {x y : ByteArray} (h : leB x y = false) : cmpS y x = -1 := by
 unfold leB at h
 rw [less_cb, Lib.toList_data, Lib.toList_data, Bool.or_eq_false_iff, decide_eq_false_iff_not] at h
 rcases cmpS_three x y with e | e | e
 ·exact absurd e h.1
 ·have := cmpS_zero e
  rw [this] at h
  simp at h
 ·exact cmpS_anti e
structure TitlesOk (T : List TitleV) : Prop where
 len : T.length ≤ 300
 one : ∀ x ∈ T, keyB x.piece = true ∧ 1 ≤ x.owned ∧ x.owned ≤ 500 ∧ 0 ≤ x.cost ∧ x.cost ≤ 10000
 rise : T.Pairwise fun a b => cmpS a.piece b.piece = -1
theorem titlesF_ok {xs : List TitleV} (h : titlesF xs = 0) : TitlesOk xs := by
 unfold titlesF at h
 have hl : xs.length ≤ 300 := by
  rcases Nat.lt_or_ge 300 xs.length with h1 | h1
  ·rw [if_pos h1] at h; cases h
  ·exact h1
 rw [if_neg (by omega)] at h
 have hz := scanZ h
 have hat : ∀ i x, xs[i]? = some x → keyB x.piece = true ∧ inB x.owned 1 500 = true ∧ inB x.cost 0 10000 = true ∧ (0 < i → leB x.piece (atL default xs (i - 1)).piece = false) := by
  intro i x hx
  have h0 := hz i (List.getElem?_eq_some_iff.1 hx).1
  unfold chkTi at h0
  rw [atL_of hx] at h0
  cases k1 : keyB x.piece
  ·rw [k1] at h0; simp at h0
  cases k2 : inB x.owned 1 500
  ·rw [k1, k2] at h0; simp at h0
  cases k4 : inB x.cost 0 10000
  ·rw [k1, k2, k4] at h0; simp at h0
  refine ⟨rfl, rfl, rfl, fun hi => ?_⟩
  cases k3 : leB x.piece (atL default xs (i - 1)).piece
  ·rfl
  ·rw [k1, k2, k3, k4] at h0; simp [hi] at h0
 refine ⟨hl, fun x hx => ?_, pw_get (pw_of_next (r := fun (a b : TitleV) => cmpS a.piece b.piece = -1) (fun _ _ _ h k => cmpS_trans h k) fun i x y hx hy => ?_)⟩
 ·obtain ⟨i, hi, e⟩ := List.getElem_of_mem hx
  obtain ⟨h1, h2, h3, -⟩ := hat i x (by rw [List.getElem?_eq_getElem hi, e])
  unfold inB at h2 h3
  simp at h2 h3
  exact ⟨h1, h2.1, h2.2, h3.1, h3.2⟩
 ·have := (hat (i + 1) y hy).2.2.2 (by omega)
  rw [Nat.add_sub_cancel, atL_of hx] at this
  exact lt_of_leB this
/-- A title by its piece. -/
def titleOf (T : List TitleV) (p : ByteArray) : Option TitleV := T.find? fun t => decide (t.piece = p)
abbrev IdV := ByteArray × Int
def isCopyT (T : List TitleV) (k : IdV) : Bool := match titleOf T k.1 with
 | some t => !outB k.2 1 t.owned
 | none => false
structure LoanV where
 piece : ByteArray
 no : Int
 singer : ByteArray
 since : Int
 till : Int
 lost : Bool
instance : Inhabited LoanV := ⟨⟨⟨#[]⟩, 0, ⟨#[]⟩, 0,0, false⟩⟩
def loanC (x : LoanV) : List Value := [.string x.piece, .int .i64 x.no, .string x.singer, .int .i64 x.since, .int .i64 x.till, .bool x.lost]
theorem loanC_len (x : LoanV) : (loanC x).length = 6 := rfl
theorem loanC_one (x : LoanV) : ∀ u ∈ loanC x, u.oneCell' = true := by simp [loanC, Value.oneCell']
/-- How all copies are. -/
structure LibS where
 st : IdV → Option ByteArray
 last : IdV → Option Int
 loans : List LoanV
 has : ByteArray → Option (List ByteArray)
def inW : ByteArray := ⟨#[105,110]⟩
def outW : ByteArray := ⟨#[111,117,116]⟩
def lostW : ByteArray := ⟨#[108,111,115,116]⟩
def goneW : ByteArray := ⟨#[103,111,110,101]⟩
def LibS.new : LibS := ⟨fun _ => none, fun _ => none, [], fun _ => none⟩
def LibS.at_ (L : LibS) (k : IdV) : ByteArray := (L.st k).getD inW
def needW (k : Int) : ByteArray := if k = 1 then inW else if k = 2 then outW else if k = 3 then outW else if k = 4 then lostW else if k = 5 then inW else ⟨#[]⟩
def setF {α β : Type} [DecidableEq α] (f : α → Option β) (k : α) (v : β) : α → Option β := fun q => if q = k then some v else f q
def ownOf (L : LibS) (s : ByteArray) : List ByteArray := (L.has s).getD []
/-- A copy that is in is lent. -/
def lendD (r : LendR) (L : LibS) (x : SlipV) : LibS × Int :=
 if x.piece ∈ ownOf L x.singer then (L, 6) else if r.each ≤ (ownOf L x.singer).length then (L, 12) else
  (⟨setF L.st (x.piece, x.copy) outW, setF L.last (x.piece, x.copy) (L.loans.length : Int), L.loans ++ [⟨x.piece, x.copy, x.singer, x.at_, -1, false⟩], setF L.has x.singer (ownOf L x.singer ++ [x.piece])⟩, 0)
def lastI (L : LibS) (k : IdV) : Nat := ((L.last k).getD 0).toNat
def lastL (L : LibS) (k : IdV) : LoanV := L.loans.getD (lastI L k) default
/-- The loan of a copy that is out ends. -/
def endD (L : LibS) (x : SlipV) (lost : Bool) : LibS :=
 ⟨setF L.st (x.piece, x.copy) (if lost then lostW else inW), L.last, L.loans.set (lastI L (x.piece, x.copy)) { lastL L (x.piece, x.copy) with till := x.at_, lost := lost },
  fun s => if s = (lastL L (x.piece, x.copy)).singer then (L.has s).map fun l => l.filter fun p => decide (p ≠ x.piece) else L.has s⟩
/-- A slip is followed. -/
def slipD (T : List TitleV) (r : LendR) (L : LibS) (x : SlipV) : LibS × Int :=
 if isCopyT T (x.piece, x.copy) = false then (L, 8) else if L.at_ (x.piece, x.copy) ≠ needW x.kind then (L, 11) else
 if x.kind = 1 then lendD r L x else if x.kind = 2 ∨ x.kind = 3 then (endD L x (decide (x.kind = 3)), 0) else
 if x.kind = 4 then (⟨setF L.st (x.piece, x.copy) inW, L.last, L.loans.set (lastI L (x.piece, x.copy)) { lastL L (x.piece, x.copy) with lost := false }, L.has⟩, 0)
 else (⟨setF L.st (x.piece, x.copy) goneW, L.last, L.loans, L.has⟩, 0)
/-- What always holds of a library: copies that are out or lost have a last loan, whose singer has a row of pieces; a singer's pieces are different. -/
structure LibOk (L : LibS) : Prop where
 last : ∀ k, L.at_ k = outW ∨ L.at_ k = lostW → ∃ i : Nat, L.last k = some (i : Int) ∧ i < L.loans.length
 has : ∀ l ∈ L.loans, ∃ o, L.has l.singer = some o
 once : ∀ s o, L.has s = some o → o.Nodup
 small : ∀ k i, L.last k = some i → 0 ≤ i ∧ i ≤ 100000
theorem LibOk.new : LibOk LibS.new := ⟨fun k h => by rcases h with h | h <;> exact absurd h (by show inW ≠ _; decide), fun l hl => by simp [LibS.new] at hl, (fun s o h => by simp [LibS.new] at h), fun k i h => by simp [LibS.new] at h⟩
end Go.Proofs.YtkjhbofbcmelgaaGreatDoor
