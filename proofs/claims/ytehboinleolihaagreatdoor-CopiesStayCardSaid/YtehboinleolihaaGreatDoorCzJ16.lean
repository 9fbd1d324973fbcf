/- Slips in order; slips of two lists as one: plain. Conditions: as each theorem says. A library of copies, as slips are followed: plain. Conditions: as each theorem says. What slips up to a moment lead to: plain. Conditions: as each theorem says. -/
import Derived.Test.YtehboinleolihaaGreatDoorCzSlD
import Derived.Test.YtehboinleolihaaGreatDoorCzJ13
import Derived.Test.YtehboinleolihaaGreatDoorCzJ3
set_option linter.unusedSimpArgs false
set_option linter.unusedVariables false
namespace Go.Proofs.YtehboinleolihaaGreatDoor
open Go Go.RowKit Go.Sort
theorem bytesB {a b : ByteArray} : (a.toList == b.toList) = true ↔ a = b := by
 rw [ByteArray.toList_eq, ByteArray.toList_eq]
 constructor
 ·intro h
  have := eq_of_beq h
  cases a; cases b
  simp only at this
  congr 1
  exact Array.toList_inj.1 this
 ·rintro rfl
  exact beq_self_eq_true _
theorem scanZ {n : Nat} {f : Nat → Int} (h : scanF n f = 0) : Zeros f n := by
 have hz : ∀ k, k ≤ n → Zeros f k := by
  intro k
  induction k with
  | zero => intro _ j hj; omega
  | succ k ih =>
    intro hk
    have hz := ih (by omega)
    refine hz.succ ?_
    rcases (inferInstance : Decidable (f k = 0)) with hn | hy
    ·have := scan_at (n := n) k (by omega) hz hn
     rw [h] at this
     exact this.symm
    ·exact hy
 exact hz n (Nat.le_refl _)
instance : DecidableEq SlipV := fun a b =>
 if h : a.by_ = b.by_ ∧ a.no = b.no ∧ a.at_ = b.at_ ∧ a.kind = b.kind ∧ a.piece = b.piece ∧ a.copy = b.copy ∧ a.singer = b.singer then
  .isTrue (by cases a; cases b; simp only at h; obtain ⟨rfl, rfl, rfl, rfl, rfl, rfl, rfl⟩ := h; rfl)
 else .isFalse fun e => h (by subst e; exact ⟨rfl, rfl, rfl, rfl, rfl, rfl, rfl⟩)
def sliLt (a b : SlipV) : Prop := cmpS a.by_ b.by_ = -1 ∨ (a.by_ = b.by_ ∧ a.no < b.no)
theorem sliLt_iff (a b : SlipV) : sliO a b < 0 ↔ sliLt a b := by
 unfold sliO sliLt orF
 rcases cmpS_three a.by_ b.by_ with h | h | h
 ·rw [h]; simp
 ·have e := cmpS_zero h
  rw [h]
  simp only [e, cmpS_refl]
  unfold orF
  by_cases h1 : a.no < b.no
  ·have : cmpZ a.no b.no = -1 := by unfold cmpZ; rw [if_pos h1]
   rw [this]; simp [h1]
  ·have : 0 ≤ cmpZ a.no b.no := by have h' : ¬ cmpZ a.no b.no < 0 := fun h' => h1 (cmpZ_lt.1 h'); omega
   simp only [if_pos]
   by_cases h2 : cmpZ a.no b.no = 0
   ·rw [h2]; simp [h1, orF]
   ·simp [h2, h1]; omega
 ·have hne : a.by_ ≠ b.by_ := fun e => by rw [e, cmpS_refl] at h; cases h
  rw [h]; simp [hne]
theorem sliLt_trans {a b c : SlipV} (h : sliLt a b) (k : sliLt b c) : sliLt a c := by
 rcases h with h | ⟨h, h'⟩ <;> rcases k with k | ⟨k, k'⟩
 ·exact .inl (cmpS_trans h k)
 ·exact .inl (k ▸ h)
 ·exact .inl (h ▸ k)
 ·exact .inr ⟨h.trans k, by omega⟩
theorem sliLt_asym {a b : SlipV} (h : sliLt a b) (k : sliLt b a) : False := by
 rcases sliLt_trans h k with e | ⟨_, e⟩
 ·rw [cmpS_refl] at e; cases e
 ·omega
theorem sliLt_key {a b : SlipV} (h : sliLt a b) : ¬ (a.by_ = b.by_ ∧ a.no = b.no) := fun ⟨e1, e2⟩ => by
 rcases h with h | ⟨_, h⟩
 ·rw [e1, cmpS_refl] at h; cases h
 ·omega
theorem sliLt_tri (a b : SlipV) : sliLt a b ∨ sliLt b a ∨ (a.by_ = b.by_ ∧ a.no = b.no) := by
 rcases cmpS_three a.by_ b.by_ with h | h | h
 ·exact .inl (.inl h)
 ·have e := cmpS_zero h
  rcases Int.lt_trichotomy a.no b.no with h1 | h1 | h1
  ·exact .inl (.inr ⟨e, h1⟩)
  ·exact .inr (.inr ⟨e, h1⟩)
  ·exact .inr (.inl (.inr ⟨e.symm, h1⟩))
 ·exact .inr (.inl (.inl (cmpS_anti h)))
def LateOk (x y : SlipV) : Prop := x.by_ = y.by_ → x.at_ ≤ y.at_
/-- Right slips. -/
structure RightS (V : List SlipV) : Prop where
 len : V.length ≤ 3000
 one : ∀ x ∈ V, slipE x = 0
 rise : V.Pairwise sliLt
 late : V.Pairwise LateOk
theorem pw_of_next {α : Type} {r : α → α → Prop} (ht : ∀ a b c, r a b → r b c → r a c) {V : List α} (h : ∀ i x y, V[i]? = some x → V[i + 1]? = some y → r x y) : ∀ (d i : Nat) (x y : α), V[i]? = some x → V[i + 1 + d]? = some y → r x y
 | 0, i, x, y, hx, hy => h i x y hx hy
 | d + 1, i, x, y, hx, hy => by
   have hl := (List.getElem?_eq_some_iff.1 hy).1
   have hz : V[i + 1 + d]? = some V[i + 1 + d] := List.getElem?_eq_getElem (by omega)
   exact ht _ _ _ (pw_of_next ht h d i x _ hx hz) (h (i + 1 + d) _ y hz (by rw [← hy]; congr 1))
theorem pw_get {α : Type} {r : α → α → Prop} {V : List α} (h : ∀ (d i : Nat) (x y : α), V[i]? = some x → V[i + 1 + d]? = some y → r x y) : V.Pairwise r := by
 rw [List.pairwise_iff_getElem]
 intro i j hi hj hij
 obtain ⟨d, rfl⟩ : ∃ d, j = i + 1 + d := ⟨j - (i + 1), by omega⟩
 exact h d i _ _ (List.getElem?_eq_getElem hi) (List.getElem?_eq_getElem hj)
theorem slipsF_right {V : List SlipV} (h : slipsF V = 0) : RightS V := by
 obtain ⟨hl, ho⟩ := slipsF_good h
 unfold slipsF at h
 rw [if_neg (by omega)] at h
 have hs : scanF V.length (chkSli V) = 0 := by
  refine Classical.byContradiction fun hne => ?_
  rw [if_neg hne] at h; exact hne h
 rw [if_pos hs] at h
 have hc := scanZ hs
 have ht := scanZ h
 have hn : ∀ i x y, V[i]? = some x → V[i + 1]? = some y → sliLt x y := fun i x y hx hy => by
  have h0 := hc (i + 1) (List.getElem?_eq_some_iff.1 hy).1
  unfold chkSli at h0
  rw [atL_of hy, Nat.add_sub_cancel, atL_of hx, if_pos (ho y (List.mem_of_getElem? hy))] at h0
  refine (sliLt_iff x y).1 ?_
  refine Classical.byContradiction fun hge => ?_
  rw [if_pos (by simp; omega)] at h0
  cases h0
 have hl1 : ∀ i x y, V[i]? = some x → V[i + 1]? = some y → LateOk x y := fun i x y hx hy e => by
  have h0 := ht (i + 1) (List.getElem?_eq_some_iff.1 hy).1
  unfold lateS at h0
  rw [atL_of hy, Nat.add_sub_cancel, atL_of hx] at h0
  refine Classical.byContradiction fun hge => ?_
  rw [if_pos (by simp [e]; omega)] at h0
  cases h0
 have hp := pw_of_next (r := sliLt) (fun _ _ _ h k => sliLt_trans h k) hn
 refine ⟨hl, ho, pw_get hp, pw_get fun d => ?_⟩
 induction d with
 | zero => exact fun i x y hx hy => hl1 i x y hx hy
 | succ d ih =>
   intro i x y hx hy e
   have hl := (List.getElem?_eq_some_iff.1 hy).1
   have hz : V[i + 1 + d]? = some V[i + 1 + d] := List.getElem?_eq_getElem (by omega)
   generalize V[i + 1 + d] = z at hz
   have h1 := hp d i x z hx hz
   have hy' : V[i + 1 + d + 1]? = some y := by rw [← hy]; congr 1
   have h2 := hn (i + 1 + d) z y hz hy'
   have e1 : x.by_ = z.by_ := by
    rcases h1 with h1 | ⟨h1, _⟩
    ·rcases h2 with h2 | ⟨h2, _⟩
     ·have := cmpS_trans h1 h2
      rw [e, cmpS_refl] at this; cases this
     ·rw [h2, ← e, cmpS_refl] at h1; cases h1
    ·exact h1
   have a1 := ih i x z hx hz e1
   have a2 := hl1 (i + 1 + d) z y hz hy' (e1.symm.trans e)
   omega
/-! ### slips of two lists as one -/
def sameK (a b : SlipV) : Bool := decide (a.by_ = b.by_ ∧ a.no = b.no)
/-- The slips so far, and further ones; none: two with one name and number differ. -/
def mrgF : List SlipV → List SlipV → Option (List SlipV)
 | out, [] => some out
 | out, x :: r => match out.find? (fun y => sameK y x) with
   | none => mrgF (out ++ [x]) r
   | some y => if y = x then mrgF out r else none
def Diff (V : List SlipV) : Prop := V.Pairwise fun a b => sameK a b = false
theorem sameK_comm (a b : SlipV) : sameK a b = sameK b a := by unfold sameK; congr 1; exact propext ⟨fun h => ⟨h.1.symm, h.2.symm⟩, fun h => ⟨h.1.symm, h.2.symm⟩⟩
theorem mrg_mem : ∀ (xs out o : List SlipV), mrgF out xs = some o → Diff out → Diff o ∧ (∀ z, z ∈ o ↔ z ∈ out ∨ z ∈ xs) ∧ o.length ≤ out.length + xs.length
 | [], out, o, h, hd => by cases h; exact ⟨hd, fun z => by simp, by simp⟩
 | x :: r, out, o, h, hd => by
   unfold mrgF at h
   cases hf : out.find? (fun y => sameK y x) with
   | none =>
     rw [hf] at h
     have hn := List.find?_eq_none.1 hf
     obtain ⟨h1, h2, h3⟩ := mrg_mem r _ o h (List.pairwise_append.2 ⟨hd, List.pairwise_singleton _ _, fun a ha b hb => by rw [List.mem_singleton.1 hb]; simpa using hn a ha⟩)
     exact ⟨h1, fun z => by rw [h2]; simp [or_assoc], by simp at h3 ⊢; omega⟩
   | some y =>
     rw [hf] at h
     simp only at h
     split at h
     ·rename_i e
      subst e
      have hy := List.mem_of_find?_eq_some hf
      obtain ⟨h1, h2, h3⟩ := mrg_mem r _ o h hd
      refine ⟨h1, fun z => ?_, by simp; omega⟩
      rw [h2, List.mem_cons]
      constructor
      ·rintro (h | h)
       ·exact .inl h
       ·exact .inr (.inr h)
      ·rintro (h | h | h)
       ·exact .inl h
       ·exact .inl (h ▸ hy)
       ·exact .inr h
     ·cases h
theorem mrg_some {d : List SlipV} (hd : ∀ a ∈ d, ∀ b ∈ d, sameK a b = true → a = b) : ∀ (xs out : List SlipV), (∀ x ∈ xs, x ∈ d) → (∀ x ∈ out, x ∈ d) → ∃ o, mrgF out xs = some o
 | [], out, _, _ => ⟨out, rfl⟩
 | x :: r, out, hx, ho => by
   unfold mrgF
   cases hf : out.find? (fun y => sameK y x) with
   | none =>
     simp only
     exact mrg_some hd r _ (fun z hz => hx z (List.mem_cons_of_mem _ hz)) fun z hz => by
      rcases List.mem_append.1 hz with h | h
      ·exact ho z h
      ·rw [List.mem_singleton.1 h]; exact hx x List.mem_cons_self
   | some y =>
     have hk := List.find?_some hf
     have e := hd y (ho y (List.mem_of_find?_eq_some hf)) x (hx x List.mem_cons_self) hk
     simp only
     rw [if_pos e]
     exact mrg_some hd r _ (fun z hz => hx z (List.mem_cons_of_mem _ hz)) ho
theorem diff_rise {o M : List SlipV} (hd : Diff o) (hp : M.Perm o) : Diff M :=
 (hp.pairwise_iff fun {a b} h => by rw [sameK_comm]; exact h).2 hd
theorem rise_nodup {M : List SlipV} (h : M.Pairwise sliLt) : M.Nodup := List.Pairwise.imp (fun {a b} hl (e : a = b) => sliLt_key hl (by rw [e]; exact ⟨rfl, rfl⟩)) h
/-- Two parts of right slips, together all of them, are one again. -/
theorem mrg_one {d a b : List SlipV} (hd : RightS d) (ha : a.Sublist d) (hb : b.Sublist d) (hab : ∀ x ∈ d, x ∈ a ∨ x ∈ b) :
 ∃ o, mrgF [] (a ++ b) = some o ∧ ∀ M, M.Perm o → M.Pairwise sliLt → M = d := by
 have hk : ∀ x ∈ d, ∀ y ∈ d, sameK x y = true → x = y := fun x hx y hy e => by
  obtain ⟨i, hi, rfl⟩ := List.getElem_of_mem hx
  obtain ⟨j, hj, rfl⟩ := List.getElem_of_mem hy
  have e' : d[i].by_ = d[j].by_ ∧ d[i].no = d[j].no := by simpa [sameK] using e
  rcases Nat.lt_trichotomy i j with h | h | h
  ·exact (sliLt_key (List.pairwise_iff_getElem.1 hd.rise i j hi hj h) e').elim
  ·subst h; rfl
  ·exact (sliLt_key (List.pairwise_iff_getElem.1 hd.rise j i hj hi h) ⟨e'.1.symm, e'.2.symm⟩).elim
 obtain ⟨o, ho⟩ := mrg_some hk (a ++ b) [] (fun x hx => (List.mem_append.1 hx).elim (fun h => ha.subset h) fun h => hb.subset h) (by simp)
 refine ⟨o, ho, fun M hp hM => ?_⟩
 obtain ⟨h1, h2, -⟩ := mrg_mem _ _ _ ho List.Pairwise.nil
 refine same_of (fun _ _ => sliLt_asym) hM hd.rise ?_
 refine (List.perm_ext_iff_of_nodup (rise_nodup hM) (rise_nodup hd.rise)).2 fun z => ?_
 rw [hp.mem_iff, h2]
 simp only [List.not_mem_nil, false_or, List.mem_append]
 exact ⟨fun h => h.elim (fun h => ha.subset h) fun h => hb.subset h, hab z⟩
end Go.Proofs.YtehboinleolihaaGreatDoor
namespace Go.Proofs.YtehboinleolihaaGreatDoor
open Go Go.RowKit Go.Sort
instance memDec (a : ByteArray) (l : List ByteArray) : Decidable (a ∈ l) := decidable_of_iff ((l.any fun z => decide (z = a)) = true) (by simp)
structure TitleV where
 piece : ByteArray
 owned : Int
 cost : Int
instance : Inhabited TitleV := ⟨⟨⟨#[]⟩, 0,0⟩⟩
def titleC (x : TitleV) : List Value := [.string x.piece, .int .i64 x.owned, .int .i64 x.cost]
theorem titleC_len (x : TitleV) : (titleC x).length = 3 := rfl
theorem titleC_one (x : TitleV) : ∀ u ∈ titleC x, u.oneCell' = true := by simp [titleC, Value.oneCell']
theorem Elems.title {w : World} {b off : Nat} {xs : List TitleV} (h : Elems 3 titleC w b off xs) {i : Nat} {x : TitleV} (hx : xs[i]? = some x) :
 w.cell? ⟨b, off + i * 3, none⟩ = some (.string x.piece) ∧ w.cell? ⟨b, off + i * 3 + 1, none⟩ = some (.int .i64 x.owned) ∧ w.cell? ⟨b, off + i * 3 + 2, none⟩ = some (.int .i64 x.cost) :=
 ⟨h i x hx 0 _ rfl, h i x hx 1 _ rfl, h i x hx 2 _ rfl⟩
def TitleV.Small (x : TitleV) : Prop := x.piece.size ≤ 1000 ∧ -1099511627776 ≤ x.owned ∧ x.owned ≤ 1099511627776 ∧ -1099511627776 ≤ x.cost ∧ x.cost ≤ 1099511627776
def chkTi (xs : List TitleV) (i : Nat) : Int :=
 if keyB (atL default xs i).piece then (if (inB (atL default xs i).owned 1 500 && inB (atL default xs i).cost 0 10000) = true then (if 0 < i && leB (atL default xs i).piece (atL default xs (i - 1)).piece then 7 else 0) else 1) else 5
def titlesF (xs : List TitleV) : Int := if 300 < xs.length then 2 else scanF xs.length (chkTi xs)
structure LendR where
 days : Int
 late : Int
 most : Int
 each : Int
def lendF (r : LendR) : Int := if (inB r.days 1 1000 && inB r.late 0 10000 && inB r.most 0 10000 && inB r.each 1 300) = true then 0 else 1
theorem less_cb : ∀ a b : List UInt8, Op.bytesLess a b = decide (Lib.compareBytes a b = -1)
 | [],[] => by simp [Op.bytesLess, Lib.compareBytes]
 | [], _ :: _ => by simp [Op.bytesLess, Lib.compareBytes]
 | _ :: _, [] => by simp [Op.bytesLess, Lib.compareBytes]
 | a :: x, b :: y => by
   have ih := less_cb x y
   unfold Lib.compareBytes
   simp only [Op.bytesLess]
   rw [ih]
   by_cases h1 : a < b
   ·have h1' : a.toNat < b.toNat := h1
    simp [h1, h1']
   ·have h1' : ¬ a.toNat < b.toNat := h1
    by_cases h2 : b < a
    ·have h2' : b.toNat < a.toNat := h2
     have h3 : ¬ a = b := fun e => by subst e; exact h1 h2
     simp [h1, h2, h3]
    ·have h3 : a = b := u8_tri h1 h2
     subst h3
     simp [h1]
theorem lt_of_leB {x y : ByteArray} (h : leB x y = false) : cmpS y x = -1 := by
 unfold leB at h
 rw [less_cb, Lib.toList_data, Lib.toList_data, Bool.or_eq_false_iff, decide_eq_false_iff_not] at h
 rcases cmpS_three x y with e | e | e
 ·exact absurd e h.1
 ·have := cmpS_zero e
  rw [this] at h
  simp at h
 ·exact cmpS_anti e
structure TitlesOk (T : List TitleV) : Prop where
 len : T.length ≤ 300
 one : ∀ x ∈ T, keyB x.piece = true ∧ 1 ≤ x.owned ∧ x.owned ≤ 500 ∧ 0 ≤ x.cost ∧ x.cost ≤ 10000
 rise : T.Pairwise fun a b => cmpS a.piece b.piece = -1
theorem titlesF_ok {xs : List TitleV} (h : titlesF xs = 0) : TitlesOk xs := by
 unfold titlesF at h
 have hl : xs.length ≤ 300 := by
  rcases Nat.lt_or_ge 300 xs.length with h1 | h1
  ·rw [if_pos h1] at h; cases h
  ·exact h1
 rw [if_neg (by omega)] at h
 have hz := scanZ h
 have hat : ∀ i x, xs[i]? = some x → keyB x.piece = true ∧ inB x.owned 1 500 = true ∧ inB x.cost 0 10000 = true ∧ (0 < i → leB x.piece (atL default xs (i - 1)).piece = false) := by
  intro i x hx
  have h0 := hz i (List.getElem?_eq_some_iff.1 hx).1
  unfold chkTi at h0
  rw [atL_of hx] at h0
  cases k1 : keyB x.piece
  ·rw [k1] at h0; simp at h0
  cases k2 : inB x.owned 1 500
  ·rw [k1, k2] at h0; simp at h0
  cases k4 : inB x.cost 0 10000
  ·rw [k1, k2, k4] at h0; simp at h0
  refine ⟨rfl, rfl, rfl, fun hi => ?_⟩
  cases k3 : leB x.piece (atL default xs (i - 1)).piece
  ·rfl
  ·rw [k1, k2, k3, k4] at h0; simp [hi] at h0
 refine ⟨hl, fun x hx => ?_, pw_get (pw_of_next (r := fun (a b : TitleV) => cmpS a.piece b.piece = -1) (fun _ _ _ h k => cmpS_trans h k) fun i x y hx hy => ?_)⟩
 ·obtain ⟨i, hi, e⟩ := List.getElem_of_mem hx
  obtain ⟨h1, h2, h3, -⟩ := hat i x (by rw [List.getElem?_eq_getElem hi, e])
  unfold inB at h2 h3
  simp at h2 h3
  exact ⟨h1, h2.1, h2.2, h3.1, h3.2⟩
 ·have := (hat (i + 1) y hy).2.2.2 (by omega)
  rw [Nat.add_sub_cancel, atL_of hx] at this
  exact lt_of_leB this
/-- A title by its piece. -/
def titleOf (T : List TitleV) (p : ByteArray) : Option TitleV := T.find? fun t => decide (t.piece = p)
abbrev IdV := ByteArray × Int
def isCopyT (T : List TitleV) (k : IdV) : Bool := match titleOf T k.1 with
 | some t => !outB k.2 1 t.owned
 | none => false
structure LoanV where
 piece : ByteArray
 no : Int
 singer : ByteArray
 since : Int
 till : Int
 lost : Bool
instance : Inhabited LoanV := ⟨⟨⟨#[]⟩, 0, ⟨#[]⟩, 0,0, false⟩⟩
def loanC (x : LoanV) : List Value := [.string x.piece, .int .i64 x.no, .string x.singer, .int .i64 x.since, .int .i64 x.till, .bool x.lost]
theorem loanC_len (x : LoanV) : (loanC x).length = 6 := rfl
theorem loanC_one (x : LoanV) : ∀ u ∈ loanC x, u.oneCell' = true := by simp [loanC, Value.oneCell']
/-- How all copies are. -/
structure LibS where
 st : IdV → Option ByteArray
 last : IdV → Option Int
 loans : List LoanV
 has : ByteArray → Option (List ByteArray)
def inW : ByteArray := ⟨#[105,110]⟩
def outW : ByteArray := ⟨#[111,117,116]⟩
def lostW : ByteArray := ⟨#[108,111,115,116]⟩
def goneW : ByteArray := ⟨#[103,111,110,101]⟩
def LibS.new : LibS := ⟨fun _ => none, fun _ => none, [], fun _ => none⟩
def LibS.at_ (L : LibS) (k : IdV) : ByteArray := (L.st k).getD inW
def needW (k : Int) : ByteArray := if k = 1 then inW else if k = 2 then outW else if k = 3 then outW else if k = 4 then lostW else if k = 5 then inW else ⟨#[]⟩
def setF {α β : Type} [DecidableEq α] (f : α → Option β) (k : α) (v : β) : α → Option β := fun q => if q = k then some v else f q
def ownOf (L : LibS) (s : ByteArray) : List ByteArray := (L.has s).getD []
/-- A copy that is in is lent. -/
def lendD (r : LendR) (L : LibS) (x : SlipV) : LibS × Int :=
 if x.piece ∈ ownOf L x.singer then (L, 6) else if r.each ≤ (ownOf L x.singer).length then (L, 12) else
  (⟨setF L.st (x.piece, x.copy) outW, setF L.last (x.piece, x.copy) (L.loans.length : Int), L.loans ++ [⟨x.piece, x.copy, x.singer, x.at_, -1, false⟩], setF L.has x.singer (ownOf L x.singer ++ [x.piece])⟩, 0)
def lastI (L : LibS) (k : IdV) : Nat := ((L.last k).getD 0).toNat
def lastL (L : LibS) (k : IdV) : LoanV := L.loans.getD (lastI L k) default
/-- The loan of a copy that is out ends. -/
def endD (L : LibS) (x : SlipV) (lost : Bool) : LibS :=
 ⟨setF L.st (x.piece, x.copy) (if lost then lostW else inW), L.last, L.loans.set (lastI L (x.piece, x.copy)) { lastL L (x.piece, x.copy) with till := x.at_, lost := lost },
  fun s => if s = (lastL L (x.piece, x.copy)).singer then (L.has s).map fun l => l.filter fun p => decide (p ≠ x.piece) else L.has s⟩
/-- A slip is followed. -/
def slipD (T : List TitleV) (r : LendR) (L : LibS) (x : SlipV) : LibS × Int :=
 if isCopyT T (x.piece, x.copy) = false then (L, 8) else if L.at_ (x.piece, x.copy) ≠ needW x.kind then (L, 11) else
 if x.kind = 1 then lendD r L x else if x.kind = 2 ∨ x.kind = 3 then (endD L x (decide (x.kind = 3)), 0) else
 if x.kind = 4 then (⟨setF L.st (x.piece, x.copy) inW, L.last, L.loans.set (lastI L (x.piece, x.copy)) { lastL L (x.piece, x.copy) with lost := false }, L.has⟩, 0)
 else (⟨setF L.st (x.piece, x.copy) goneW, L.last, L.loans, L.has⟩, 0)
/-- What always holds of a library: copies that are out or lost have a last loan, whose singer has a row of pieces; a singer's pieces are different. -/
structure LibOk (L : LibS) : Prop where
 last : ∀ k, L.at_ k = outW ∨ L.at_ k = lostW → ∃ i : Nat, L.last k = some (i : Int) ∧ i < L.loans.length
 has : ∀ l ∈ L.loans, ∃ o, L.has l.singer = some o
 once : ∀ s o, L.has s = some o → o.Nodup
 small : ∀ k i, L.last k = some i → 0 ≤ i ∧ i ≤ 100000
theorem LibOk.new : LibOk LibS.new := ⟨fun k h => by rcases h with h | h <;> exact absurd h (by show inW ≠ _; decide), fun l hl => by simp [LibS.new] at hl, (fun s o h => by simp [LibS.new] at h), fun k i h => by simp [LibS.new] at h⟩
end Go.Proofs.YtehboinleolihaaGreatDoor
namespace Go.Proofs.YtehboinleolihaaGreatDoor
open Go Go.RowKit Go.Sort
/-! ### what always holds -/
structure LibN (n : Nat) (L : LibS) : Prop where
 ok : LibOk L
 loans : L.loans.length ≤ n
 own : ∀ s o, L.has s = some o → o.length ≤ n
 sing : ∀ l ∈ L.loans, l.singer.size ≤ 1000000
theorem LibN.new : LibN 0 LibS.new := ⟨LibOk.new, Nat.le_refl _, (fun s o h => by simp [LibS.new] at h), fun l hl => by simp [LibS.new] at hl⟩
theorem LibN.le {n m : Nat} {L : LibS} (h : LibN n L) (hm : n ≤ m) : LibN m L := ⟨h.ok, Nat.le_trans h.loans hm, fun s o e => Nat.le_trans (h.own s o e) hm, h.sing⟩
theorem at_set (L : LibS) (k q : IdV) (v : ByteArray) (la : IdV → Option Int) (lo : List LoanV) (ha : ByteArray → Option (List ByteArray)) : (⟨setF L.st k v, la, lo, ha⟩ : LibS).at_ q = if q = k then v else L.at_ q := by
 unfold LibS.at_ setF
 by_cases e : q = k
 ·simp [e]
 ·simp [e]
theorem setF_some {α β : Type} [DecidableEq α] {f : α → Option β} {k q : α} {v : β} : (setF f k v q) = if q = k then some v else f q := rfl
theorem lendD_ok {n : Nat} {r : LendR} {L : LibS} {x : SlipV} (h : LibN n L) (hn : n ≤ 100000) (hsx : x.singer.size ≤ 1000000) : LibN (n + 1) (lendD r L x).1 := by
 unfold lendD
 by_cases h1 : x.piece ∈ ownOf L x.singer
 ·rw [if_pos h1]; exact h.le (by omega)
 rw [if_neg h1]
 by_cases h2 : r.each ≤ (ownOf L x.singer).length
 ·rw [if_pos h2]; exact h.le (by omega)
 rw [if_neg h2]
 have hl := h.loans
 refine ⟨⟨fun k hk => ?_, fun l hm => ?_, fun s o hs => ?_, fun k i hi => ?_⟩, by simp; omega, fun s o hs => ?_, fun l hl => (List.mem_append.1 hl).elim (h.sing l) fun hl => by rw [List.mem_singleton.1 hl]; exact hsx⟩
 ·rw [at_set] at hk
  by_cases e : k = (x.piece, x.copy)
  ·exact ⟨L.loans.length, by show setF _ _ _ _ = _; rw [setF_some, if_pos e], by simp⟩
  ·rw [if_neg e] at hk
   obtain ⟨i, e1, e2⟩ := h.ok.last k hk
   exact ⟨i, by show setF _ _ _ _ = _; rw [setF_some, if_neg e]; exact e1, by simp; omega⟩
 ·show ∃ o, setF L.has x.singer _ l.singer = some o
  rw [setF_some]
  by_cases e : l.singer = x.singer
  ·exact ⟨_, if_pos e⟩
  ·rw [if_neg e]
   rcases List.mem_append.1 hm with hm | hm
   ·exact h.ok.has l hm
   ·rw [List.mem_singleton.1 hm] at e
    exact absurd rfl e
 ·have hs : setF L.has x.singer _ s = some o := hs
  rw [setF_some] at hs
  by_cases e : s = x.singer
  ·rw [if_pos e] at hs
   cases hs
   refine List.nodup_append.2 ⟨?_, by simp, fun a ha b hb => by rw [List.mem_singleton.1 hb]; exact fun e => h1 (e ▸ ha)⟩
   unfold ownOf
   cases hh : L.has x.singer with
   | none => simp
   | some o => exact h.ok.once _ _ hh
  ·rw [if_neg e] at hs
   exact h.ok.once s o hs
 ·have hi : setF L.last _ _ k = some i := hi
  rw [setF_some] at hi
  by_cases e : k = (x.piece, x.copy)
  ·rw [if_pos e] at hi
   cases hi
   omega
  ·rw [if_neg e] at hi
   exact h.ok.small k i hi
 ·have hs : setF L.has x.singer _ s = some o := hs
  rw [setF_some] at hs
  by_cases e : s = x.singer
  ·rw [if_pos e] at hs
   cases hs
   unfold ownOf
   cases hh : L.has x.singer with
   | none => simp
   | some o => have := h.own _ _ hh; simp; omega
  ·rw [if_neg e] at hs
   exact Nat.le_trans (h.own s o hs) (by omega)
theorem lastI_of {L : LibS} {k : IdV} {i : Nat} (h : L.last k = some (i : Int)) : lastI L k = i := by unfold lastI; rw [h]; simp
theorem lastL_of {L : LibS} {k : IdV} {i : Nat} (h : L.last k = some (i : Int)) (hi : i < L.loans.length) : L.loans[i]? = some (lastL L k) := by
 unfold lastL
 rw [lastI_of h, List.getElem?_eq_getElem hi, List.getD_eq_getElem?_getD, List.getElem?_eq_getElem hi]
 rfl
theorem endD_ok {n : Nat} {L : LibS} {x : SlipV} {lost : Bool} (h : LibN n L) (hs : L.at_ (x.piece, x.copy) = outW) : LibN n (endD L x lost) := by
 obtain ⟨i, e1, e2⟩ := h.ok.last _ (.inl hs)
 have hL := lastL_of e1 e2
 have hm := List.mem_of_getElem? hL
 unfold endD
 rw [lastI_of e1]
 refine ⟨⟨fun k hk => ?_, fun l hl => ?_, fun s o ho => ?_, fun k j hj => h.ok.small k j hj⟩, by simpa using h.loans, fun s o ho => ?_, fun l hl => (List.mem_or_eq_of_mem_set (show l ∈ L.loans.set i _ from hl)).elim (h.sing l) fun e => by rw [e]; exact h.sing (lastL L (x.piece, x.copy)) hm⟩
 ·rw [at_set] at hk
  simp only [List.length_set]
  by_cases e : k = (x.piece, x.copy)
  ·exact ⟨i, by rw [e]; exact e1, e2⟩
  ·rw [if_neg e] at hk
   exact h.ok.last k hk
 ·have hl : l ∈ L.loans.set i _ := hl
  have h9 : ∃ o, L.has l.singer = some o := by
   rcases List.mem_or_eq_of_mem_set hl with hl | rfl
   ·exact h.ok.has l hl
   ·exact h.ok.has (lastL L (x.piece, x.copy)) hm
  obtain ⟨o, ho⟩ := h9
  show ∃ o, (if l.singer = _ then _ else _) = some o
  by_cases e : l.singer = (lastL L (x.piece, x.copy)).singer
  ·rw [if_pos e, ho]; exact ⟨_, rfl⟩
  ·rw [if_neg e]; exact ⟨o, ho⟩
 ·have ho : (if s = _ then _ else _) = some o := ho
  by_cases e : s = (lastL L (x.piece, x.copy)).singer
  ·rw [if_pos e] at ho
   cases hh : L.has s with
   | none => rw [hh] at ho; cases ho
   | some z =>
     rw [hh] at ho
     cases ho
     exact List.Pairwise.filter _ (h.ok.once _ _ hh)
  ·rw [if_neg e] at ho
   exact h.ok.once s o ho
 ·have ho : (if s = _ then _ else _) = some o := ho
  by_cases e : s = (lastL L (x.piece, x.copy)).singer
  ·rw [if_pos e] at ho
   cases hh : L.has s with
   | none => rw [hh] at ho; cases ho
   | some z =>
     rw [hh] at ho
     cases ho
     exact Nat.le_trans (List.length_filter_le _ _) (h.own _ _ hh)
  ·rw [if_neg e] at ho
   exact h.own s o ho
theorem slipD_ok {n : Nat} {T : List TitleV} {r : LendR} {L : LibS} {x : SlipV} (h : LibN n L) (hn : n ≤ 100000) (hk : 1 ≤ x.kind ∧ x.kind ≤ 5) (hsx : x.singer.size ≤ 1000000) : LibN (n + 1) (slipD T r L x).1 := by
 unfold slipD
 by_cases h1 : isCopyT T (x.piece, x.copy) = false
 ·rw [if_pos h1]; exact h.le (by omega)
 rw [if_neg h1]
 by_cases h2 : L.at_ (x.piece, x.copy) ≠ needW x.kind
 ·rw [if_pos h2]; exact h.le (by omega)
 rw [if_neg h2]
 have h2 : L.at_ (x.piece, x.copy) = needW x.kind := Classical.byContradiction h2
 by_cases k1 : x.kind = 1
 ·rw [if_pos k1]; exact lendD_ok h hn hsx
 rw [if_neg k1]
 by_cases k2 : x.kind = 2 ∨ x.kind = 3
 ·rw [if_pos k2]
  refine (endD_ok h ?_).le (by omega)
  rw [h2]
  rcases k2 with e | e <;> rw [e] <;> rfl
 rw [if_neg k2]
 by_cases k4 : x.kind = 4
 ·rw [if_pos k4]
  have hs : L.at_ (x.piece, x.copy) = lostW := by rw [h2, k4]; rfl
  obtain ⟨i, e1, e2⟩ := h.ok.last _ (.inr hs)
  have hm := List.mem_of_getElem? (lastL_of e1 e2)
  rw [lastI_of e1]
  refine ⟨⟨fun k hk => ?_, fun l hl => ?_, fun s o ho => h.ok.once s o ho, fun k j hj => h.ok.small k j hj⟩, by have := h.loans; simp; omega, fun s o ho => Nat.le_trans (h.own s o ho) (by omega), fun l hl => (List.mem_or_eq_of_mem_set (show l ∈ L.loans.set i _ from hl)).elim (h.sing l) fun e => by rw [e]; exact h.sing (lastL L (x.piece, x.copy)) hm⟩
  ·rw [at_set] at hk
   simp only [List.length_set]
   by_cases e : k = (x.piece, x.copy)
   ·exact ⟨i, by rw [e]; exact e1, e2⟩
   ·rw [if_neg e] at hk
    exact h.ok.last k hk
  ·have hl : l ∈ L.loans.set i _ := hl
   rcases List.mem_or_eq_of_mem_set hl with hl | rfl
   ·exact h.ok.has l hl
   ·exact h.ok.has (lastL L (x.piece, x.copy)) hm
 rw [if_neg k4]
 refine ⟨⟨fun k hk => ?_, fun l hl => h.ok.has l hl, fun s o ho => h.ok.once s o ho, fun k j hj => h.ok.small k j hj⟩, Nat.le_trans h.loans (by omega), fun s o ho => Nat.le_trans (h.own s o ho) (by omega), h.sing⟩
 rw [at_set] at hk
 by_cases e : k = (x.piece, x.copy)
 ·rw [if_pos e] at hk
  rcases hk with hk | hk <;> exact absurd hk (by decide)
 ·rw [if_neg e] at hk
  exact h.ok.last k hk
/-! ### the order -/
def atD (d : List SlipV) (i : Nat) : Int := (d.getD i default).at_
/-- Places by moments, then as they stand. -/
def ByAt (d : List SlipV) (i k : Nat) : Prop := atD d i < atD d k ∨ (atD d i = atD d k ∧ i < k)
instance (d : List SlipV) (i k : Nat) : Decidable (ByAt d i k) := by unfold ByAt; exact inferInstance
theorem byAt_trans {d : List SlipV} {i j k : Nat} (h : ByAt d i j) (h2 : ByAt d j k) : ByAt d i k := by unfold ByAt at *; omega
theorem byAt_asym {d : List SlipV} {i k : Nat} (h : ByAt d i k) (h2 : ByAt d k i) : False := by unfold ByAt at *; omega
theorem byAt_tri {d : List SlipV} {i k : Nat} (h : i ≠ k) : ByAt d i k ∨ ByAt d k i := by unfold ByAt; omega
def selF (d : List SlipV) (t : Int) : List Nat := (List.range d.length).filter fun i => decide (atD d i ≤ t)
def ordF (d : List SlipV) (t : Int) : List Nat := (selF d t).mergeSort fun i k => decide (¬ ByAt d k i)
theorem ord_perm (d : List SlipV) (t : Int) : (ordF d t).Perm (selF d t) := List.mergeSort_perm _ _
theorem sel_nodup (d : List SlipV) (t : Int) : (selF d t).Nodup := List.Pairwise.filter _ List.nodup_range
theorem ord_nodup (d : List SlipV) (t : Int) : (ordF d t).Nodup := (ord_perm d t).nodup_iff.2 (sel_nodup d t)
theorem ord_rise (d : List SlipV) (t : Int) : (ordF d t).Pairwise (ByAt d) := by
 have h := List.pairwise_mergeSort (le := fun i k => decide (¬ ByAt d k i)) (fun a b c h1 h2 => by
  simp only [decide_eq_true_eq] at *
  unfold ByAt at *
  omega) (fun a b => by
  simp only [Bool.or_eq_true, decide_eq_true_eq]
  unfold ByAt
  omega) (selF d t)
 refine (List.Pairwise.and h (ord_nodup d t)).imp fun {a b} hab => ?_
 have h1 : ¬ ByAt d b a := by simpa using hab.1
 exact (byAt_tri hab.2).resolve_right h1
theorem ord_is {d : List SlipV} {t : Int} {M : List Nat} (hp : M.Perm (selF d t)) (hr : M.Pairwise (ByAt d)) : M = ordF d t :=
 same_of (fun _ _ => byAt_asym) hr (ord_rise d t) (hp.trans (ord_perm d t).symm)
theorem mem_sel {d : List SlipV} {t : Int} {i : Nat} : i ∈ selF d t ↔ i < d.length ∧ atD d i ≤ t := by unfold selF; simp
theorem mem_ord {d : List SlipV} {t : Int} {i : Nat} : i ∈ ordF d t ↔ i < d.length ∧ atD d i ≤ t := (ord_perm d t).mem_iff.trans mem_sel
theorem ord_len (d : List SlipV) (t : Int) : (ordF d t).length ≤ d.length := by
 rw [(ord_perm d t).length_eq]
 refine Nat.le_trans (List.length_filter_le _ _) (by simp)
/-! ### following -/
/-- How all copies are, and which slips are refused and why. -/
abbrev RunS := LibS × (Int → Option Int)
def stepR (T : List TitleV) (r : LendR) (d : List SlipV) (s : RunS) (i : Nat) : RunS :=
 ((slipD T r s.1 (d.getD i default)).1, if (slipD T r s.1 (d.getD i default)).2 = 0 then s.2 else setF s.2 (i : Int) (slipD T r s.1 (d.getD i default)).2)
def runR (T : List TitleV) (r : LendR) (d : List SlipV) (s : RunS) (is : List Nat) : RunS := is.foldl (stepR T r d) s
def libAt (T : List TitleV) (r : LendR) (d : List SlipV) (t : Int) : RunS := runR T r d (LibS.new, fun _ => none) (ordF d t)
theorem run_take {T : List TitleV} {r : LendR} {d : List SlipV} {s : RunS} {is : List Nat} {k i : Nat} (h : is[k]? = some i) : runR T r d s (is.take (k + 1)) = stepR T r d (runR T r d s (is.take k)) i := by
 unfold runR
 rw [take_snocL h, List.foldl_append]
 rfl
theorem run_ok {T : List TitleV} {r : LendR} {d : List SlipV} (hd : ∀ x ∈ d, (1 ≤ x.kind ∧ x.kind ≤ 5) ∧ x.singer.size ≤ 1000000) {is : List Nat} (hi : ∀ i ∈ is, i < d.length) : ∀ (k : Nat), k ≤ is.length → k ≤ 100000 → LibN k (runR T r d (LibS.new, fun _ => none) (is.take k)).1
 | 0, _, _ => by simpa [runR] using LibN.new
 | k + 1, hk, hb => by
   have e : is[k]? = some is[k] := List.getElem?_eq_getElem (by omega)
   rw [run_take e]
   have hm : is[k] < d.length := hi _ (List.getElem_mem _)
   have hx := hd d[is[k]] (List.getElem_mem _)
   have ed : d.getD is[k] default = d[is[k]] := by rw [List.getD_eq_getElem?_getD, List.getElem?_eq_getElem hm]; rfl
   unfold stepR
   rw [ed]
   exact slipD_ok (run_ok hd hi k (by omega) (by omega)) (by omega) hx.1 hx.2
end Go.Proofs.YtehboinleolihaaGreatDoor
