/- A library of copies, as slips are followed: plain. Conditions: as each theorem says. What slips up to a moment lead to: plain. Conditions: as each theorem says. -/
import Derived.Test.YtehboinleolihaaGreatDoorRzMgA
import Derived.Test.YtehboinleolihaaGreatDoorRzJ3
import Derived.Test.YtehboinleolihaaGreatDoorRzJ14
set_option linter.unusedSimpArgs false
set_option linter.unusedVariables false
namespace Go.Proofs.YtehboinleolihaaGreatDoor
open Go Go.RowKit Go.Sort

instance memDec (a : ByteArray) (l : List ByteArray) : Decidable (a ∈ l) := decidable_of_iff ((l.any fun z => decide (z = a)) = true) (by simp)
structure TitleV where
  piece : ByteArray
  owned : Int
  cost : Int
instance : Inhabited TitleV := ⟨⟨⟨#[]⟩, 0, 0⟩⟩
def titleC (x : TitleV) : List Value := [.string x.piece, .int .i64 x.owned, .int .i64 x.cost]
theorem titleC_len (x : TitleV) : (titleC x).length = 3 := rfl
theorem titleC_one (x : TitleV) : ∀ u ∈ titleC x, u.oneCell' = true := by simp [titleC, Value.oneCell']
theorem Elems.title {w : World} {b off : Nat} {xs : List TitleV} (h : Elems 3 titleC w b off xs) {i : Nat} {x : TitleV} (hx : xs[i]? = some x) :
    w.cell? ⟨b, off + i * 3, none⟩ = some (.string x.piece) ∧ w.cell? ⟨b, off + i * 3 + 1, none⟩ = some (.int .i64 x.owned) ∧ w.cell? ⟨b, off + i * 3 + 2, none⟩ = some (.int .i64 x.cost) :=
  ⟨h i x hx 0 _ rfl, h i x hx 1 _ rfl, h i x hx 2 _ rfl⟩
def TitleV.Small (x : TitleV) : Prop := x.piece.size ≤ 1000 ∧ -1099511627776 ≤ x.owned ∧ x.owned ≤ 1099511627776 ∧ -1099511627776 ≤ x.cost ∧ x.cost ≤ 1099511627776
def chkTi (xs : List TitleV) (i : Nat) : Int :=
  if keyB (atL default xs i).piece then (if (inB (atL default xs i).owned 1 500 && inB (atL default xs i).cost 0 10000) = true then (if 0 < i && leB (atL default xs i).piece (atL default xs (i - 1)).piece then 7 else 0) else 1) else 5
def titlesF (xs : List TitleV) : Int := if 300 < xs.length then 2 else scanF xs.length (chkTi xs)
structure LendR where
  days : Int
  late : Int
  most : Int
  each : Int
def lendF (r : LendR) : Int := if (inB r.days 1 1000 && inB r.late 0 10000 && inB r.most 0 10000 && inB r.each 1 300) = true then 0 else 1
theorem less_cb : ∀ a b : List UInt8, Op.bytesLess a b = decide (Lib.compareBytes a b = -1)
  | [], [] => by simp [Op.bytesLess, Lib.compareBytes]
  | [], _ :: _ => by simp [Op.bytesLess, Lib.compareBytes]
  | _ :: _, [] => by simp [Op.bytesLess, Lib.compareBytes]
  | a :: x, b :: y => by
    have ih := less_cb x y
    unfold Lib.compareBytes
    simp only [Op.bytesLess]
    rw [ih]
    by_cases h1 : a < b
    · have h1' : a.toNat < b.toNat := h1
      simp [h1, h1']
    · have h1' : ¬ a.toNat < b.toNat := h1
      by_cases h2 : b < a
      · have h2' : b.toNat < a.toNat := h2
        have h3 : ¬ a = b := fun e => by subst e; exact h1 h2
        simp [h1, h2, h3]
      · have h3 : a = b := u8_tri h1 h2
        subst h3
        simp [h1]
theorem lt_of_leB {x y : ByteArray} (h : leB x y = false) : cmpS y x = -1 := by
  unfold leB at h
  rw [less_cb, Lib.toList_data, Lib.toList_data, Bool.or_eq_false_iff, decide_eq_false_iff_not] at h
  rcases cmpS_three x y with e | e | e
  · exact absurd e h.1
  · have := cmpS_zero e
    rw [this] at h
    simp at h
  · exact cmpS_anti e
structure TitlesOk (T : List TitleV) : Prop where
  len : T.length ≤ 300
  one : ∀ x ∈ T, keyB x.piece = true ∧ 1 ≤ x.owned ∧ x.owned ≤ 500 ∧ 0 ≤ x.cost ∧ x.cost ≤ 10000
  rise : T.Pairwise fun a b => cmpS a.piece b.piece = -1
theorem titlesF_ok {xs : List TitleV} (h : titlesF xs = 0) : TitlesOk xs := by
  unfold titlesF at h
  have hl : xs.length ≤ 300 := by
    rcases Nat.lt_or_ge 300 xs.length with h1 | h1
    · rw [if_pos h1] at h; cases h
    · exact h1
  rw [if_neg (by omega)] at h
  have hz := scanZ h
  have hat : ∀ i x, xs[i]? = some x → keyB x.piece = true ∧ inB x.owned 1 500 = true ∧ inB x.cost 0 10000 = true ∧ (0 < i → leB x.piece (atL default xs (i - 1)).piece = false) := by
    intro i x hx
    have h0 := hz i (List.getElem?_eq_some_iff.1 hx).1
    unfold chkTi at h0
    rw [atL_of hx] at h0
    cases k1 : keyB x.piece
    · rw [k1] at h0; simp at h0
    cases k2 : inB x.owned 1 500
    · rw [k1, k2] at h0; simp at h0
    cases k4 : inB x.cost 0 10000
    · rw [k1, k2, k4] at h0; simp at h0
    refine ⟨rfl, rfl, rfl, fun hi => ?_⟩
    cases k3 : leB x.piece (atL default xs (i - 1)).piece
    · rfl
    · rw [k1, k2, k3, k4] at h0; simp [hi] at h0
  refine ⟨hl, fun x hx => ?_, pw_get (pw_of_next (r := fun (a b : TitleV) => cmpS a.piece b.piece = -1) (fun _ _ _ h k => cmpS_trans h k) fun i x y hx hy => ?_)⟩
  · obtain ⟨i, hi, e⟩ := List.getElem_of_mem hx
    obtain ⟨h1, h2, h3, -⟩ := hat i x (by rw [List.getElem?_eq_getElem hi, e])
    unfold inB at h2 h3
    simp at h2 h3
    exact ⟨h1, h2.1, h2.2, h3.1, h3.2⟩
  · have := (hat (i + 1) y hy).2.2.2 (by omega)
    rw [Nat.add_sub_cancel, atL_of hx] at this
    exact lt_of_leB this
/-- A title by its piece. -/
def titleOf (T : List TitleV) (p : ByteArray) : Option TitleV := T.find? fun t => decide (t.piece = p)
abbrev IdV := ByteArray × Int
def isCopyT (T : List TitleV) (k : IdV) : Bool := match titleOf T k.1 with
  | some t => !outB k.2 1 t.owned
  | none => false
structure LoanV where
  piece : ByteArray
  no : Int
  singer : ByteArray
  since : Int
  till : Int
  lost : Bool
instance : Inhabited LoanV := ⟨⟨⟨#[]⟩, 0, ⟨#[]⟩, 0, 0, false⟩⟩
def loanC (x : LoanV) : List Value := [.string x.piece, .int .i64 x.no, .string x.singer, .int .i64 x.since, .int .i64 x.till, .bool x.lost]
theorem loanC_len (x : LoanV) : (loanC x).length = 6 := rfl
theorem loanC_one (x : LoanV) : ∀ u ∈ loanC x, u.oneCell' = true := by simp [loanC, Value.oneCell']
/-- How all copies are. -/
structure LibS where
  st : IdV → Option ByteArray
  last : IdV → Option Int
  loans : List LoanV
  has : ByteArray → Option (List ByteArray)
def inW : ByteArray := ⟨#[105, 110]⟩
def outW : ByteArray := ⟨#[111, 117, 116]⟩
def lostW : ByteArray := ⟨#[108, 111, 115, 116]⟩
def goneW : ByteArray := ⟨#[103, 111, 110, 101]⟩
def LibS.new : LibS := ⟨fun _ => none, fun _ => none, [], fun _ => none⟩
def LibS.at_ (L : LibS) (k : IdV) : ByteArray := (L.st k).getD inW
def needW (k : Int) : ByteArray := if k = 1 then inW else if k = 2 then outW else if k = 3 then outW else if k = 4 then lostW else if k = 5 then inW else ⟨#[]⟩
def setF {α β : Type} [DecidableEq α] (f : α → Option β) (k : α) (v : β) : α → Option β := fun q => if q = k then some v else f q
def ownOf (L : LibS) (s : ByteArray) : List ByteArray := (L.has s).getD []
/-- A copy that is in is lent. -/
def lendD (r : LendR) (L : LibS) (x : SlipV) : LibS × Int :=
  if x.piece ∈ ownOf L x.singer then (L, 6) else if r.each ≤ (ownOf L x.singer).length then (L, 12) else
    (⟨setF L.st (x.piece, x.copy) outW, setF L.last (x.piece, x.copy) (L.loans.length : Int), L.loans ++ [⟨x.piece, x.copy, x.singer, x.at_, -1, false⟩], setF L.has x.singer (ownOf L x.singer ++ [x.piece])⟩, 0)
def lastI (L : LibS) (k : IdV) : Nat := ((L.last k).getD 0).toNat
def lastL (L : LibS) (k : IdV) : LoanV := L.loans.getD (lastI L k) default
/-- The loan of a copy that is out ends. -/
def endD (L : LibS) (x : SlipV) (lost : Bool) : LibS :=
  ⟨setF L.st (x.piece, x.copy) (if lost then lostW else inW), L.last, L.loans.set (lastI L (x.piece, x.copy)) { lastL L (x.piece, x.copy) with till := x.at_, lost := lost },
    fun s => if s = (lastL L (x.piece, x.copy)).singer then (L.has s).map fun l => l.filter fun p => decide (p ≠ x.piece) else L.has s⟩
/-- A slip is followed. -/
def slipD (T : List TitleV) (r : LendR) (L : LibS) (x : SlipV) : LibS × Int :=
  if isCopyT T (x.piece, x.copy) = false then (L, 8) else if L.at_ (x.piece, x.copy) ≠ needW x.kind then (L, 11) else
  if x.kind = 1 then lendD r L x else if x.kind = 2 ∨ x.kind = 3 then (endD L x (decide (x.kind = 3)), 0) else
  if x.kind = 4 then (⟨setF L.st (x.piece, x.copy) inW, L.last, L.loans.set (lastI L (x.piece, x.copy)) { lastL L (x.piece, x.copy) with lost := false }, L.has⟩, 0)
  else (⟨setF L.st (x.piece, x.copy) goneW, L.last, L.loans, L.has⟩, 0)
/-- What always holds of a library: copies that are out or lost have a last loan, whose singer has a row of pieces; a singer's pieces are different. -/
structure LibOk (L : LibS) : Prop where
  last : ∀ k, L.at_ k = outW ∨ L.at_ k = lostW → ∃ i : Nat, L.last k = some (i : Int) ∧ i < L.loans.length
  has : ∀ l ∈ L.loans, ∃ o, L.has l.singer = some o
  once : ∀ s o, L.has s = some o → o.Nodup
  small : ∀ k i, L.last k = some i → 0 ≤ i ∧ i ≤ 100000
theorem LibOk.new : LibOk LibS.new := ⟨fun k h => by rcases h with h | h <;> exact absurd h (by show inW ≠ _; decide), fun l hl => by simp [LibS.new] at hl, (fun s o h => by simp [LibS.new] at h), fun k i h => by simp [LibS.new] at h⟩
end Go.Proofs.YtehboinleolihaaGreatDoor

namespace Go.Proofs.YtehboinleolihaaGreatDoor
open Go Go.RowKit Go.Sort

/-! ### what always holds -/
structure LibN (n : Nat) (L : LibS) : Prop where
  ok : LibOk L
  loans : L.loans.length ≤ n
  own : ∀ s o, L.has s = some o → o.length ≤ n
  sing : ∀ l ∈ L.loans, l.singer.size ≤ 1000000
theorem LibN.new : LibN 0 LibS.new := ⟨LibOk.new, Nat.le_refl _, (fun s o h => by simp [LibS.new] at h), fun l hl => by simp [LibS.new] at hl⟩
theorem LibN.le {n m : Nat} {L : LibS} (h : LibN n L) (hm : n ≤ m) : LibN m L := ⟨h.ok, Nat.le_trans h.loans hm, fun s o e => Nat.le_trans (h.own s o e) hm, h.sing⟩
theorem at_set (L : LibS) (k q : IdV) (v : ByteArray) (la : IdV → Option Int) (lo : List LoanV) (ha : ByteArray → Option (List ByteArray)) : (⟨setF L.st k v, la, lo, ha⟩ : LibS).at_ q = if q = k then v else L.at_ q := by
  unfold LibS.at_ setF
  by_cases e : q = k
  · simp [e]
  · simp [e]
theorem setF_some {α β : Type} [DecidableEq α] {f : α → Option β} {k q : α} {v : β} : (setF f k v q) = if q = k then some v else f q := rfl
theorem lendD_ok {n : Nat} {r : LendR} {L : LibS} {x : SlipV} (h : LibN n L) (hn : n ≤ 100000) (hsx : x.singer.size ≤ 1000000) : LibN (n + 1) (lendD r L x).1 := by
  unfold lendD
  by_cases h1 : x.piece ∈ ownOf L x.singer
  · rw [if_pos h1]; exact h.le (by omega)
  rw [if_neg h1]
  by_cases h2 : r.each ≤ (ownOf L x.singer).length
  · rw [if_pos h2]; exact h.le (by omega)
  rw [if_neg h2]
  have hl := h.loans
  refine ⟨⟨fun k hk => ?_, fun l hm => ?_, fun s o hs => ?_, fun k i hi => ?_⟩, by simp; omega, fun s o hs => ?_, fun l hl => (List.mem_append.1 hl).elim (h.sing l) fun hl => by rw [List.mem_singleton.1 hl]; exact hsx⟩
  · rw [at_set] at hk
    by_cases e : k = (x.piece, x.copy)
    · exact ⟨L.loans.length, by show setF _ _ _ _ = _; rw [setF_some, if_pos e], by simp⟩
    · rw [if_neg e] at hk
      obtain ⟨i, e1, e2⟩ := h.ok.last k hk
      exact ⟨i, by show setF _ _ _ _ = _; rw [setF_some, if_neg e]; exact e1, by simp; omega⟩
  · show ∃ o, setF L.has x.singer _ l.singer = some o
    rw [setF_some]
    by_cases e : l.singer = x.singer
    · exact ⟨_, if_pos e⟩
    · rw [if_neg e]
      rcases List.mem_append.1 hm with hm | hm
      · exact h.ok.has l hm
      · rw [List.mem_singleton.1 hm] at e
        exact absurd rfl e
  · have hs : setF L.has x.singer _ s = some o := hs
    rw [setF_some] at hs
    by_cases e : s = x.singer
    · rw [if_pos e] at hs
      cases hs
      refine List.nodup_append.2 ⟨?_, by simp, fun a ha b hb => by rw [List.mem_singleton.1 hb]; exact fun e => h1 (e ▸ ha)⟩
      unfold ownOf
      cases hh : L.has x.singer with
      | none => simp
      | some o => exact h.ok.once _ _ hh
    · rw [if_neg e] at hs
      exact h.ok.once s o hs
  · have hi : setF L.last _ _ k = some i := hi
    rw [setF_some] at hi
    by_cases e : k = (x.piece, x.copy)
    · rw [if_pos e] at hi
      cases hi
      omega
    · rw [if_neg e] at hi
      exact h.ok.small k i hi
  · have hs : setF L.has x.singer _ s = some o := hs
    rw [setF_some] at hs
    by_cases e : s = x.singer
    · rw [if_pos e] at hs
      cases hs
      unfold ownOf
      cases hh : L.has x.singer with
      | none => simp
      | some o => have := h.own _ _ hh; simp; omega
    · rw [if_neg e] at hs
      exact Nat.le_trans (h.own s o hs) (by omega)
theorem lastI_of {L : LibS} {k : IdV} {i : Nat} (h : L.last k = some (i : Int)) : lastI L k = i := by unfold lastI; rw [h]; simp
theorem lastL_of {L : LibS} {k : IdV} {i : Nat} (h : L.last k = some (i : Int)) (hi : i < L.loans.length) : L.loans[i]? = some (lastL L k) := by
  unfold lastL
  rw [lastI_of h, List.getElem?_eq_getElem hi, List.getD_eq_getElem?_getD, List.getElem?_eq_getElem hi]
  rfl
theorem endD_ok {n : Nat} {L : LibS} {x : SlipV} {lost : Bool} (h : LibN n L) (hs : L.at_ (x.piece, x.copy) = outW) : LibN n (endD L x lost) := by
  obtain ⟨i, e1, e2⟩ := h.ok.last _ (.inl hs)
  have hL := lastL_of e1 e2
  have hm := List.mem_of_getElem? hL
  unfold endD
  rw [lastI_of e1]
  refine ⟨⟨fun k hk => ?_, fun l hl => ?_, fun s o ho => ?_, fun k j hj => h.ok.small k j hj⟩, by simpa using h.loans, fun s o ho => ?_, fun l hl => (List.mem_or_eq_of_mem_set (show l ∈ L.loans.set i _ from hl)).elim (h.sing l) fun e => by rw [e]; exact h.sing (lastL L (x.piece, x.copy)) hm⟩
  · rw [at_set] at hk
    simp only [List.length_set]
    by_cases e : k = (x.piece, x.copy)
    · exact ⟨i, by rw [e]; exact e1, e2⟩
    · rw [if_neg e] at hk
      exact h.ok.last k hk
  · have hl : l ∈ L.loans.set i _ := hl
    have h9 : ∃ o, L.has l.singer = some o := by
      rcases List.mem_or_eq_of_mem_set hl with hl | rfl
      · exact h.ok.has l hl
      · exact h.ok.has (lastL L (x.piece, x.copy)) hm
    obtain ⟨o, ho⟩ := h9
    show ∃ o, (if l.singer = _ then _ else _) = some o
    by_cases e : l.singer = (lastL L (x.piece, x.copy)).singer
    · rw [if_pos e, ho]; exact ⟨_, rfl⟩
    · rw [if_neg e]; exact ⟨o, ho⟩
  · have ho : (if s = _ then _ else _) = some o := ho
    by_cases e : s = (lastL L (x.piece, x.copy)).singer
    · rw [if_pos e] at ho
      cases hh : L.has s with
      | none => rw [hh] at ho; cases ho
      | some z =>
        rw [hh] at ho
        cases ho
        exact List.Pairwise.filter _ (h.ok.once _ _ hh)
    · rw [if_neg e] at ho
      exact h.ok.once s o ho
  · have ho : (if s = _ then _ else _) = some o := ho
    by_cases e : s = (lastL L (x.piece, x.copy)).singer
    · rw [if_pos e] at ho
      cases hh : L.has s with
      | none => rw [hh] at ho; cases ho
      | some z =>
        rw [hh] at ho
        cases ho
        exact Nat.le_trans (List.length_filter_le _ _) (h.own _ _ hh)
    · rw [if_neg e] at ho
      exact h.own s o ho
theorem slipD_ok {n : Nat} {T : List TitleV} {r : LendR} {L : LibS} {x : SlipV} (h : LibN n L) (hn : n ≤ 100000) (hk : 1 ≤ x.kind ∧ x.kind ≤ 5) (hsx : x.singer.size ≤ 1000000) : LibN (n + 1) (slipD T r L x).1 := by
  unfold slipD
  by_cases h1 : isCopyT T (x.piece, x.copy) = false
  · rw [if_pos h1]; exact h.le (by omega)
  rw [if_neg h1]
  by_cases h2 : L.at_ (x.piece, x.copy) ≠ needW x.kind
  · rw [if_pos h2]; exact h.le (by omega)
  rw [if_neg h2]
  have h2 : L.at_ (x.piece, x.copy) = needW x.kind := Classical.byContradiction h2
  by_cases k1 : x.kind = 1
  · rw [if_pos k1]; exact lendD_ok h hn hsx
  rw [if_neg k1]
  by_cases k2 : x.kind = 2 ∨ x.kind = 3
  · rw [if_pos k2]
    refine (endD_ok h ?_).le (by omega)
    rw [h2]
    rcases k2 with e | e <;> rw [e] <;> rfl
  rw [if_neg k2]
  by_cases k4 : x.kind = 4
  · rw [if_pos k4]
    have hs : L.at_ (x.piece, x.copy) = lostW := by rw [h2, k4]; rfl
    obtain ⟨i, e1, e2⟩ := h.ok.last _ (.inr hs)
    have hm := List.mem_of_getElem? (lastL_of e1 e2)
    rw [lastI_of e1]
    refine ⟨⟨fun k hk => ?_, fun l hl => ?_, fun s o ho => h.ok.once s o ho, fun k j hj => h.ok.small k j hj⟩, by have := h.loans; simp; omega, fun s o ho => Nat.le_trans (h.own s o ho) (by omega), fun l hl => (List.mem_or_eq_of_mem_set (show l ∈ L.loans.set i _ from hl)).elim (h.sing l) fun e => by rw [e]; exact h.sing (lastL L (x.piece, x.copy)) hm⟩
    · rw [at_set] at hk
      simp only [List.length_set]
      by_cases e : k = (x.piece, x.copy)
      · exact ⟨i, by rw [e]; exact e1, e2⟩
      · rw [if_neg e] at hk
        exact h.ok.last k hk
    · have hl : l ∈ L.loans.set i _ := hl
      rcases List.mem_or_eq_of_mem_set hl with hl | rfl
      · exact h.ok.has l hl
      · exact h.ok.has (lastL L (x.piece, x.copy)) hm
  rw [if_neg k4]
  refine ⟨⟨fun k hk => ?_, fun l hl => h.ok.has l hl, fun s o ho => h.ok.once s o ho, fun k j hj => h.ok.small k j hj⟩, Nat.le_trans h.loans (by omega), fun s o ho => Nat.le_trans (h.own s o ho) (by omega), h.sing⟩
  rw [at_set] at hk
  by_cases e : k = (x.piece, x.copy)
  · rw [if_pos e] at hk
    rcases hk with hk | hk <;> exact absurd hk (by decide)
  · rw [if_neg e] at hk
    exact h.ok.last k hk

/-! ### the order -/
def atD (d : List SlipV) (i : Nat) : Int := (d.getD i default).at_
/-- Places by moments, then as they stand. -/
def ByAt (d : List SlipV) (i k : Nat) : Prop := atD d i < atD d k ∨ (atD d i = atD d k ∧ i < k)
instance (d : List SlipV) (i k : Nat) : Decidable (ByAt d i k) := by unfold ByAt; exact inferInstance
theorem byAt_trans {d : List SlipV} {i j k : Nat} (h : ByAt d i j) (h2 : ByAt d j k) : ByAt d i k := by unfold ByAt at *; omega
theorem byAt_asym {d : List SlipV} {i k : Nat} (h : ByAt d i k) (h2 : ByAt d k i) : False := by unfold ByAt at *; omega
theorem byAt_tri {d : List SlipV} {i k : Nat} (h : i ≠ k) : ByAt d i k ∨ ByAt d k i := by unfold ByAt; omega
def selF (d : List SlipV) (t : Int) : List Nat := (List.range d.length).filter fun i => decide (atD d i ≤ t)
def ordF (d : List SlipV) (t : Int) : List Nat := (selF d t).mergeSort fun i k => decide (¬ ByAt d k i)
theorem ord_perm (d : List SlipV) (t : Int) : (ordF d t).Perm (selF d t) := List.mergeSort_perm _ _
theorem sel_nodup (d : List SlipV) (t : Int) : (selF d t).Nodup := List.Pairwise.filter _ List.nodup_range
theorem ord_nodup (d : List SlipV) (t : Int) : (ordF d t).Nodup := (ord_perm d t).nodup_iff.2 (sel_nodup d t)
theorem ord_rise (d : List SlipV) (t : Int) : (ordF d t).Pairwise (ByAt d) := by
  have h := List.pairwise_mergeSort (le := fun i k => decide (¬ ByAt d k i)) (fun a b c h1 h2 => by
    simp only [decide_eq_true_eq] at *
    unfold ByAt at *
    omega) (fun a b => by
    simp only [Bool.or_eq_true, decide_eq_true_eq]
    unfold ByAt
    omega) (selF d t)
  refine (List.Pairwise.and h (ord_nodup d t)).imp fun {a b} hab => ?_
  have h1 : ¬ ByAt d b a := by simpa using hab.1
  exact (byAt_tri hab.2).resolve_right h1
theorem ord_is {d : List SlipV} {t : Int} {M : List Nat} (hp : M.Perm (selF d t)) (hr : M.Pairwise (ByAt d)) : M = ordF d t :=
  same_of (fun _ _ => byAt_asym) hr (ord_rise d t) (hp.trans (ord_perm d t).symm)
theorem mem_sel {d : List SlipV} {t : Int} {i : Nat} : i ∈ selF d t ↔ i < d.length ∧ atD d i ≤ t := by unfold selF; simp
theorem mem_ord {d : List SlipV} {t : Int} {i : Nat} : i ∈ ordF d t ↔ i < d.length ∧ atD d i ≤ t := (ord_perm d t).mem_iff.trans mem_sel
theorem ord_len (d : List SlipV) (t : Int) : (ordF d t).length ≤ d.length := by
  rw [(ord_perm d t).length_eq]
  refine Nat.le_trans (List.length_filter_le _ _) (by simp)

/-! ### following -/
/-- How all copies are, and which slips are refused and why. -/
abbrev RunS := LibS × (Int → Option Int)
def stepR (T : List TitleV) (r : LendR) (d : List SlipV) (s : RunS) (i : Nat) : RunS :=
  ((slipD T r s.1 (d.getD i default)).1, if (slipD T r s.1 (d.getD i default)).2 = 0 then s.2 else setF s.2 (i : Int) (slipD T r s.1 (d.getD i default)).2)
def runR (T : List TitleV) (r : LendR) (d : List SlipV) (s : RunS) (is : List Nat) : RunS := is.foldl (stepR T r d) s
def libAt (T : List TitleV) (r : LendR) (d : List SlipV) (t : Int) : RunS := runR T r d (LibS.new, fun _ => none) (ordF d t)
theorem run_take {T : List TitleV} {r : LendR} {d : List SlipV} {s : RunS} {is : List Nat} {k i : Nat} (h : is[k]? = some i) : runR T r d s (is.take (k + 1)) = stepR T r d (runR T r d s (is.take k)) i := by
  unfold runR
  rw [take_snocL h, List.foldl_append]
  rfl
theorem run_ok {T : List TitleV} {r : LendR} {d : List SlipV} (hd : ∀ x ∈ d, (1 ≤ x.kind ∧ x.kind ≤ 5) ∧ x.singer.size ≤ 1000000) {is : List Nat} (hi : ∀ i ∈ is, i < d.length) : ∀ (k : Nat), k ≤ is.length → k ≤ 100000 → LibN k (runR T r d (LibS.new, fun _ => none) (is.take k)).1
  | 0, _, _ => by simpa [runR] using LibN.new
  | k + 1, hk, hb => by
    have e : is[k]? = some is[k] := List.getElem?_eq_getElem (by omega)
    rw [run_take e]
    have hm : is[k] < d.length := hi _ (List.getElem_mem _)
    have hx := hd d[is[k]] (List.getElem_mem _)
    have ed : d.getD is[k] default = d[is[k]] := by rw [List.getD_eq_getElem?_getD, List.getElem?_eq_getElem hm]; rfl
    unfold stepR
    rw [ed]
    exact slipD_ok (run_ok hd hi k (by omega) (by omega)) (by omega) hx.1 hx.2
end Go.Proofs.YtehboinleolihaaGreatDoor
