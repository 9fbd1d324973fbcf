/- A text of things, a line each: what is written is read as it was; what is read is written so. Plain mathematics. Conditions: as each theorem says. -/
import Derived.Test.YtboplnogfjmpnaaGreatDoorVkJ16
set_option linter.unusedSimpArgs false
set_option linter.unusedVariables false
namespace Go.Proofs.YtboplnogfjmpnaaGreatDoor
open Go Go.Lib Go.RowKit

theorem lineG_len {W : List ByteArray} {m : Nat} (h : ∀ w ∈ W, w.data.toList.length ≤ m) : (join (bytesW W) [32]).length ≤ W.length * (m + 1) := by
  have := join_len 32 (m := m) (bytesW W) fun l hl => by
    obtain ⟨w, hw, rfl⟩ := List.mem_map.1 hl
    exact h w hw
  unfold bytesW at this ⊢
  rw [List.length_map] at this
  exact this
theorem itoa_len {n : Int} (h0 : 0 ≤ n) (h1 : n < 1000000000000000) : (itoaL n).data.toList.length ≤ 40 := by
  obtain ⟨k, rfl⟩ : ∃ k : Nat, n = k := ⟨n.toNat, by omega⟩
  have e : (itoaL (k : Int)).data.toList = Lib.decDigits k := by
    show (Lib.itoa (k : Int)).toArray.toList = _
    rw [Lib.itoa_nonneg]
  rw [e]
  have := dec_small (n := k) (m := 15) (by omega) (by omega)
  omega
theorem numV_in {s : ByteArray} (h : numOk 15 s = true) : -1000000000000000 ≤ numV s ∧ numV s ≤ 1000000000000000 := by
  unfold numOk at h
  simp only [Bool.and_eq_true, Bool.not_eq_true', decide_eq_true_eq] at h
  obtain ⟨⟨⟨h1, h2⟩, h3⟩, h4⟩ := h
  obtain ⟨v, hv, hlt, -⟩ := num_atoi h1 h2 (by simpa using h3) (by decide)
  unfold numV
  rw [hv]
  simp only [Option.getD_some]
  split <;> omega
theorem getG {α : Type} {L : List α} (d : α) (h : L.length = 4) : L = [L.getD 0 d, L.getD 1 d, L.getD 2 d, L.getD 3 d] := by
  match L, h with
  | [a, b, c, e], _ => rfl

def textG {α : Type} (ln : α → List UInt8) (d : List α) : List UInt8 := d.flatMap fun x => ln x ++ [10]
/-- Whether a line is wrong. -/
def badG {α : Type} (rd : List UInt8 → Option α) (ls : List (List UInt8)) (ended : Bool) (i : Nat) : Bool := (rd (ls.getD i [])).isNone || (!ended && decide (i + 1 = ls.length))
theorem textG_step {α : Type} {ln : α → List UInt8} {xs : List α} {k : Nat} {x : α} (hx : xs[k]? = some x) : textG ln (xs.take (k + 1)) = textG ln (xs.take k) ++ (ln x ++ [10]) := by
  obtain ⟨hk, e⟩ := List.getElem?_eq_some_iff.1 hx
  unfold textG
  rw [List.take_succ_eq_append_getElem hk, e, List.flatMap_append]
  simp
theorem textG_len {α : Type} {ln : α → List UInt8} {m : Nat} : ∀ {d : List α}, (∀ x ∈ d, (ln x).length ≤ m) → (textG ln d).length ≤ d.length * (m + 1)
  | [], _ => by simp [textG]
  | x :: d, h => by
    have ih := textG_len (d := d) fun y hy => h y (List.mem_cons_of_mem _ hy)
    have := h x List.mem_cons_self
    show ((ln x ++ [10]) ++ textG ln d).length ≤ _
    simp only [List.length_append, List.length_cons, List.length_nil]
    have e : (d.length + 1) * (m + 1) = d.length * (m + 1) + (m + 1) := by rw [Nat.add_mul d.length 1]; omega
    omega
/-- The first line that is wrong. -/
def badAtG {α : Type} (rd : List UInt8 → Option α) (t : List UInt8) : Option Nat := (List.range (linesF t).length).find? (badG rd (linesF t) (endedF t))
theorem badAtG_none {α : Type} {rd : List UInt8 → Option α} {t : List UInt8} : badAtG rd t = none ↔ ∀ i, i < (linesF t).length → badG rd (linesF t) (endedF t) i = false := by
  unfold badAtG
  rw [List.find?_eq_none]
  constructor
  · intro h i hi
    have := h i (List.mem_range.2 hi)
    cases hb : badG rd (linesF t) (endedF t) i with
    | false => rfl
    | true => exact absurd hb this
  · intro h i hi e
    rw [h i (List.mem_range.1 hi)] at e
    cases e
theorem badAtG_some {α : Type} {rd : List UInt8 → Option α} {t : List UInt8} {k : Nat} (hk : k < (linesF t).length) (hz : ∀ i, i < k → badG rd (linesF t) (endedF t) i = false) (hb : badG rd (linesF t) (endedF t) k = true) : badAtG rd t = some k := by
  unfold badAtG
  rw [List.find?_range_eq_some]
  exact ⟨hb, List.mem_range.2 hk, fun j hj => by rw [hz j hj]; rfl⟩
theorem badG_of {α : Type} {rd : List UInt8 → Option α} {t : List UInt8} {k : Nat} {x : ByteArray} (hx : (linesB t)[k]? = some x) (E : Bool) : badG rd (linesF t) E k = ((rd x.data.toList).isNone || (!E && decide (k + 1 = (linesB t).length))) := by
  unfold badG
  rw [linesB_len, List.getD_eq_getElem?_getD, linesB_at hx]
  rfl
/-- What a reader answers: the things, the line, the fault. -/
def readG {α : Type} (rd : List UInt8 → Option α) (flt : List α → Int) (t : List UInt8) : List α × Int × Int :=
  if 200000 < t.length then ([], 0, 2) else match badAtG rd t with
    | some k => ([], (k : Int), 9)
    | none => if flt ((linesF t).filterMap rd) = 0 then ((linesF t).filterMap rd, 0, 0) else ([], 0, flt ((linesF t).filterMap rd))
/-- What a writer answers. -/
def textRG {α : Type} (ln : α → List UInt8) (flt : List α → Int) (xs : List α) : ByteArray × Int := if flt xs = 0 then (if 200000 < (textG ln xs).length then (⟨#[]⟩, 2) else (⟨(textG ln xs).toArray⟩, 0)) else (⟨#[]⟩, flt xs)
theorem readG_fault {α : Type} {rd : List UInt8 → Option α} {flt : List α → Int} {t : List UInt8} (hlen : ¬ 200000 < t.length) (h : ∀ i, i < (linesF t).length → badG rd (linesF t) (endedF t) i = false) :
    readG rd flt t = if flt ((linesF t).filterMap rd) = 0 then ((linesF t).filterMap rd, 0, 0) else ([], 0, flt ((linesF t).filterMap rd)) := by
  unfold readG
  rw [if_neg hlen, badAtG_none.2 h]
theorem readG_bad {α : Type} {rd : List UInt8 → Option α} {flt : List α → Int} {t : List UInt8} {k : Nat} (hlen : ¬ 200000 < t.length) (hk : k < (linesF t).length) (hz : ∀ i, i < k → badG rd (linesF t) (endedF t) i = false) (hb : badG rd (linesF t) (endedF t) k = true) : readG rd flt t = ([], (k : Int), 9) := by
  unfold readG
  rw [if_neg hlen, badAtG_some hk hz hb]
end Go.Proofs.YtboplnogfjmpnaaGreatDoor
