/- A text of things, a line each: what is written is read as it was; what is read is written so. Plain mathematics. Conditions: as each theorem says. -/
import Derived.Test.YtboplnogfjmpnaaGreatDoorVbTxD
set_option linter.unusedSimpArgs false
set_option linter.unusedVariables false
namespace Go.Proofs.YtboplnogfjmpnaaGreatDoor
open Go Go.Lib Go.RowKit

theorem wordsG_line {W : List ByteArray} (hne : W ≠ []) (h : ∀ w ∈ W, (32 : UInt8) ∉ w.data.toList) : wordsL (join (bytesW W) [32]) = W := by
  unfold wordsL
  rw [cut_join 32 (by unfold bytesW; simp [hne]) fun l hl => by
    obtain ⟨w, hw, rfl⟩ := List.mem_map.1 hl
    exact h w hw]
  unfold bytesW
  rw [List.map_map]
  exact List.map_id'' (fun w => ba_eq rfl) _
theorem nofeedG_line {W : List ByteArray} (h : ∀ w ∈ W, (10 : UInt8) ∉ w.data.toList) : (10 : UInt8) ∉ join (bytesW W) [32] := by
  have key : ∀ L : List (List UInt8), (∀ l ∈ L, (10 : UInt8) ∉ l) → (10 : UInt8) ∉ join L [32] := by
    intro L
    induction L with
    | nil => intro _ h; cases h
    | cons x r ih =>
      intro hL
      cases r with
      | nil => rw [join_one]; exact hL x List.mem_cons_self
      | cons y r =>
        rw [joinL_cons2]
        intro hm
        rcases List.mem_append.1 hm with h1 | h1
        · exact hL x List.mem_cons_self h1
        · rcases List.mem_cons.1 h1 with h2 | h2
          · cases h2
          · exact ih (fun l hl => hL l (List.mem_cons_of_mem _ hl)) h2
  refine key _ fun l hl => ?_
  obtain ⟨w, hw, rfl⟩ := List.mem_map.1 hl
  exact h w hw
theorem backG_line (s : List UInt8) : join (bytesW (wordsL s)) [32] = s := by rw [wordsL_bytes, join_cut]
theorem lineG_len {W : List ByteArray} {m : Nat} (h : ∀ w ∈ W, w.data.toList.length ≤ m) : (join (bytesW W) [32]).length ≤ W.length * (m + 1) := by
  have := join_len 32 (m := m) (bytesW W) fun l hl => by
    obtain ⟨w, hw, rfl⟩ := List.mem_map.1 hl
    exact h w hw
  unfold bytesW at this ⊢
  rw [List.length_map] at this
  exact this
theorem itoa_len {n : Int} (h0 : 0 ≤ n) (h1 : n < 1000000000000000) : (itoaL n).data.toList.length ≤ 40 := by
  obtain ⟨k, rfl⟩ : ∃ k : Nat, n = k := ⟨n.toNat, by omega⟩
  have e : (itoaL (k : Int)).data.toList = Lib.decDigits k := by
    show (Lib.itoa (k : Int)).toArray.toList = _
    rw [Lib.itoa_nonneg]
  rw [e]
  have := dec_small (n := k) (m := 15) (by omega) (by omega)
  omega
theorem numV_in {s : ByteArray} (h : numOk 15 s = true) : -1000000000000000 ≤ numV s ∧ numV s ≤ 1000000000000000 := by
  unfold numOk at h
  simp only [Bool.and_eq_true, Bool.not_eq_true', decide_eq_true_eq] at h
  obtain ⟨⟨⟨h1, h2⟩, h3⟩, h4⟩ := h
  obtain ⟨v, hv, hlt, -⟩ := num_atoi h1 h2 (by simpa using h3) (by decide)
  unfold numV
  rw [hv]
  simp only [Option.getD_some]
  split <;> omega
theorem getG {α : Type} {L : List α} (d : α) (h : L.length = 4) : L = [L.getD 0 d, L.getD 1 d, L.getD 2 d, L.getD 3 d] := by
  match L, h with
  | [a, b, c, e], _ => rfl

/-- A thing's line, and a line's thing. -/
structure LineFmt {α : Type} (ln : α → List UInt8) (rd : List UInt8 → Option α) (Ok : α → Prop) : Prop where
  of_ : ∀ {s x}, rd s = some x → ln x = s
  read : ∀ {x}, Ok x → rd (ln x) = some x
  nofeed : ∀ {x}, Ok x → (10 : UInt8) ∉ ln x
def textG {α : Type} (ln : α → List UInt8) (d : List α) : List UInt8 := d.flatMap fun x => ln x ++ [10]
/-- Whether a line is wrong. -/
def badG {α : Type} (rd : List UInt8 → Option α) (ls : List (List UInt8)) (ended : Bool) (i : Nat) : Bool := (rd (ls.getD i [])).isNone || (!ended && decide (i + 1 = ls.length))
theorem textG_step {α : Type} {ln : α → List UInt8} {xs : List α} {k : Nat} {x : α} (hx : xs[k]? = some x) : textG ln (xs.take (k + 1)) = textG ln (xs.take k) ++ (ln x ++ [10]) := by
  obtain ⟨hk, e⟩ := List.getElem?_eq_some_iff.1 hx
  unfold textG
  rw [List.take_succ_eq_append_getElem hk, e, List.flatMap_append]
  simp
theorem textG_len {α : Type} {ln : α → List UInt8} {m : Nat} : ∀ {d : List α}, (∀ x ∈ d, (ln x).length ≤ m) → (textG ln d).length ≤ d.length * (m + 1)
  | [], _ => by simp [textG]
  | x :: d, h => by
    have ih := textG_len (d := d) fun y hy => h y (List.mem_cons_of_mem _ hy)
    have := h x List.mem_cons_self
    show ((ln x ++ [10]) ++ textG ln d).length ≤ _
    simp only [List.length_append, List.length_cons, List.length_nil]
    have e : (d.length + 1) * (m + 1) = d.length * (m + 1) + (m + 1) := by rw [Nat.add_mul d.length 1]; omega
    omega
theorem textG_join {α : Type} {ln : α → List UInt8} : ∀ {d : List α}, d ≠ [] → textG ln d = join (d.map ln) [10] ++ [10]
  | [], h => absurd rfl h
  | [x], _ => by
    show (ln x ++ [10]) ++ [] = join [ln x] [10] ++ [10]
    rw [List.append_nil, join_one]
  | x :: y :: r, _ => by
    have ih := textG_join (ln := ln) (d := y :: r) (by simp)
    show (ln x ++ [10]) ++ textG ln (y :: r) = join (ln x :: ln y :: r.map ln) [10] ++ [10]
    rw [ih, joinL_cons2]
    simp
theorem linesG_text {α : Type} {ln : α → List UInt8} {rd : List UInt8 → Option α} {Ok : α → Prop} (F : LineFmt ln rd Ok) {d : List α} (h : ∀ x ∈ d, Ok x) : linesF (textG ln d) = d.map ln ∧ endedF (textG ln d) = true := by
  by_cases hd : d = []
  · subst hd; exact ⟨rfl, rfl⟩
  · have hne : textG ln d ≠ [] := by rw [textG_join hd]; simp
    unfold linesF endedF
    rw [if_neg hne, if_neg hne, textG_join hd, (suffix_snoc _).1, (suffix_snoc _).2]
    refine ⟨cut_join 10 (by simpa using hd) fun l hl => ?_, rfl⟩
    obtain ⟨x, hx, rfl⟩ := List.mem_map.1 hl
    exact F.nofeed (h x hx)
theorem filterG_text {α : Type} {ln : α → List UInt8} {rd : List UInt8 → Option α} {Ok : α → Prop} (F : LineFmt ln rd Ok) : ∀ {d : List α}, (∀ x ∈ d, Ok x) → (d.map ln).filterMap rd = d
  | [], _ => rfl
  | x :: d, h => by
    rw [List.map_cons, List.filterMap_cons, F.read (h x List.mem_cons_self)]
    simp only
    rw [filterG_text F fun y hy => h y (List.mem_cons_of_mem _ hy)]
theorem goodG_text {α : Type} {ln : α → List UInt8} {rd : List UInt8 → Option α} {Ok : α → Prop} (F : LineFmt ln rd Ok) {d : List α} (h : ∀ x ∈ d, Ok x) (i : Nat) (hi : i < (linesF (textG ln d)).length) : badG rd (linesF (textG ln d)) (endedF (textG ln d)) i = false := by
  obtain ⟨e1, e2⟩ := linesG_text F h
  rw [e1] at hi
  rw [e1, e2]
  rw [List.length_map] at hi
  unfold badG
  have e : (d.map ln).getD i [] = ln d[i] := by
    rw [List.getD_eq_getElem?_getD, List.getElem?_map, List.getElem?_eq_getElem hi]; rfl
  rw [e, F.read (h _ (List.getElem_mem hi))]
  rfl
theorem textG_of {α : Type} {ln : α → List UInt8} {rd : List UInt8 → Option α} {Ok : α → Prop} (F : LineFmt ln rd Ok) {t : List UInt8} (h : ∀ i, i < (linesF t).length → badG rd (linesF t) (endedF t) i = false) : textG ln ((linesF t).filterMap rd) = t := by
  by_cases ht : t = []
  · subst ht; rfl
  · have hl : linesF t = cutL 10 (Lib.trimSuffix t [10]) := by unfold linesF; rw [if_neg ht]
    have he : endedF t = Lib.hasSuffix t [10] := by unfold endedF; rw [if_neg ht]
    rw [hl, he] at h
    have hne := cutL_ne 10 (Lib.trimSuffix t [10])
    have hend : Lib.hasSuffix t [10] = true := by
      have hp := List.length_pos_iff.2 hne
      have := h ((cutL 10 (Lib.trimSuffix t [10])).length - 1) (by omega)
      unfold badG at this
      simp only [Bool.or_eq_false_iff, Bool.and_eq_false_iff, Bool.not_eq_false', decide_eq_false_iff_not] at this
      rcases this.2 with h1 | h1
      · exact h1
      · omega
    rw [hl]
    have hall : ∀ l ∈ cutL 10 (Lib.trimSuffix t [10]), ∃ x, rd l = some x ∧ ln x = l := fun l hm => by
      obtain ⟨i, hi⟩ := List.mem_iff_getElem?.1 hm
      have hil := (List.getElem?_eq_some_iff.1 hi).1
      have := h i hil
      unfold badG at this
      simp only [Bool.or_eq_false_iff] at this
      rw [List.getD_eq_getElem?_getD, hi] at this
      cases hx : rd l with
      | none => have h3 := this.1; simp only [Option.getD_some] at h3; rw [hx] at h3; cases h3
      | some x => exact ⟨x, rfl, F.of_ hx⟩
    have hmap : ∀ L : List (List UInt8), (∀ l ∈ L, ∃ x, rd l = some x ∧ ln x = l) → (L.filterMap rd).map ln = L := by
      intro L
      induction L with
      | nil => intro _; rfl
      | cons l L ih =>
        intro hL
        obtain ⟨x, hx, hv⟩ := hL l List.mem_cons_self
        rw [List.filterMap_cons, hx]
        simp only [List.map_cons]
        rw [hv, ih fun m hm => hL m (List.mem_cons_of_mem _ hm)]
    have hm := hmap _ hall
    have hfne : (cutL 10 (Lib.trimSuffix t [10])).filterMap rd ≠ [] := fun e => by rw [e] at hm; exact hne hm.symm
    rw [textG_join hfne, hm, join_cut]
    exact (suffix_inv hend).symm
/-- The first line that is wrong. -/
def badAtG {α : Type} (rd : List UInt8 → Option α) (t : List UInt8) : Option Nat := (List.range (linesF t).length).find? (badG rd (linesF t) (endedF t))
theorem badAtG_none {α : Type} {rd : List UInt8 → Option α} {t : List UInt8} : badAtG rd t = none ↔ ∀ i, i < (linesF t).length → badG rd (linesF t) (endedF t) i = false := by
  unfold badAtG
  rw [List.find?_eq_none]
  constructor
  · intro h i hi
    have := h i (List.mem_range.2 hi)
    cases hb : badG rd (linesF t) (endedF t) i with
    | false => rfl
    | true => exact absurd hb this
  · intro h i hi e
    rw [h i (List.mem_range.1 hi)] at e
    cases e
theorem badAtG_some {α : Type} {rd : List UInt8 → Option α} {t : List UInt8} {k : Nat} (hk : k < (linesF t).length) (hz : ∀ i, i < k → badG rd (linesF t) (endedF t) i = false) (hb : badG rd (linesF t) (endedF t) k = true) : badAtG rd t = some k := by
  unfold badAtG
  rw [List.find?_range_eq_some]
  exact ⟨hb, List.mem_range.2 hk, fun j hj => by rw [hz j hj]; rfl⟩
theorem badG_of {α : Type} {rd : List UInt8 → Option α} {t : List UInt8} {k : Nat} {x : ByteArray} (hx : (linesB t)[k]? = some x) (E : Bool) : badG rd (linesF t) E k = ((rd x.data.toList).isNone || (!E && decide (k + 1 = (linesB t).length))) := by
  unfold badG
  rw [linesB_len, List.getD_eq_getElem?_getD, linesB_at hx]
  rfl
/-- What a reader answers: the things, the line, the fault. -/
def readG {α : Type} (rd : List UInt8 → Option α) (flt : List α → Int) (t : List UInt8) : List α × Int × Int :=
  if 200000 < t.length then ([], 0, 2) else match badAtG rd t with
    | some k => ([], (k : Int), 9)
    | none => if flt ((linesF t).filterMap rd) = 0 then ((linesF t).filterMap rd, 0, 0) else ([], 0, flt ((linesF t).filterMap rd))
/-- What a writer answers. -/
def textRG {α : Type} (ln : α → List UInt8) (flt : List α → Int) (xs : List α) : ByteArray × Int := if flt xs = 0 then (if 200000 < (textG ln xs).length then (⟨#[]⟩, 2) else (⟨(textG ln xs).toArray⟩, 0)) else (⟨#[]⟩, flt xs)
theorem readG_text {α : Type} {ln : α → List UInt8} {rd : List UInt8 → Option α} {Ok : α → Prop} (F : LineFmt ln rd Ok) {flt : List α → Int} {V : List α} (hok : ∀ x ∈ V, Ok x) (h0 : flt V = 0) (hl : (textG ln V).length ≤ 200000) : readG rd flt (textG ln V) = (V, 0, 0) ∧ textRG ln flt V = (⟨(textG ln V).toArray⟩, 0) := by
  have hb : badAtG rd (textG ln V) = none := badAtG_none.2 fun i hi => goodG_text F hok i hi
  have hf : (linesF (textG ln V)).filterMap rd = V := by rw [(linesG_text F hok).1, filterG_text F hok]
  refine ⟨?_, ?_⟩
  · unfold readG
    rw [if_neg (by omega), hb]
    simp only [hf]
    rw [if_pos h0]
  · unfold textRG
    rw [if_pos h0, if_neg (by omega)]
theorem readG_back {α : Type} {ln : α → List UInt8} {rd : List UInt8 → Option α} {Ok : α → Prop} (F : LineFmt ln rd Ok) {flt : List α → Int} {t : List UInt8} (h : (readG rd flt t).2.2 = 0) : textRG ln flt (readG rd flt t).1 = (⟨t.toArray⟩, 0) := by
  unfold readG at h ⊢
  split at h
  · cases h
  · rename_i hlen
    rw [if_neg hlen]
    cases hb : badAtG rd t with
    | some k => rw [hb] at h; cases h
    | none =>
      rw [hb] at h
      simp only at h ⊢
      split at h
      · rename_i hq
        rw [if_pos hq]
        have ht := textG_of F (badAtG_none.1 hb)
        unfold textRG
        simp only
        rw [if_pos hq, ht, if_neg hlen]
      · rename_i hq
        exact absurd h hq
theorem readG_fault {α : Type} {rd : List UInt8 → Option α} {flt : List α → Int} {t : List UInt8} (hlen : ¬ 200000 < t.length) (h : ∀ i, i < (linesF t).length → badG rd (linesF t) (endedF t) i = false) :
    readG rd flt t = if flt ((linesF t).filterMap rd) = 0 then ((linesF t).filterMap rd, 0, 0) else ([], 0, flt ((linesF t).filterMap rd)) := by
  unfold readG
  rw [if_neg hlen, badAtG_none.2 h]
theorem readG_bad {α : Type} {rd : List UInt8 → Option α} {flt : List α → Int} {t : List UInt8} {k : Nat} (hlen : ¬ 200000 < t.length) (hk : k < (linesF t).length) (hz : ∀ i, i < k → badG rd (linesF t) (endedF t) i = false) (hb : badG rd (linesF t) (endedF t) k = true) : readG rd flt t = ([], (k : Int), 9) := by
  unfold readG
  rw [if_neg hlen, badAtG_some hk hz hb]
end Go.Proofs.YtboplnogfjmpnaaGreatDoor
