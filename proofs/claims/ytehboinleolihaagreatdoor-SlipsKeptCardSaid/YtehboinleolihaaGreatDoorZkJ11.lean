/- Slips and their lines, plain: what is written is read as it was; what is read is written so. Conditions: as each theorem says. Texts of slips, plain: what is written is read as it was; what is read is written so. Conditions: as each theorem says. A text of things, a line each: what is written is read as it was; what is read is written so. Plain mathematics. Conditions: as each theorem says. -/
import Derived.Test.YtehboinleolihaaGreatDoorZkJ10
set_option linter.unusedSimpArgs false
set_option linter.unusedVariables false
namespace Go.Proofs.YtehboinleolihaaGreatDoor
open Go Go.Lib Go.RowKit
structure SlipV where
 by_ : ByteArray
 no : Int
 at_ : Int
 kind : Int
 piece : ByteArray
 copy : Int
 singer : ByteArray
def slipC (x : SlipV) : List Value := [.string x.by_, .int .i64 x.no, .int .i64 x.at_, .int .i64 x.kind, .string x.piece, .int .i64 x.copy, .string x.singer]
theorem slipC_len (x : SlipV) : (slipC x).length = 7 := rfl
theorem slipC_one (x : SlipV) : ∀ u ∈ slipC x, u.oneCell' = true := by simp [slipC, Value.oneCell']
/-- What is wrong with a slip alone. -/
def slipE (x : SlipV) : Int :=
 if keyB x.by_ = false then 5 else if (outB x.no 1 3000 || outB x.at_ 0 345686399999) = true then 1 else if outB x.kind 1 5 = true then 4 else if keyB x.piece = false then 5 else if outB x.copy 1 500 = true then 1 else
  if x.kind = 1 ∧ keyB x.singer = false then 5 else if x.kind ≠ 1 ∧ x.singer ≠ ⟨#[]⟩ then 3 else 0
def kindW : List ByteArray := [⟨#[]⟩, ⟨#[108,101,110,100]⟩, ⟨#[98,97,99,107]⟩, ⟨#[108,111,115,116]⟩, ⟨#[102,111,117,110,100]⟩, ⟨#[114,101,116,105,114,101]⟩]
def wordsV (x : SlipV) : List ByteArray := [x.by_, itoaL x.no, itoaL x.at_, kindW.getD x.kind.toNat ⟨#[]⟩, x.piece, itoaL x.copy] ++ if x.kind = 1 then [x.singer] else []
/-- A slip's line, without the line feed. -/
def lineV (x : SlipV) : List UInt8 := join (bytesW (wordsV x)) [32]
/-- The number of a kind's word. -/
def kindI (w : ByteArray) : Nat → List ByteArray → Int
 | _, [] => -1
 | i, x :: r => if x = w then (i : Int) else kindI w (i + 1) r
/-- A slip out of its line. -/
def lineF (s : List UInt8) : Option SlipV :=
 if (∃ w ∈ wordsL s, w = ⟨#[]⟩) ∨ (wordsL s).length < 6 then none else
 if (numOk 15 ((wordsL s).getD 1 ⟨#[]⟩) && numOk 15 ((wordsL s).getD 2 ⟨#[]⟩) && numOk 15 ((wordsL s).getD 5 ⟨#[]⟩)) = false ∨ kindI ((wordsL s).getD 3 ⟨#[]⟩) 0 kindW < 1 then none else
 if kindI ((wordsL s).getD 3 ⟨#[]⟩) 0 kindW = 1 then
  (if (wordsL s).length = 7 then some ⟨(wordsL s).getD 0 ⟨#[]⟩, numV ((wordsL s).getD 1 ⟨#[]⟩), numV ((wordsL s).getD 2 ⟨#[]⟩), 1, (wordsL s).getD 4 ⟨#[]⟩, numV ((wordsL s).getD 5 ⟨#[]⟩), (wordsL s).getD 6 ⟨#[]⟩⟩ else none)
 else if (wordsL s).length = 6 then some ⟨(wordsL s).getD 0 ⟨#[]⟩, numV ((wordsL s).getD 1 ⟨#[]⟩), numV ((wordsL s).getD 2 ⟨#[]⟩), kindI ((wordsL s).getD 3 ⟨#[]⟩) 0 kindW, (wordsL s).getD 4 ⟨#[]⟩, numV ((wordsL s).getD 5 ⟨#[]⟩), ⟨#[]⟩⟩ else none
theorem kindI_at {w : ByteArray} : ∀ {L : List ByteArray} {i : Nat} {k : Int}, kindI w i L = k → 0 ≤ k → ∃ j : Nat, k = ((i + j : Nat) : Int) ∧ L[j]? = some w
 | [], i, k, h, h0 => by unfold kindI at h; omega
 | x :: r, i, k, h, h0 => by
   unfold kindI at h
   split at h
   ·rename_i e
    exact ⟨0, h.symm, by rw [e]; rfl⟩
   ·obtain ⟨j, e, hj⟩ := kindI_at h h0
    exact ⟨j + 1, by omega, hj⟩
theorem kindI_of : ∀ j : Fin 6, kindI (kindW.getD j.val ⟨#[]⟩) 0 kindW = (j.val : Int) := by decide +kernel
theorem kindI_most (w : ByteArray) : kindI w 0 kindW ≤ 5 := by
 by_cases h : 0 ≤ kindI w 0 kindW
 ·obtain ⟨j, e, hj⟩ := kindI_at rfl h
  have := (List.getElem?_eq_some_iff.1 hj).1
  have h6 : kindW.length = 6 := rfl
  omega
 ·omega
theorem kind_bytes : ∀ j : Fin 6,1 ≤ j.val → (kindW.getD j.val ⟨#[]⟩).data.toList ≠ [] ∧ (32 : UInt8) ∉ (kindW.getD j.val ⟨#[]⟩).data.toList ∧ (10 : UInt8) ∉ (kindW.getD j.val ⟨#[]⟩).data.toList := by decide +kernel
/-- What a right slip has. -/
structure SlipOk (x : SlipV) : Prop where
 by_ : keyB x.by_ = true
 no : 1 ≤ x.no ∧ x.no ≤ 3000
 at_ : 0 ≤ x.at_ ∧ x.at_ ≤ 345686399999
 kind : 1 ≤ x.kind ∧ x.kind ≤ 5
 piece : keyB x.piece = true
 copy : 1 ≤ x.copy ∧ x.copy ≤ 500
 singer : (x.kind = 1 ∧ keyB x.singer = true) ∨ (x.kind ≠ 1 ∧ x.singer = ⟨#[]⟩)
theorem slip_ok {x : SlipV} (h : slipE x = 0) : SlipOk x := by
 unfold slipE at h
 split at h
 ·cases h
 split at h
 ·cases h
 split at h
 ·cases h
 split at h
 ·cases h
 split at h
 ·cases h
 split at h
 ·cases h
 split at h
 ·cases h
 rename_i h1 h2 h3 h4 h5 h6 h7
 have hb : ∀ {b : Bool}, ¬ b = false → b = true := fun {b} h => by cases b <;> simp_all
 have ho : ∀ {a lo hi : Int}, ¬ outB a lo hi = true → lo ≤ a ∧ a ≤ hi := fun {a lo hi} h => by unfold outB at h; simp at h; omega
 simp only [Bool.or_eq_true, not_or] at h2
 refine ⟨hb h1, ho h2.1, ho h2.2, ho h3, hb h4, ho h5, ?_⟩
 by_cases hk : x.kind = 1
 ·exact .inl ⟨hk, hb fun e => h6 ⟨hk, e⟩⟩
 ·exact .inr ⟨hk, Classical.byContradiction fun e => h7 ⟨hk, e⟩⟩
theorem words_ok {x : SlipV} (h : SlipOk x) : ∀ w ∈ wordsV x, w.data.toList ≠ [] ∧ (32 : UInt8) ∉ w.data.toList ∧ (10 : UInt8) ∉ w.data.toList := by
 obtain ⟨h1, h2, h3, h4, h5, h6, h7⟩ := h
 obtain ⟨n, hn⟩ : ∃ n : Nat, x.no = n := ⟨x.no.toNat, by omega⟩
 obtain ⟨a, ha⟩ : ∃ a : Nat, x.at_ = a := ⟨x.at_.toNat, by omega⟩
 obtain ⟨c, hc⟩ : ∃ c : Nat, x.copy = c := ⟨x.copy.toNat, by omega⟩
 have hkey := fun {s : ByteArray} (hs : keyB s = true) => key_bytes hs
 intro w hw
 unfold wordsV at hw
 rcases List.mem_append.1 hw with hw | hw
 ·simp only [List.mem_cons, List.not_mem_nil, or_false] at hw
  rcases hw with rfl | rfl | rfl | rfl | rfl | rfl
  ·exact ⟨(hkey h1).1, (hkey h1).2.1, (hkey h1).2.2.1⟩
  ·rw [hn]; exact itoa_bytes n
  ·rw [ha]; exact itoa_bytes a
  ·exact kind_bytes ⟨x.kind.toNat, by omega⟩ (by simp only; omega)
  ·exact ⟨(hkey h5).1, (hkey h5).2.1, (hkey h5).2.2.1⟩
  ·rw [hc]; exact itoa_bytes c
 ·rcases h7 with ⟨hk, hs⟩ | ⟨hk, hs⟩
  ·rw [if_pos hk] at hw
   rw [List.mem_singleton.1 hw]
   exact ⟨(hkey hs).1, (hkey hs).2.1, (hkey hs).2.2.1⟩
  ·rw [if_neg hk] at hw; cases hw
theorem wordsV_ne (x : SlipV) : wordsV x ≠ [] := by unfold wordsV; simp
theorem words_line {x : SlipV} (h : SlipOk x) : wordsL (lineV x) = wordsV x := by
 unfold wordsL lineV
 rw [cut_join 32 (by unfold bytesW; simp [wordsV_ne]) fun l hl => by
  obtain ⟨w, hw, rfl⟩ := List.mem_map.1 hl
  exact (words_ok h w hw).2.1]
 unfold bytesW
 rw [List.map_map]
 exact List.map_id'' (fun w => ba_eq rfl) _
/-- What is written is read as it was. -/
theorem line_read {x : SlipV} (h : SlipOk x) : lineF (lineV x) = some x := by
 have hw := words_line h
 have hok := words_ok h
 obtain ⟨h1, h2, h3, h4, h5, h6, h7⟩ := h
 obtain ⟨n, hn⟩ : ∃ n : Nat, x.no = n := ⟨x.no.toNat, by omega⟩
 obtain ⟨a, ha⟩ : ∃ a : Nat, x.at_ = a := ⟨x.at_.toNat, by omega⟩
 obtain ⟨c, hc⟩ : ∃ c : Nat, x.copy = c := ⟨x.copy.toNat, by omega⟩
 obtain ⟨k, hk⟩ : ∃ k : Nat, x.kind = k := ⟨x.kind.toNat, by omega⟩
 have hn1 := num_read (n := n) (by omega)
 have ha1 := num_read (n := a) (by omega)
 have hc1 := num_read (n := c) (by omega)
 have hk1 := kindI_of ⟨k, by omega⟩
 simp only at hk1
 have hne : ¬ ∃ w ∈ wordsV x, w = ⟨#[]⟩ := fun ⟨w, hw, e⟩ => (hok w hw).1 (by rw [e])
 unfold lineF
 rw [hw]
 rcases h7 with ⟨hk7, hs⟩ | ⟨hk7, hs⟩
 ·have hW : wordsV x = [x.by_, itoaL x.no, itoaL x.at_, kindW.getD x.kind.toNat ⟨#[]⟩, x.piece, itoaL x.copy, x.singer] := by unfold wordsV; rw [if_pos hk7]; rfl
  rw [hW] at hne ⊢
  rw [if_neg (fun e => e.elim hne fun e => by simp at e)]
  simp only [List.getD_cons_succ, List.getD_cons_zero, hn, ha, hc, hk, Int.toNat_natCast, hn1.1, ha1.1, hc1.1, hk1, hn1.2, ha1.2, hc1.2, Bool.and_self]
  rw [if_neg (fun e => e.elim (fun e => by cases e) fun e => by omega), if_pos (by omega)]
  simp only [List.length_cons, List.length_nil, Nat.zero_add, Nat.reduceAdd, ↓reduceIte]
  obtain ⟨by_, no, at_, kind, piece, copy, singer⟩ := x
  simp only at hn ha hc hk hk7 ⊢
  subst hn ha hc
  rw [hk7]
 ·have hW : wordsV x = [x.by_, itoaL x.no, itoaL x.at_, kindW.getD x.kind.toNat ⟨#[]⟩, x.piece, itoaL x.copy] := by unfold wordsV; rw [if_neg hk7]; rfl
  rw [hW] at hne ⊢
  rw [if_neg (fun e => e.elim hne fun e => by simp at e)]
  simp only [List.getD_cons_succ, List.getD_cons_zero, hn, ha, hc, hk, Int.toNat_natCast, hn1.1, ha1.1, hc1.1, hk1, hn1.2, ha1.2, hc1.2, Bool.and_self]
  rw [if_neg (fun e => e.elim (fun e => by cases e) fun e => by omega), if_neg (by omega)]
  simp only [List.length_cons, List.length_nil, Nat.zero_add, Nat.reduceAdd, ↓reduceIte]
  obtain ⟨by_, no, at_, kind, piece, copy, singer⟩ := x
  simp only at hn ha hc hk hs ⊢
  subst hn ha hc hk hs
  rfl
theorem line_nofeed {x : SlipV} (h : SlipOk x) : (10 : UInt8) ∉ lineV x := by
 have hok := words_ok h
 unfold lineV
 have key : ∀ L : List (List UInt8), (∀ l ∈ L, (10 : UInt8) ∉ l) → (10 : UInt8) ∉ join L [32] := by
  intro L
  induction L with
  | nil => intro _ h; cases h
  | cons x r ih =>
    intro hL
    cases r with
    | nil => rw [join_one]; exact hL x List.mem_cons_self
    | cons y r =>
      rw [joinL_cons2]
      intro hm
      rcases List.mem_append.1 hm with h1 | h1
      ·exact hL x List.mem_cons_self h1
      ·rcases List.mem_cons.1 h1 with h2 | h2
       ·cases h2
       ·exact ih (fun l hl => hL l (List.mem_cons_of_mem _ hl)) h2
 refine key _ fun l hl => ?_
 obtain ⟨w, hw, rfl⟩ := List.mem_map.1 hl
 exact (hok w hw).2.2
end Go.Proofs.YtehboinleolihaaGreatDoor
namespace Go.Proofs.YtehboinleolihaaGreatDoor
open Go Go.Lib Go.RowKit
def textV (d : List SlipV) : List UInt8 := d.flatMap fun x => lineV x ++ [10]
/-- Whether a line is wrong. -/
def badL (ls : List (List UInt8)) (ended : Bool) (i : Nat) : Bool := (lineF (ls.getD i [])).isNone || (!ended && decide (i + 1 = ls.length))
theorem text_join : ∀ {d : List SlipV}, d ≠ [] → textV d = join (d.map lineV) [10] ++ [10]
 | [], h => absurd rfl h
 | [x], _ => by
   show (lineV x ++ [10]) ++ [] = join [lineV x] [10] ++ [10]
   rw [List.append_nil, join_one]
 | x :: y :: r, _ => by
   have ih := text_join (d := y :: r) (by simp)
   show (lineV x ++ [10]) ++ textV (y :: r) = join (lineV x :: lineV y :: r.map lineV) [10] ++ [10]
   rw [ih, joinL_cons2]
   simp
theorem lines_text {d : List SlipV} (h : ∀ x ∈ d, SlipOk x) : linesF (textV d) = d.map lineV ∧ endedF (textV d) = true := by
 by_cases hd : d = []
 ·subst hd; exact ⟨rfl, rfl⟩
 ·have hne : textV d ≠ [] := by rw [text_join hd]; simp
  unfold linesF endedF
  rw [if_neg hne, if_neg hne, text_join hd, (suffix_snoc _).1, (suffix_snoc _).2]
  refine ⟨cut_join 10 (by simpa using hd) fun l hl => ?_, rfl⟩
  obtain ⟨x, hx, rfl⟩ := List.mem_map.1 hl
  exact line_nofeed (h x hx)
theorem good_text {d : List SlipV} (h : ∀ x ∈ d, SlipOk x) (i : Nat) (hi : i < (linesF (textV d)).length) : badL (linesF (textV d)) (endedF (textV d)) i = false ∧ (linesF (textV d)).filterMap lineF = d := by
 obtain ⟨e1, e2⟩ := lines_text h
 rw [e1] at hi
 rw [e1, e2]
 have hf : (d.map lineV).filterMap lineF = d := by
  clear hi e1 e2
  induction d with
  | nil => rfl
  | cons x d ih =>
    rw [List.map_cons, List.filterMap_cons, line_read (h x List.mem_cons_self)]
    simp only
    rw [ih fun y hy => h y (List.mem_cons_of_mem _ hy)]
 refine ⟨?_, hf⟩
 rw [List.length_map] at hi
 unfold badL
 have e : (d.map lineV).getD i [] = lineV d[i] := by
  rw [List.getD_eq_getElem?_getD, List.getElem?_map, List.getElem?_eq_getElem hi]; rfl
 rw [e, line_read (h _ (List.getElem_mem hi))]
 rfl
end Go.Proofs.YtehboinleolihaaGreatDoor
namespace Go.Proofs.YtehboinleolihaaGreatDoor
open Go Go.Lib Go.RowKit
/-- Whether a line is wrong. -/
def badG {α : Type} (rd : List UInt8 → Option α) (ls : List (List UInt8)) (ended : Bool) (i : Nat) : Bool := (rd (ls.getD i [])).isNone || (!ended && decide (i + 1 = ls.length))
/-- The first line that is wrong. -/
def badAtG {α : Type} (rd : List UInt8 → Option α) (t : List UInt8) : Option Nat := (List.range (linesF t).length).find? (badG rd (linesF t) (endedF t))
theorem badAtG_none {α : Type} {rd : List UInt8 → Option α} {t : List UInt8} : badAtG rd t = none ↔ ∀ i, i < (linesF t).length → badG rd (linesF t) (endedF t) i = false := by
 unfold badAtG
 rw [List.find?_eq_none]
 constructor
 ·intro h i hi
  have := h i (List.mem_range.2 hi)
  cases hb : badG rd (linesF t) (endedF t) i with
  | false => rfl
  | true => exact absurd hb this
 ·intro h i hi e
  rw [h i (List.mem_range.1 hi)] at e
  cases e
theorem badAtG_some {α : Type} {rd : List UInt8 → Option α} {t : List UInt8} {k : Nat} (hk : k < (linesF t).length) (hz : ∀ i, i < k → badG rd (linesF t) (endedF t) i = false) (hb : badG rd (linesF t) (endedF t) k = true) : badAtG rd t = some k := by
 unfold badAtG
 rw [List.find?_range_eq_some]
 exact ⟨hb, List.mem_range.2 hk, fun j hj => by rw [hz j hj]; rfl⟩
/-- What a reader answers: the things, the line, the fault. -/
def readG {α : Type} (rd : List UInt8 → Option α) (flt : List α → Int) (t : List UInt8) : List α × Int × Int :=
 if 200000 < t.length then ([],0,2) else match badAtG rd t with
  | some k => ([], (k : Int), 9)
  | none => if flt ((linesF t).filterMap rd) = 0 then ((linesF t).filterMap rd, 0,0) else ([],0, flt ((linesF t).filterMap rd))
theorem readG_fault {α : Type} {rd : List UInt8 → Option α} {flt : List α → Int} {t : List UInt8} (hlen : ¬ 200000 < t.length) (h : ∀ i, i < (linesF t).length → badG rd (linesF t) (endedF t) i = false) :
 readG rd flt t = if flt ((linesF t).filterMap rd) = 0 then ((linesF t).filterMap rd, 0,0) else ([],0, flt ((linesF t).filterMap rd)) := by
 unfold readG
 rw [if_neg hlen, badAtG_none.2 h]
theorem readG_bad {α : Type} {rd : List UInt8 → Option α} {flt : List α → Int} {t : List UInt8} {k : Nat} (hlen : ¬ 200000 < t.length) (hk : k < (linesF t).length) (hz : ∀ i, i < k → badG rd (linesF t) (endedF t) i = false) (hb : badG rd (linesF t) (endedF t) k = true) : readG rd flt t = ([], (k : Int), 9) := by
 unfold readG
 rw [if_neg hlen, badAtG_some hk hz hb]
end Go.Proofs.YtehboinleolihaaGreatDoor
