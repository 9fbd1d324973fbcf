/- A text of slips is read, by copies. Conditions: sizes. -/
import Derived.Test.YtachmdaiecbenaaGreatDoorSbSlH
import Derived.Test.YtachmdaiecbenaaGreatDoorSbRepB
import Derived.Test.YtachmdaiecbenaaGreatDoorSbAppL
set_option linter.unusedSimpArgs false
set_option linter.unusedVariables false
namespace Go.Proofs.YtachmdaiecbenaaGreatDoor
open Go Go.RowKit

theorem sliInfo : (Tryz.prog.info? 35).map (fun i => (i.zero, i.size, i.bytes)) = some (some (.agg #[.string ⟨#[]⟩, .int .i64 0, .int .i64 0, .int .i64 0, .string ⟨#[]⟩, .int .i64 0, .string ⟨#[]⟩]), 7, 80) := by kernel_rfl
/-- The lines of a text, as strings. -/
def linesB (t : List UInt8) : List ByteArray := (linesF t).map fun l => ⟨l.toArray⟩
theorem linesB_len (t : List UInt8) : (linesB t).length = (linesF t).length := by simp [linesB]
theorem linesB_at {t : List UInt8} {k : Nat} {x : ByteArray} (h : (linesB t)[k]? = some x) : (linesF t)[k]? = some x.data.toList := by
  unfold linesB at h
  rw [List.getElem?_map] at h
  cases hl : (linesF t)[k]? with
  | none => rw [hl] at h; cases h
  | some l => rw [hl] at h; cases h; rfl
theorem trim_len (t : List UInt8) : (Lib.trimSuffix t [10]).length ≤ t.length := by
  unfold Lib.trimSuffix
  split
  · rw [List.length_take]; omega
  · omega
theorem linesF_len (t : List UInt8) : (linesF t).length ≤ t.length + 1 := by
  unfold linesF
  split
  · simp
  · have h := splitW_most 10 (Lib.trimSuffix t [10])
    unfold splitW at h
    rw [List.length_map] at h
    have := trim_len t
    omega
theorem linesF_size {t l : List UInt8} (h : l ∈ linesF t) : l.length ≤ t.length := by
  unfold linesF at h
  split at h
  · cases h
  · have := cutL_size 10 _ l h
    have := trim_len t
    omega
theorem lines_uni (s : ByteArray) (B : Nat) (w : World) (hs : s.size ≤ 1000000000) (hm : MaxL B w) :
    Calls Tryz.prog 27 #[.string s] w fun e w' => ∃ p : Option Addr, e = .returned (.tuple #[.slice p (linesB s.data.toList).length (linesB s.data.toList).length, .bool (endedF s.data.toList)]) ∧ Ext w w' ∧ (0 < (linesB s.data.toList).length → p = some ⟨w.heap.size, 0, none⟩ ∧ Blk w' w.heap.size 9 ((linesB s.data.toList).map Value.string).toArray) := by
  by_cases h0 : s = ⟨#[]⟩
  · subst h0
    exact (lines_nil w).mono fun e w' h => ⟨none, h.1, h.2, fun h => absurd h (by decide)⟩
  · have hne : ¬ s.data.toList = [] := fun e => h0 (ba_eq e)
    have e1 : linesB s.data.toList = linesW s.data.toList := by unfold linesB linesF linesW splitW; rw [if_neg hne]
    have e2 : endedF s.data.toList = Lib.hasSuffix s.data.toList [10] := by unfold endedF; rw [if_neg hne]
    rw [e1, e2]
    exact (lines_some s B w hs hm h0).mono fun e w' h => ⟨_, h.1, h.2 ▸ (Ext.refl _).alloc _, fun _ => ⟨rfl, h.2 ▸ Blk.new' rfl⟩⟩
theorem getD_size {l : List UInt8} (i : Nat) : ((wordsL l).getD i ⟨#[]⟩).size ≤ l.length := by
  rw [List.getD_eq_getElem?_getD]
  cases h : (wordsL l)[i]? with
  | none => exact Nat.zero_le _
  | some x => exact wordsL_size (List.mem_of_getElem? h)
theorem line_small {l : List UInt8} {x : SlipV} (h : lineF l = some x) (hl : l.length ≤ 1000000) : x.Small := by
  have h0 := getD_size (l := l) 0
  have h4 := getD_size (l := l) 4
  have h6 := getD_size (l := l) 6
  unfold lineF at h
  split at h
  · cases h
  split at h
  · cases h
  split at h
  · split at h
    · cases h; exact ⟨Nat.le_trans h0 hl, Nat.le_trans h4 hl, Nat.le_trans h6 hl⟩
    · cases h
  · split at h
    · cases h; exact ⟨Nat.le_trans h0 hl, Nat.le_trans h4 hl, Nat.zero_le _⟩
    · cases h
/-- The first line that is wrong. -/
def badAt (t : List UInt8) : Option Nat := (List.range (linesF t).length).find? (badL (linesF t) (endedF t))
theorem badAt_none {t : List UInt8} : badAt t = none ↔ ∀ i, i < (linesF t).length → badL (linesF t) (endedF t) i = false := by
  unfold badAt
  rw [List.find?_eq_none]
  constructor
  · intro h i hi
    have := h i (List.mem_range.2 hi)
    cases hb : badL (linesF t) (endedF t) i with
    | false => rfl
    | true => exact absurd hb this
  · intro h i hi e
    rw [h i (List.mem_range.1 hi)] at e
    cases e
theorem badAt_some {t : List UInt8} {k : Nat} (hk : k < (linesF t).length) (hz : ∀ i, i < k → badL (linesF t) (endedF t) i = false) (hb : badL (linesF t) (endedF t) k = true) : badAt t = some k := by
  unfold badAt
  rw [List.find?_range_eq_some]
  exact ⟨hb, List.mem_range.2 hk, fun j hj => by rw [hz j hj]; rfl⟩
/-- What Read answers: the slips, the line, the fault. -/
def readT (t : List UInt8) : List SlipV × Int × Int :=
  if 200000 < t.length then ([], 0, 2) else match badAt t with
    | some k => ([], (k : Int), 9)
    | none => if slipsF ((linesF t).filterMap lineF) = 0 then ((linesF t).filterMap lineF, 0, 0) else ([], 0, slipsF ((linesF t).filterMap lineF))
def ReadR (t : List UInt8) (w : World) (e : Ending) (w' : World) : Prop :=
  ∃ (p : Option Addr) (n c : Nat), e = .returned (.tuple #[.slice p n c, .int .i64 (readT t).2.1, .int .i64 (readT t).2.2]) ∧ (readT t).1.length = n ∧ n ≤ 200001 ∧ w'.ownsRow w.heap.size 35 7 (.slice p n c) n ((readT t).1.flatMap slipC) ∧ (∀ x ∈ (readT t).1, x.Small) ∧ Ext w w'
theorem readR_none {t : List UInt8} {i f : Int} (h : readT t = ([], i, f)) {w w' : World} (he : Ext w w') : ReadR t w (.returned (.tuple #[.slice none 0 0, .int .i64 i, .int .i64 f])) w' := by
  unfold ReadR
  rw [h]
  exact ⟨none, 0, 0, rfl, rfl, by omega, World.ownsRow_nil _ _ _ _, (fun x hx => by cases hx), he⟩
theorem bad_of {t : List UInt8} {k : Nat} {x : ByteArray} (hx : (linesB t)[k]? = some x) (E : Bool) : badL (linesF t) E k = ((lineF x.data.toList).isNone || (!E && decide (k + 1 = (linesB t).length))) := by
  unfold badL
  rw [linesB_len, List.getD_eq_getElem?_getD, linesB_at hx]
  rfl
theorem line_bad {B : Nat} {s : ByteArray} {w : World} (hs : s.size ≤ 1000000) (hm : MaxL B w) (h : lineF s.data.toList = none) :
    Calls Tryz.prog 28 #[.string s] w fun e w' => ∃ x : SlipV, e = .returned (.tuple #[.agg #[.string x.by_, .int .i64 x.no, .int .i64 x.at_, .int .i64 x.kind, .string x.piece, .int .i64 x.copy, .string x.singer], .bool false]) ∧ Ext w w' :=
  (readLine_any B s w hs hm).mono fun e w' hh => by
    obtain ⟨⟨x, ok, he, ho⟩, hx⟩ := hh
    cases ok
    · exact ⟨x, he, hx⟩
    · rw [h] at ho; cases ho
theorem line_good {B : Nat} {s : ByteArray} {w : World} {x : SlipV} (hs : s.size ≤ 1000000) (hm : MaxL B w) (h : lineF s.data.toList = some x) :
    Calls Tryz.prog 28 #[.string s] w fun e w' => e = .returned (.tuple #[.agg #[.string x.by_, .int .i64 x.no, .int .i64 x.at_, .int .i64 x.kind, .string x.piece, .int .i64 x.copy, .string x.singer], .bool true]) ∧ Ext w w' :=
  (readLine_any B s w hs hm).mono fun e w' hh => by
    obtain ⟨⟨y, ok, he, ho⟩, hx⟩ := hh
    cases ok
    · rw [h] at ho; cases ho
    · rw [h] at ho; cases ho; exact ⟨he, hx⟩
end Go.Proofs.YtachmdaiecbenaaGreatDoor
