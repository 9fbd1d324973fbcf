/- The best stands: plain mathematics (a search that leaves what can't be better finds what the search of all finds). Conditions: as each theorem says. How many bits are set; who hides whom among those who stand so far: the solver's walks. Conditions: as each theorem says. Lists of numbers, and of who is hidden, that are equal; no error. Conditions: as each theorem says. What is wrong with stands: the document's walk. Conditions: sizes. -/
import Derived.Test.YtfbegdcmnfkhgaaGreatDoorLxJ30
import Derived.Deep.DeepCutAuto
import Derived.Deep.Light
import Derived.Outline
import Derived.Laws.StructEq
import Derived.Test.YtfbegdcmnfkhgaaGreatDoorLxJ23
set_option linter.unusedSimpArgs false
set_option linter.unusedVariables false
namespace Go.Proofs.YtfbegdcmnfkhgaaGreatDoor
open Go Go.RowKit

def sameP (a b : StandV) : Bool := (a.row == b.row) && (a.place == b.place)
def inT (T : List StandV) (x : StandV) : Bool := T.any fun y => sameP x y
def putN (P : List PersonV) (k : Nat) (x : StandV) : StandV := ⟨(P.getD k default).name, x.row, x.place⟩
def nxt (P : List PersonV) (T : List StandV) (x : StandV) : List StandV := T ++ [putN P T.length x]
theorem nxt_len (P : List PersonV) (T : List StandV) (x : StandV) : (nxt P T x).length = T.length + 1 := by simp [nxt]
theorem filt_mono {α : Type} {p q : α → Bool} (h : ∀ x, p x = true → q x = true) : ∀ l : List α, (l.filter p).length ≤ (l.filter q).length
  | [] => Nat.le_refl _
  | x :: l => by
    have ih := filt_mono h l
    rw [List.filter_cons, List.filter_cons]
    cases hp : p x
    · cases hq : q x <;> simp <;> omega
    · rw [h x hp]
      simp
      exact ih
section
variable (P : List PersonV) (wide high : List Int) (all : List StandV)
def hidT (T : List StandV) : Int := (hidN P wide high T T : Nat)
theorem hidT_mono (T : List StandV) (y : StandV) : hidT P wide high T ≤ hidT P wide high (T ++ [y]) := by
  unfold hidT hidN
  rw [List.filter_append, List.length_append]
  have := filt_mono (p := fun b => hidAny P wide high T b) (q := fun b => hidAny P wide high (T ++ [y]) b) (fun b h => by unfold hidAny at *; rw [List.any_append, h]; rfl) T
  omega
theorem hidT_bound (T : List StandV) : 0 ≤ hidT P wide high T ∧ hidT P wide high T ≤ T.length := by
  unfold hidT
  have := hidN_le P wide high T T
  omega
def leF : Nat → List StandV → Int × List StandV → Int × List StandV
  | 0, T, _ => (hidT P wide high T, T)
  | m + 1, T, st => all.foldl (fun st x => if inT T x then st else if hidT P wide high (nxt P T x) < st.1 then leF m (nxt P T x) st else st) st
def leG : Nat → List StandV → Int × List StandV → Int × List StandV
  | 0, T, st => if hidT P wide high T < st.1 then (hidT P wide high T, T) else st
  | m + 1, T, st => all.foldl (fun st x => if inT T x then st else leG m (nxt P T x) st) st
def stepF (m : Nat) (T : List StandV) (st : Int × List StandV) (x : StandV) : Int × List StandV := if inT T x then st else if hidT P wide high (nxt P T x) < st.1 then leF P wide high all m (nxt P T x) st else st
def toF (m : Nat) (T : List StandV) (st : Int × List StandV) (i : Nat) : Int × List StandV := (all.take i).foldl (stepF P wide high all m T) st
variable {P wide high all}
theorem foldl_eq9 {α β : Type} {f g : β → α → β} : ∀ (l : List α) (st : β), (∀ st x, f st x = g st x) → l.foldl f st = l.foldl g st
  | [], _, _ => rfl
  | x :: l, st, h => by rw [List.foldl_cons, List.foldl_cons, h, foldl_eq9 l _ h]
theorem foldl_still {α β : Type} {f : β → α → β} {st : β} : ∀ (l : List α), (∀ x, f st x = st) → l.foldl f st = st
  | [], _ => rfl
  | x :: l, h => by rw [List.foldl_cons, h, foldl_still l h]
theorem leG_still : ∀ (m : Nat) (T : List StandV) (st : Int × List StandV), st.1 ≤ hidT P wide high T → leG P wide high all m T st = st
  | 0, T, st, h => by unfold leG; rw [if_neg (by omega)]
  | m + 1, T, st, h => by
    unfold leG
    refine foldl_still all fun x => ?_
    split
    · rfl
    · exact leG_still m _ st (Int.le_trans h (hidT_mono P wide high T _))
theorem leF_leG : ∀ (m : Nat) (T : List StandV) (st : Int × List StandV), hidT P wide high T < st.1 → leF P wide high all m T st = leG P wide high all m T st
  | 0, T, st, h => by unfold leF leG; rw [if_pos h]
  | m + 1, T, st, _ => by
    unfold leF leG
    refine foldl_eq9 all st fun st x => ?_
    split
    · rfl
    · split
      · rename_i h
        exact leF_leG m _ st h
      · rename_i h
        rw [leG_still m _ st (by omega)]
theorem toF_succ {m : Nat} {T : List StandV} {st : Int × List StandV} {i : Nat} {x : StandV} (h : all[i]? = some x) : toF P wide high all m T st (i + 1) = stepF P wide high all m T (toF P wide high all m T st i) x := by
  unfold toF; rw [take_snocL h, List.foldl_append]; rfl
theorem toF_all (m : Nat) (T : List StandV) (st : Int × List StandV) : toF P wide high all m T st all.length = leF P wide high all (m + 1) T st := by unfold toF; rw [List.take_length]; rfl
end

/-! ### who is hidden, by bits -/
def bitsN : List Bool → Nat
  | [] => 0
  | b :: l => b.toNat + 2 * bitsN l
def cntB (l : List Bool) : Nat := (l.filter id).length
theorem bits_lt : ∀ (l : List Bool), l.length ≤ 4 → bitsN l < 16 := by
  intro l h
  rcases l with _ | ⟨a, _ | ⟨b, _ | ⟨c, _ | ⟨d, _ | ⟨e, l⟩⟩⟩⟩⟩
  · decide
  · revert a; decide
  · clear h; revert a b; decide
  · clear h; revert a b c; decide
  · clear h; revert a b c d; decide
  · simp at h
theorem bits_set (l : List Bool) (i : Nat) (h : l.length ≤ 4) (hi : i < l.length) : (bitsN l ||| 2 ^ i) = bitsN (l.set i true) := by
  rcases l with _ | ⟨a, _ | ⟨b, _ | ⟨c, _ | ⟨d, _ | ⟨e, l⟩⟩⟩⟩⟩
  · simp at hi
  · simp only [List.length_cons, List.length_nil] at hi
    obtain rfl : i = 0 := by omega
    cases a <;> rfl
  · simp only [List.length_cons, List.length_nil] at hi
    rcases (by omega : i = 0 ∨ i = 1) with rfl | rfl <;> (cases a <;> cases b <;> rfl)
  · simp only [List.length_cons, List.length_nil] at hi
    rcases (by omega : i = 0 ∨ i = 1 ∨ i = 2) with rfl | rfl | rfl <;> (cases a <;> cases b <;> cases c <;> rfl)
  · simp only [List.length_cons, List.length_nil] at hi
    rcases (by omega : i = 0 ∨ i = 1 ∨ i = 2 ∨ i = 3) with rfl | rfl | rfl | rfl <;> (cases a <;> cases b <;> cases c <;> cases d <;> rfl)
  · simp at h
theorem bits_snoc0 (l : List Bool) : bitsN (l ++ [false]) = bitsN l := by
  induction l with
  | nil => rfl
  | cons b l ih => rw [List.cons_append, bitsN, bitsN, ih]
section
variable (P : List PersonV) (wide high : List Int)
def hsL (T : List StandV) : List Bool := T.map fun b => hidAny P wide high T b
theorem hsL_len (T : List StandV) : (hsL P wide high T).length = T.length := by simp [hsL]
theorem hsL_cnt (T : List StandV) : cntB (hsL P wide high T) = hidN P wide high T T := by
  unfold cntB hsL hidN
  rw [List.filter_map, List.length_map]
  rfl
/-- The bits behind i rounds of the look at the last one who stands. -/
def wiL (T : List StandV) (x : StandV) (i : Nat) : List Bool :=
  ((List.range T.length).map fun b => hidAny P wide high T (T.getD b default) || (decide (b < i) && hidesS P wide high x (T.getD b default))) ++ [(T.take i).any fun a => hidesS P wide high a x]
theorem wiL_len (T : List StandV) (x : StandV) (i : Nat) : (wiL P wide high T x i).length = T.length + 1 := by simp [wiL]
theorem wiL_zero (T : List StandV) (x : StandV) : bitsN (wiL P wide high T x 0) = bitsN (hsL P wide high T) := by
  unfold wiL
  simp only [List.take_zero, List.any_nil]
  rw [bits_snoc0]
  congr 1
  apply List.ext_getElem
  · simp [hsL]
  · intro i h1 h2
    have hi : i < T.length := by simpa using h1
    simp [hsL, hi]
theorem hides_self (x : StandV) : hidesS P wide high x x = false := by simp [hidesS, beforeS]
theorem wiL_all (T : List StandV) (x : StandV) : wiL P wide high T x T.length = hsL P wide high (T ++ [x]) := by
  unfold wiL hsL
  rw [List.take_length, List.map_append]
  congr 1
  · apply List.ext_getElem
    · simp
    · intro i h1 h2
      have hi : i < T.length := by simpa using h1
      simp [hi, hidAny, List.any_append]
  · simp [hidAny, List.any_append, hides_self]
theorem wiL_step (T : List StandV) (x : StandV) {i : Nat} {a : StandV} (h : T[i]? = some a) :
    wiL P wide high T x (i + 1) = ((wiL P wide high T x i).set T.length ((T.take i).any (fun a => hidesS P wide high a x) || hidesS P wide high a x)).set i (hidAny P wide high T a || hidesS P wide high x a) := by
  obtain ⟨hi, hx⟩ := List.getElem?_eq_some_iff.1 h
  unfold wiL
  rw [take_snocL h, List.any_append]
  have hl : ((List.range T.length).map fun b => hidAny P wide high T (T.getD b default) || (decide (b < i) && hidesS P wide high x (T.getD b default))).length = T.length := by simp
  rw [List.set_append_right _ _ (Nat.le_of_eq hl), hl, Nat.sub_self, List.set_cons_zero, List.set_append_left _ _ (by rw [hl]; exact hi)]
  congr 1
  · apply List.ext_getElem
    · simp
    · intro j h1 h2
      have hj : j < T.length := by simpa using h1
      rw [List.getElem_set]
      by_cases e : i = j
      · subst e
        simp [hi, hx]
      · have e2 : (j < i + 1) = (j < i) := by simp; omega
        simp [e, hj, e2]
  · simp
end
end Go.Proofs.YtfbegdcmnfkhgaaGreatDoor

namespace Go.Proofs.YtfbegdcmnfkhgaaGreatDoor
open Go Go.RowKit

def popN (x : Nat) : Nat := x % 2 + x / 2 % 2 + x / 4 % 2 + x / 8 % 2
theorem kern_step : ∀ x : Fin 16, 0 < x.1 → ∃ z : Fin 16, bits .and .u64 (x.1 : Int) ((x.1 : Int) - 1) = (z.1 : Int) ∧ z.1 < x.1 ∧ popN z.1 + 1 = popN x.1 := by decide +kernel
theorem or_bits (l : List Bool) (i : Nat) (h : l.length ≤ 4) (hi : i < l.length) : bits .or .u64 (bitsN l : Nat) ((2 : Int) ^ i) = (bitsN (l.set i true) : Nat) := by
  have key : ∀ (x : Fin 16) (i : Fin 4), bits .or .u64 (x.1 : Int) ((2 : Int) ^ i.1) = ((x.1 ||| 2 ^ i.1 : Nat) : Int) := by decide +kernel
  rw [key ⟨bitsN l, bits_lt l h⟩ ⟨i, by omega⟩, bits_set l i h hi]
theorem popN_bits (l : List Bool) (h : l.length ≤ 4) : popN (bitsN l) = cntB l := by
  rcases l with _ | ⟨a, _ | ⟨b, _ | ⟨c, _ | ⟨d, _ | ⟨e, l⟩⟩⟩⟩⟩
  · rfl
  · cases a <;> rfl
  · cases a <;> cases b <;> rfl
  · cases a <;> cases b <;> cases c <;> rfl
  · cases a <;> cases b <;> cases c <;> cases d <;> rfl
  · simp at h
set_option maxRecDepth 100000 in
theorem count_any (x : Nat) (hx : x < 16) (w : World) :
    Calls Tryz.prog 79 #[.int .u64 x] w fun e w' => e = .returned (.int .i64 (popN x)) ∧ w = w' := by
  go_enter Tryz.func79, Tryz.ntmps79
  go_wp2
  go_loop [0, 3] (fun v0 v3 => ∃ y c : Nat, v0 = .int .u64 y ∧ v3 = .int .i64 c ∧ y < 16 ∧ c + popN y = popN x) (fun v0 _ => (intOf v0).toNat)
  case atStart => exact ⟨x, 0, rfl, rfl, hx, by simp⟩
  case round =>
    obtain ⟨y, c, rfl, rfl, hy, hc⟩ := hrel
    have hpx : popN x ≤ 4 := by unfold popN; omega
    have hcb : c ≤ 4 := by omega
    replace hc := Lib.hid hc
    replace hpx := Lib.hid hpx
    by_cases h0 : 0 < y
    · obtain ⟨z, k0, k1, k2⟩ := kern_step ⟨y, hy⟩ h0
      have hI : (0 : Int) < y := by omega
      dsimp only at k0 k1 k2
      go_wp2
      go_round
      case rel => exact ⟨z.1, c + 1, rfl, by go_num, by omega, by have := hc.out; omega⟩
      case measure => simp [intOf]; omega
    · obtain rfl : y = 0 := by omega
      have hc' : c = popN x := by have := hc.out; simpa [popN] using this
      go_wp2
      go_ret
      exact ⟨rfl, rfl⟩
end Go.Proofs.YtfbegdcmnfkhgaaGreatDoor

namespace Go.Proofs.YtfbegdcmnfkhgaaGreatDoor
open Go Go.RowKit

end Go.Proofs.YtfbegdcmnfkhgaaGreatDoor

namespace Go.Proofs.YtfbegdcmnfkhgaaGreatDoor
open Go Go.RowKit

theorem strInfo : (Tryz.prog.info? 9).map (fun i => (i.zero, i.size, i.bytes)) = some (some (.string ⟨#[]⟩), 1, 16) := by kernel_rfl
end Go.Proofs.YtfbegdcmnfkhgaaGreatDoor
