/- The best stands: plain mathematics (a search that leaves what can't be better finds what the search of all finds). Conditions: as each theorem says. How many bits are set; who hides whom among those who stand so far: the solver's walks. Conditions: as each theorem says. Lists of numbers, and of who is hidden, that are equal; no error. Conditions: as each theorem says. What is wrong with stands: the document's walk. Conditions: sizes. -/
import Derived.Test.YtfbegdcmnfkhgaaGreatDoorRxJ26
import Derived.Deep.DeepCutAuto
import Derived.Deep.Light
import Derived.Outline
import Derived.Laws.StructEq
import Derived.Test.YtfbegdcmnfkhgaaGreatDoorRxJ19
set_option linter.unusedSimpArgs false
set_option linter.unusedVariables false
namespace Go.Proofs.YtfbegdcmnfkhgaaGreatDoor
open Go Go.RowKit

def sameP (a b : StandV) : Bool := (a.row == b.row) && (a.place == b.place)
def inT (T : List StandV) (x : StandV) : Bool := T.any fun y => sameP x y
def putN (P : List PersonV) (k : Nat) (x : StandV) : StandV := ⟨(P.getD k default).name, x.row, x.place⟩
def nxt (P : List PersonV) (T : List StandV) (x : StandV) : List StandV := T ++ [putN P T.length x]
theorem nxt_len (P : List PersonV) (T : List StandV) (x : StandV) : (nxt P T x).length = T.length + 1 := by simp [nxt]
theorem filt_mono {α : Type} {p q : α → Bool} (h : ∀ x, p x = true → q x = true) : ∀ l : List α, (l.filter p).length ≤ (l.filter q).length
  | [] => Nat.le_refl _
  | x :: l => by
    have ih := filt_mono h l
    rw [List.filter_cons, List.filter_cons]
    cases hp : p x
    · cases hq : q x <;> simp <;> omega
    · rw [h x hp]
      simp
      exact ih
section
variable (P : List PersonV) (wide high : List Int) (all : List StandV)
def hidT (T : List StandV) : Int := (hidN P wide high T T : Nat)
theorem hidT_mono (T : List StandV) (y : StandV) : hidT P wide high T ≤ hidT P wide high (T ++ [y]) := by
  unfold hidT hidN
  rw [List.filter_append, List.length_append]
  have := filt_mono (p := fun b => hidAny P wide high T b) (q := fun b => hidAny P wide high (T ++ [y]) b) (fun b h => by unfold hidAny at *; rw [List.any_append, h]; rfl) T
  omega
theorem hidT_bound (T : List StandV) : 0 ≤ hidT P wide high T ∧ hidT P wide high T ≤ T.length := by
  unfold hidT
  have := hidN_le P wide high T T
  omega
def leF : Nat → List StandV → Int × List StandV → Int × List StandV
  | 0, T, _ => (hidT P wide high T, T)
  | m + 1, T, st => all.foldl (fun st x => if inT T x then st else if hidT P wide high (nxt P T x) < st.1 then leF m (nxt P T x) st else st) st
def leG : Nat → List StandV → Int × List StandV → Int × List StandV
  | 0, T, st => if hidT P wide high T < st.1 then (hidT P wide high T, T) else st
  | m + 1, T, st => all.foldl (fun st x => if inT T x then st else leG m (nxt P T x) st) st
variable {P wide high all}
theorem foldl_eq9 {α β : Type} {f g : β → α → β} : ∀ (l : List α) (st : β), (∀ st x, f st x = g st x) → l.foldl f st = l.foldl g st
  | [], _, _ => rfl
  | x :: l, st, h => by rw [List.foldl_cons, List.foldl_cons, h, foldl_eq9 l _ h]
theorem foldl_still {α β : Type} {f : β → α → β} {st : β} : ∀ (l : List α), (∀ x, f st x = st) → l.foldl f st = st
  | [], _ => rfl
  | x :: l, h => by rw [List.foldl_cons, h, foldl_still l h]
theorem leG_still : ∀ (m : Nat) (T : List StandV) (st : Int × List StandV), st.1 ≤ hidT P wide high T → leG P wide high all m T st = st
  | 0, T, st, h => by unfold leG; rw [if_neg (by omega)]
  | m + 1, T, st, h => by
    unfold leG
    refine foldl_still all fun x => ?_
    split
    · rfl
    · exact leG_still m _ st (Int.le_trans h (hidT_mono P wide high T _))
theorem leF_leG : ∀ (m : Nat) (T : List StandV) (st : Int × List StandV), hidT P wide high T < st.1 → leF P wide high all m T st = leG P wide high all m T st
  | 0, T, st, h => by unfold leF leG; rw [if_pos h]
  | m + 1, T, st, _ => by
    unfold leF leG
    refine foldl_eq9 all st fun st x => ?_
    split
    · rfl
    · split
      · rename_i h
        exact leF_leG m _ st h
      · rename_i h
        rw [leG_still m _ st (by omega)]
end

/-! ### who is hidden, by bits -/
section
variable (P : List PersonV) (wide high : List Int)
end
end Go.Proofs.YtfbegdcmnfkhgaaGreatDoor

namespace Go.Proofs.YtfbegdcmnfkhgaaGreatDoor
open Go Go.RowKit

end Go.Proofs.YtfbegdcmnfkhgaaGreatDoor

namespace Go.Proofs.YtfbegdcmnfkhgaaGreatDoor
open Go Go.RowKit

end Go.Proofs.YtfbegdcmnfkhgaaGreatDoor

namespace Go.Proofs.YtfbegdcmnfkhgaaGreatDoor
open Go Go.RowKit

end Go.Proofs.YtfbegdcmnfkhgaaGreatDoor
