/- Slips that the stream makes. Conditions: sizes. -/
import Derived.Test.YtehboinleolihaaGreatDoorCzJ21
import Derived.Test.YtehboinleolihaaGreatDoorCzJ4
set_option linter.unusedSimpArgs false
set_option linter.unusedVariables false
namespace Go.Proofs.YtehboinleolihaaGreatDoor
open Go Go.RowKit
theorem sli_mod3 {w : World} {base g n cap : Nat} {xs : List SlipV} (h : w.ownsRow base 79 7 (.slice (some ⟨g, 0, none⟩) n cap) n (xs.flatMap slipC)) {i : Nat} {x : SlipV} (hx : xs[i]? = some x) (a : ByteArray) (b c : Int) :
 (((w.setCell ⟨g, i * 7, none⟩ (.string a)).setCell ⟨g, i * 7 + 1, none⟩ (.int .i64 b)).setCell ⟨g, i * 7 + 2, none⟩ (.int .i64 c)).ownsRow base 79 7 (.slice (some ⟨g, 0, none⟩) n cap) n ((xs.set i ⟨a, b, c, x.kind, x.piece, x.copy, x.singer⟩).flatMap slipC) := by
 have hil := (List.getElem?_eq_some_iff.1 hx).1
 have hs : ∀ y : SlipV, (xs.set i y)[i]? = some y := fun y => List.getElem?_set_self hil
 have h1 := own_set1 slipC_len h ⟨a, x.no, x.at_, x.kind, x.piece, x.copy, x.singer⟩ hx 0 (by decide) (.string a) rfl
 have h2 := own_set1 slipC_len h1 ⟨a, b, x.at_, x.kind, x.piece, x.copy, x.singer⟩ (hs _) 1 (by decide) (.int .i64 b) rfl
 rw [List.set_set] at h2
 have h3 := own_set1 slipC_len h2 ⟨a, b, c, x.kind, x.piece, x.copy, x.singer⟩ (hs _) 2 (by decide) (.int .i64 c) rfl
 rw [List.set_set] at h3
 exact h3
theorem sli_mod36 {w : World} {base g n cap : Nat} {xs : List SlipV} (h : w.ownsRow base 79 7 (.slice (some ⟨g, 0, none⟩) n cap) n (xs.flatMap slipC)) {i : Nat} {x : SlipV} (hx : xs[i]? = some x) (a : Int) (b : ByteArray) :
 ((w.setCell ⟨g, i * 7 + 3, none⟩ (.int .i64 a)).setCell ⟨g, i * 7 + 6, none⟩ (.string b)).ownsRow base 79 7 (.slice (some ⟨g, 0, none⟩) n cap) n ((xs.set i ⟨x.by_, x.no, x.at_, a, x.piece, x.copy, b⟩).flatMap slipC) := by
 have hil := (List.getElem?_eq_some_iff.1 hx).1
 have hs : ∀ y : SlipV, (xs.set i y)[i]? = some y := fun y => List.getElem?_set_self hil
 have h1 := own_set1 slipC_len h ⟨x.by_, x.no, x.at_, a, x.piece, x.copy, x.singer⟩ hx 3 (by decide) (.int .i64 a) rfl
 have h2 := own_set1 slipC_len h1 ⟨x.by_, x.no, x.at_, a, x.piece, x.copy, b⟩ (hs _) 6 (by decide) (.string b) rfl
 rw [List.set_set] at h2
 exact h2
theorem sli_mod45 {w : World} {base g n cap : Nat} {xs : List SlipV} (h : w.ownsRow base 79 7 (.slice (some ⟨g, 0, none⟩) n cap) n (xs.flatMap slipC)) {i : Nat} {x : SlipV} (hx : xs[i]? = some x) (a : ByteArray) (b : Int) :
 ((w.setCell ⟨g, i * 7 + 4, none⟩ (.string a)).setCell ⟨g, i * 7 + 5, none⟩ (.int .i64 b)).ownsRow base 79 7 (.slice (some ⟨g, 0, none⟩) n cap) n ((xs.set i ⟨x.by_, x.no, x.at_, x.kind, a, b, x.singer⟩).flatMap slipC) := by
 have hil := (List.getElem?_eq_some_iff.1 hx).1
 have hs : ∀ y : SlipV, (xs.set i y)[i]? = some y := fun y => List.getElem?_set_self hil
 have h1 := own_set1 slipC_len h ⟨x.by_, x.no, x.at_, x.kind, a, x.copy, x.singer⟩ hx 4 (by decide) (.string a) rfl
 have h2 := own_set1 slipC_len h1 ⟨x.by_, x.no, x.at_, x.kind, a, b, x.singer⟩ (hs _) 5 (by decide) (.int .i64 b) rfl
 rw [List.set_set] at h2
 exact h2
def byBlk : Array Value := #[.string ⟨#[108,105,122]⟩, .string ⟨#[109,97,120]⟩]
def pieceL : List ByteArray := [⟨#[97,118,101]⟩, ⟨#[97,118,101]⟩, ⟨#[103,108,111,114,105,97]⟩, ⟨#[107,121,114,105,101]⟩]
def annL : List ByteArray := [⟨#[97,110,110]⟩, ⟨#[98,111,98]⟩, ⟨#[99,105,100]⟩]
end Go.Proofs.YtehboinleolihaaGreatDoor
