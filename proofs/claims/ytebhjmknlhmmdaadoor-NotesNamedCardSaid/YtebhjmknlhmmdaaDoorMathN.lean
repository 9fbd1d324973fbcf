/- A note's name is read as the note: by computing. Conditions: the note is at most 127. -/
import Derived.Test.YtebhjmknlhmmdaaDoorNoteP
namespace Go.Proofs.YtebhjmknlhmmdaaDoor
open Go Go.RowKit

def nameB (n : Nat) : ByteArray := letterB (n % 12) ++ ⟨(Lib.itoa ((n / 12 : Nat) - 1)).toArray⟩

theorem note_name_all : ∀ n : Fin 128, noteE (nameB n.val) = 0 ∧ noteV (nameB n.val) = n.val := by
  unfold noteE numOk
  simp only [Lib.toList_data]
  decide +kernel
theorem noteE_name {n : Nat} (h : n ≤ 127) : noteE (nameB n) = 0 := (note_name_all ⟨n, by omega⟩).1
theorem noteR_name {n : Nat} (h : n ≤ 127) : noteR (nameB n) = n := by
  unfold noteR
  rw [noteE_name h]
  exact (note_name_all ⟨n, by omega⟩).2
theorem name_size {n : Nat} (h : n ≤ 127) : (nameB n).size ≤ 1000 := by
  have : ∀ n : Fin 128, (nameB n.val).size ≤ 1000 := by decide +kernel
  exact this ⟨n, by omega⟩

end Go.Proofs.YtebhjmknlhmmdaaDoor
