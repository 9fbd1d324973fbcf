/- The name of a note, by tune. Conditions: the note is one. -/
import Derived.Test.YtboplnogfjmpnaaGreatDoorVkJ9
import Derived.Test.YtboplnogfjmpnaaGreatDoorVkFactsB
import Derived.Test.YtboplnogfjmpnaaGreatDoorVkStream
import Derived.Lib.AppendIntMem
import Derived.Lib.ItoaLen
set_option linter.unusedSimpArgs false
set_option linter.unusedVariables false
namespace Go.Proofs.YtboplnogfjmpnaaGreatDoor
open Go Go.RowKit

/-- The table of the powers of ten lies ahead of block B. -/
def Tab (B : Nat) (w : World) : Prop := B ≤ w.heap.size ∧ Lib.TabBelow Tryz.prog B w "internal/strconv.uint64pow10" .u64 Lib.pow10Tab
theorem Tab.ext {B : Nat} {w w' : World} (h : Tab B w) (he : Ext w w') : Tab B w' := ⟨Nat.le_trans h.1 he.size, h.2.on (Below.mono he h.1)⟩
theorem Tab.extS {B s : Nat} {w w' : World} (h : Tab B w) (hs : B ≤ s) (he : ExtS s w w') : Tab B w' :=
  ⟨Nat.le_trans h.1 he.2.2.2.1, h.2.on ⟨he.1, he.2.1, he.2.2.1, he.2.2.2.1, fun k hk => he.2.2.2.2 k (Nat.lt_of_lt_of_le hk h.1) (by omega)⟩⟩

theorem itoa_any (n : Int) (h0 : -9223372036854775808 ≤ n) (h1 : n ≤ 9223372036854775807) (B : Nat) (w : World) (ht : Tab B w) :
    Calls Tryz.prog 31 #[.int .i64 n] w fun e w' => e = .returned (.string ⟨(Lib.itoa n).toArray⟩) ∧ Ext w w' :=
  (Tryz.strconv_Itoa n h0 h1 w ht.2.here).mono fun e w' ⟨he, k, os, hw⟩ => ⟨he, by subst hw; exact Lib.below_grow _ _ (Nat.le_refl _) k os⟩

end Go.Proofs.YtboplnogfjmpnaaGreatDoor
