/- Maps from names to numbers; the singers of a moment and a singer's range, by the program; a part found by its name. Conditions: sizes. Plain mathematics: a best division gives each singer a part that they can sing, and each part as many as it needs. Conditions: as each theorem says. -/
import Derived.Test.YtcdjkgfdhngmeaaGreatDoorSdDvK
import Derived.Test.YtcdjkgfdhngmeaaGreatDoorSdJ4
set_option linter.unusedSimpArgs false
set_option linter.unusedVariables false
namespace Go.Proofs.YtcdjkgfdhngmeaaGreatDoor
open Go Go.RowKit Go.Maps Go.Sort Go.Shelf

section
variable {w : World} {vp pp : Option Addr} {vc pc : Nat} {V : List VoiceV} {P : List PartV}
end
end Go.Proofs.YtcdjkgfdhngmeaaGreatDoor

namespace Go.Proofs.YtcdjkgfdhngmeaaGreatDoor

section
variable {P : List PartV}
theorem divG_ok : ∀ (C : List (List Int)) (N : List Nat), fromF P C N ≠ -1 → (divG P C N).length = C.length ∧ ∀ i k, (divG P C N)[i]? = some k → k < P.length ∧ 0 ≤ (C.getD i []).getD k (-1)
  | [], N, _ => ⟨rfl, fun i k h => by simp [divG] at h⟩
  | r :: C, N, h => by
    obtain ⟨hp1, hp2, hp3⟩ := pickP_hit h
    obtain ⟨h1, h2, h3⟩ := withV_some (by rw [hp2]; exact h : withV P (fromF P C) r N (pickP P C r N) ≠ -1)
    obtain ⟨a, b⟩ := divG_ok C (incN N (pickP P C r N)) h2
    refine ⟨by simp only [divG, List.length_cons, a], fun i k hk => ?_⟩
    cases i with
    | zero =>
      obtain rfl : pickP P C r N = k := by simpa [divG] using hk
      exact ⟨hp1, bar_pos h1⟩
    | succ i => exact b i k (by simpa [divG] using hk)
theorem divG_best {C : List (List Int)} {N : List Nat} (h : fromF P C N ≠ -1) : divG P C N ∈ bestL P C N := by
  obtain ⟨l, hl⟩ := best_head C N h
  rw [hl]; exact List.mem_cons_self ..
/-- The pair of a singer. -/
theorem divN_at {S : List ByteArray} {C : List (List Int)} {N : List Nat} {i k : Nat} {s : ByteArray} {x : PartV} (hs : S[i]? = some s) (hk : (divG P C N)[i]? = some k) (hx : P[k]? = some x) : (divN P S C N)[i]? = some (s, x.name) := by
  unfold divN
  rw [List.getElem?_zipWith, hs, hk]
  simp only [List.getD_eq_getElem?_getD, hx, Option.getD_some]
theorem divN_len {S : List ByteArray} {C : List (List Int)} {N : List Nat} (h : fromF P C N ≠ -1) (hl : C.length = S.length) : (divN P S C N).length = C.length := by
  unfold divN
  rw [List.length_zipWith, (divG_ok C N h).1, hl, Nat.min_self]
end
end Go.Proofs.YtcdjkgfdhngmeaaGreatDoor
