/- Right parts that the stream makes. Conditions: as each theorem says. -/
import Derived.Test.YtkfdolnnkbhlhaaDoorPartsD
namespace Go.Proofs.YtkfdolnnkbhlhaaDoor
open Go Go.RowKit

set_option maxRecDepth 100000 in
set_option maxHeartbeats 1600000 in
theorem rightParts_any (s k : Nat) (w : World) (hk : k ≤ 990000) (h : Str w s k) :
    Calls Tryd.prog 12 #[.pointer (some ⟨s, 0, none⟩)] w fun e w' => ∃ (p : Option Addr) (n c : Nat) (xs : List PartV), e = .returned (.slice p n c) ∧ n ≤ 3 ∧ Slc 5 partC w' p n c xs ∧ (∀ a, p = some a → w.heap.size < a.block) ∧ partsF xs = 0 ∧ (∀ x ∈ xs, x.Fine) ∧ Str w' s (k + 180) ∧ ExtS s w w' := by
  have l0 := h.lt
  go_enter Tryd.func12, Tryd.ntmps12
  go_wp2
  go_loopw [4] (fun i wr => ∃ j : Nat, j ≤ 6 ∧ i = .int .i64 j ∧ Str wr s (k + 30 * j) ∧ ExtS s w wr) (fun i _ => 6 - (intOf i).toNat)
  case atStart => exact ⟨0, by omega, rfl, h, ExtS.refl s w⟩
  case round =>
    clear h
    obtain ⟨j, hj, rfl, hS, hE⟩ := hrel
    by_cases hlt : j < 6
    · have hsz := hE.2.2.2.1
      go_upto_region 4 with (go_at_call 28; (with_reducible refine Calls.mono (partList_any s (k + 30 * j) _ (by omega) hS) ?_); rintro e w2 ⟨v, n, xs, rfl, hn, hown, hf, hS2, hE2⟩; obtain ⟨p, c, rfl, hSl⟩ := slc_of_own partC_len hown (by decide) (by omega))
      have hp : ∀ a, p = some a → w.heap.size < a.block := fun a ha => by
        subst ha
        obtain ⟨b, off, rfl, -⟩ := hSl.2.2.2 a rfl
        rcases hown.2 with ⟨h1, -⟩ | ⟨g, cap, cur, h1, hb, -⟩
        · cases h1
        · cases h1
          show w.heap.size < b
          omega
      have hchk := faultParts_any p n c xs w2 hSl.1 (fun x hx => (hf x hx).1) (by omega) hSl.2.1
      clear hown hS
      replace hp := Lib.hid hp
      replace hf := Lib.hid hf
      replace hSl := Lib.hid hSl
      have hE2' := hE.trans hE2
      clear hE hE2
      by_cases hz : partsF xs = 0
      · rw [hz] at hchk
        replace hz := Lib.hid hz
        go_wp2_with (go_at_call 29; (with_reducible refine Calls.mono hchk ?_); rintro e w3 ⟨rfl, hb3⟩)
        go_ret
        exact ⟨p, n, c, xs, rfl, hn, hSl.out.ext hb3, hp.out, hz.out, hf.out, (hS2.ext hb3).more (by omega), hE2'.ext hb3⟩
      · have hz' : (partsF xs == 0) = false := by simpa using hz
        go_wp2_with (go_at_call 29; (with_reducible refine Calls.mono hchk ?_); rintro e w3 ⟨rfl, hb3⟩)
        go_roundw
        case rel => exact ⟨j + 1, by omega, by go_num, (hS2.ext hb3).more (by omega), hE2'.ext hb3⟩
        case measure => simp [intOf]; omega
    · obtain rfl : j = 6 := by omega
      rw [show ((6 : Nat) : Int) = 6 from rfl]
      go_wp2
      go_ret
      exact ⟨none, 0, 0, [], rfl, by omega, Slc.nil _ _ _, (fun a ha => by cases ha), rfl, (fun x hx => by cases hx), hS.more (by omega), hE⟩
end Go.Proofs.YtkfdolnnkbhlhaaDoor
