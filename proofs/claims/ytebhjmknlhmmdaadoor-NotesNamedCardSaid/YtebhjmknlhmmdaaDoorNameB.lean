/- A note's name by the document's text. Conditions: the note is at most 127; the two tables stand. -/
import Derived.Test.YtebhjmknlhmmdaaDoorNameA
import Derived.Test.YtebhjmknlhmmdaaDoorMathN
namespace Go.Proofs.YtebhjmknlhmmdaaDoor
open Go Go.RowKit

/-- The table of the spaces lies ahead of block B. -/
def TabS (B : Nat) (w : World) : Prop := B ≤ w.heap.size ∧ Lib.TabBelow Tryd.prog B w "strings.asciiSpace" .u8 Lib.asciiSpaceTab
theorem TabS.ext {B : Nat} {w w' : World} (h : TabS B w) (he : Ext w w') : TabS B w' := ⟨Nat.le_trans h.1 he.size, h.2.on (Below.mono he h.1)⟩
theorem TabS.extS {B s : Nat} {w w' : World} (h : TabS B w) (hs : B ≤ s) (he : ExtS s w w') : TabS B w' :=
  ⟨Nat.le_trans h.1 he.2.2.2.1, h.2.on ⟨he.1, he.2.1, he.2.2.1, he.2.2.2.1, fun k hk => he.2.2.2.2 k (Nat.lt_of_lt_of_le hk h.1) (by omega)⟩⟩

abbrev lettersB : ByteArray := ⟨#[99, 32, 100, 32, 101, 102, 32, 103, 32, 97, 32, 98]⟩
def oneB (s : ByteArray) : ByteArray := ⟨(Lib.trimSpace s.data.toList).toArray⟩
theorem trimSpace_any {s : ByteArray} {v : ByteArray} (w : World) (B : Nat) (hT : TabS B w) (hs : s.size ≤ 9223372036854775807) (ha : ∀ b ∈ s.data.toList, b.toNat < 128) (hv : oneB s = v) :
    Calls Tryd.prog 42 #[.string s] w fun e w' => e = .returned (.string v) ∧ Ext w w' :=
  (Tryd.strings_TrimSpace s w hs (fun j b hb => ha b (List.mem_of_getElem? hb)) hT.2.here).mono fun _ _ h => ⟨hv ▸ h.1, h.2 ▸ ext_bytes w _ s⟩

def letterC (r : Nat) : ByteArray := if (oneB (lettersB.extract r (r + 1))).data.toList.isEmpty then lettersB.extract (r - 1) r ++ ⟨#[35]⟩ else oneB (lettersB.extract r (r + 1))
theorem letterC_eq : ∀ r : Fin 12, letterC r.val = letterB r.val := by decide +kernel

set_option maxRecDepth 100000 in
set_option maxHeartbeats 3200000 in
theorem nameOf_any (n : Nat) (B : Nat) (w : World) (h : n ≤ 127) (ht : Tab B w) (hT : TabS B w) :
    Calls Tryd.prog 17 #[.int .i64 n] w fun e w' => e = .returned (.string (nameB n)) ∧ Ext w w' := by
  have h12 : n % 12 < 12 := Nat.mod_lt _ (by omega)
  have hL : letterC (n % 12) = letterB (n % 12) := letterC_eq ⟨n % 12, h12⟩
  have hN : nameB n = letterB (n % 12) ++ ⟨(Lib.itoa ((n / 12 : Nat) - 1)).toArray⟩ := rfl
  rw [← hL] at hN
  clear hL
  have htm : (n : Int).tmod 12 = ((n % 12 : Nat) : Int) := (Int.ofNat_tmod n 12).symm
  have htd : (n : Int).tdiv 12 = ((n / 12 : Nat) : Int) := (Int.ofNat_tdiv n 12).symm
  have hdl : n / 12 ≤ 10 := by omega
  obtain ⟨q, hq⟩ : ∃ q, n / 12 = q := ⟨_, rfl⟩
  obtain ⟨r, hr⟩ : ∃ r, n % 12 = r := ⟨_, rfl⟩
  rw [hq] at htd hdl hN
  rw [hr] at htm h12 hN
  generalize nameB n = nb at *
  have hsub : IntKind.i64.wrap ((q : Int) - 1) = (q : Int) - 1 := IntWalk.i64_in _ (by omega)
  have hi := fun W (hW : Tab B W) => itoa_any ((q : Int) - 1) (by omega) (by omega) B W hW
  replace hi := Lib.hid hi
  have hL2 := Lib.itoa_length_le ((q : Int) - 1) (by omega) (by omega)
  replace hq := Lib.hid hq
  replace hr := Lib.hid hr
  replace hN := Lib.hid hN
  have hr' : r = 0 ∨ r = 1 ∨ r = 2 ∨ r = 3 ∨ r = 4 ∨ r = 5 ∨ r = 6 ∨ r = 7 ∨ r = 8 ∨ r = 9 ∨ r = 10 ∨ r = 11 := by omega
  have hs : ∀ (k : Nat) (v : ByteArray) (w : World), TabS B w → k < 12 → oneB (lettersB.extract k (k + 1)) = v → Calls Tryd.prog 42 #[.string (lettersB.extract k (k + 1))] w fun e w' => e = .returned (.string v) ∧ Ext w w' := fun k v w hw hk hv => trimSpace_any w B hw (by
    have : ∀ k : Fin 12, (lettersB.extract k.val (k.val + 1)).size ≤ 9223372036854775807 := by decide +kernel
    exact this ⟨k, hk⟩) (by
    have : ∀ k : Fin 12, ∀ b ∈ (lettersB.extract k.val (k.val + 1)).data.toList, b.toNat < 128 := by decide +kernel
    exact this ⟨k, hk⟩) hv
  rcases hr' with rfl | rfl | rfl | rfl | rfl | rfl | rfl | rfl | rfl | rfl | rfl | rfl
  · have hsz : (⟨#[99]⟩ : ByteArray).size ≤ 2 := by decide
    go_enter Tryd.func17, Tryd.ntmps17
    go_wp2_with (first
      | (go_at_call 42; (with_reducible refine Calls.mono (hs 0 ⟨#[99]⟩ _ hT (by decide) (by decide +kernel)) ?_); rintro e w1 ⟨rfl, hb1⟩)
      | (go_at_call 40; (with_reducible refine Calls.mono (hi.out _ (by exact ht.ext hb1)) ?_); rintro e w2 ⟨rfl, hb2⟩))
    go_ret
    have e : letterC 0 = ⟨#[99]⟩ := by decide +kernel
    have e2 : ⟨#[99]⟩ ++ ⟨(Lib.itoa ((q : Int) - 1)).toArray⟩ = nb := by rw [hN.out, e]
    exact ⟨congrArg (fun b : ByteArray => Ending.returned (.string b)) e2, by exact hb1.trans hb2⟩
  · have hsz : (lettersB.extract 0 1 ++ ⟨#[35]⟩ : ByteArray).size ≤ 2 := by decide
    go_enter Tryd.func17, Tryd.ntmps17
    go_wp2_with (first
      | (go_at_call 42; (with_reducible refine Calls.mono (hs 1 ⟨#[]⟩ _ hT (by decide) (by decide +kernel)) ?_); rintro e w1 ⟨rfl, hb1⟩)
      | (go_at_call 40; (with_reducible refine Calls.mono (hi.out _ (by exact ht.ext hb1)) ?_); rintro e w2 ⟨rfl, hb2⟩))
    go_ret
    have e : letterC 1 = lettersB.extract 0 1 ++ ⟨#[35]⟩ := by decide +kernel
    have e2 : lettersB.extract 0 1 ++ ⟨#[35]⟩ ++ ⟨(Lib.itoa ((q : Int) - 1)).toArray⟩ = nb := by rw [hN.out, e]
    exact ⟨congrArg (fun b : ByteArray => Ending.returned (.string b)) e2, by exact hb1.trans hb2⟩
  · have hsz : (⟨#[100]⟩ : ByteArray).size ≤ 2 := by decide
    go_enter Tryd.func17, Tryd.ntmps17
    go_wp2_with (first
      | (go_at_call 42; (with_reducible refine Calls.mono (hs 2 ⟨#[100]⟩ _ hT (by decide) (by decide +kernel)) ?_); rintro e w1 ⟨rfl, hb1⟩)
      | (go_at_call 40; (with_reducible refine Calls.mono (hi.out _ (by exact ht.ext hb1)) ?_); rintro e w2 ⟨rfl, hb2⟩))
    go_ret
    have e : letterC 2 = ⟨#[100]⟩ := by decide +kernel
    have e2 : ⟨#[100]⟩ ++ ⟨(Lib.itoa ((q : Int) - 1)).toArray⟩ = nb := by rw [hN.out, e]
    exact ⟨congrArg (fun b : ByteArray => Ending.returned (.string b)) e2, by exact hb1.trans hb2⟩
  · have hsz : (lettersB.extract 2 3 ++ ⟨#[35]⟩ : ByteArray).size ≤ 2 := by decide
    go_enter Tryd.func17, Tryd.ntmps17
    go_wp2_with (first
      | (go_at_call 42; (with_reducible refine Calls.mono (hs 3 ⟨#[]⟩ _ hT (by decide) (by decide +kernel)) ?_); rintro e w1 ⟨rfl, hb1⟩)
      | (go_at_call 40; (with_reducible refine Calls.mono (hi.out _ (by exact ht.ext hb1)) ?_); rintro e w2 ⟨rfl, hb2⟩))
    go_ret
    have e : letterC 3 = lettersB.extract 2 3 ++ ⟨#[35]⟩ := by decide +kernel
    have e2 : lettersB.extract 2 3 ++ ⟨#[35]⟩ ++ ⟨(Lib.itoa ((q : Int) - 1)).toArray⟩ = nb := by rw [hN.out, e]
    exact ⟨congrArg (fun b : ByteArray => Ending.returned (.string b)) e2, by exact hb1.trans hb2⟩
  · have hsz : (⟨#[101]⟩ : ByteArray).size ≤ 2 := by decide
    go_enter Tryd.func17, Tryd.ntmps17
    go_wp2_with (first
      | (go_at_call 42; (with_reducible refine Calls.mono (hs 4 ⟨#[101]⟩ _ hT (by decide) (by decide +kernel)) ?_); rintro e w1 ⟨rfl, hb1⟩)
      | (go_at_call 40; (with_reducible refine Calls.mono (hi.out _ (by exact ht.ext hb1)) ?_); rintro e w2 ⟨rfl, hb2⟩))
    go_ret
    have e : letterC 4 = ⟨#[101]⟩ := by decide +kernel
    have e2 : ⟨#[101]⟩ ++ ⟨(Lib.itoa ((q : Int) - 1)).toArray⟩ = nb := by rw [hN.out, e]
    exact ⟨congrArg (fun b : ByteArray => Ending.returned (.string b)) e2, by exact hb1.trans hb2⟩
  · have hsz : (⟨#[102]⟩ : ByteArray).size ≤ 2 := by decide
    go_enter Tryd.func17, Tryd.ntmps17
    go_wp2_with (first
      | (go_at_call 42; (with_reducible refine Calls.mono (hs 5 ⟨#[102]⟩ _ hT (by decide) (by decide +kernel)) ?_); rintro e w1 ⟨rfl, hb1⟩)
      | (go_at_call 40; (with_reducible refine Calls.mono (hi.out _ (by exact ht.ext hb1)) ?_); rintro e w2 ⟨rfl, hb2⟩))
    go_ret
    have e : letterC 5 = ⟨#[102]⟩ := by decide +kernel
    have e2 : ⟨#[102]⟩ ++ ⟨(Lib.itoa ((q : Int) - 1)).toArray⟩ = nb := by rw [hN.out, e]
    exact ⟨congrArg (fun b : ByteArray => Ending.returned (.string b)) e2, by exact hb1.trans hb2⟩
  · have hsz : (lettersB.extract 5 6 ++ ⟨#[35]⟩ : ByteArray).size ≤ 2 := by decide
    go_enter Tryd.func17, Tryd.ntmps17
    go_wp2_with (first
      | (go_at_call 42; (with_reducible refine Calls.mono (hs 6 ⟨#[]⟩ _ hT (by decide) (by decide +kernel)) ?_); rintro e w1 ⟨rfl, hb1⟩)
      | (go_at_call 40; (with_reducible refine Calls.mono (hi.out _ (by exact ht.ext hb1)) ?_); rintro e w2 ⟨rfl, hb2⟩))
    go_ret
    have e : letterC 6 = lettersB.extract 5 6 ++ ⟨#[35]⟩ := by decide +kernel
    have e2 : lettersB.extract 5 6 ++ ⟨#[35]⟩ ++ ⟨(Lib.itoa ((q : Int) - 1)).toArray⟩ = nb := by rw [hN.out, e]
    exact ⟨congrArg (fun b : ByteArray => Ending.returned (.string b)) e2, by exact hb1.trans hb2⟩
  · have hsz : (⟨#[103]⟩ : ByteArray).size ≤ 2 := by decide
    go_enter Tryd.func17, Tryd.ntmps17
    go_wp2_with (first
      | (go_at_call 42; (with_reducible refine Calls.mono (hs 7 ⟨#[103]⟩ _ hT (by decide) (by decide +kernel)) ?_); rintro e w1 ⟨rfl, hb1⟩)
      | (go_at_call 40; (with_reducible refine Calls.mono (hi.out _ (by exact ht.ext hb1)) ?_); rintro e w2 ⟨rfl, hb2⟩))
    go_ret
    have e : letterC 7 = ⟨#[103]⟩ := by decide +kernel
    have e2 : ⟨#[103]⟩ ++ ⟨(Lib.itoa ((q : Int) - 1)).toArray⟩ = nb := by rw [hN.out, e]
    exact ⟨congrArg (fun b : ByteArray => Ending.returned (.string b)) e2, by exact hb1.trans hb2⟩
  · have hsz : (lettersB.extract 7 8 ++ ⟨#[35]⟩ : ByteArray).size ≤ 2 := by decide
    go_enter Tryd.func17, Tryd.ntmps17
    go_wp2_with (first
      | (go_at_call 42; (with_reducible refine Calls.mono (hs 8 ⟨#[]⟩ _ hT (by decide) (by decide +kernel)) ?_); rintro e w1 ⟨rfl, hb1⟩)
      | (go_at_call 40; (with_reducible refine Calls.mono (hi.out _ (by exact ht.ext hb1)) ?_); rintro e w2 ⟨rfl, hb2⟩))
    go_ret
    have e : letterC 8 = lettersB.extract 7 8 ++ ⟨#[35]⟩ := by decide +kernel
    have e2 : lettersB.extract 7 8 ++ ⟨#[35]⟩ ++ ⟨(Lib.itoa ((q : Int) - 1)).toArray⟩ = nb := by rw [hN.out, e]
    exact ⟨congrArg (fun b : ByteArray => Ending.returned (.string b)) e2, by exact hb1.trans hb2⟩
  · have hsz : (⟨#[97]⟩ : ByteArray).size ≤ 2 := by decide
    go_enter Tryd.func17, Tryd.ntmps17
    go_wp2_with (first
      | (go_at_call 42; (with_reducible refine Calls.mono (hs 9 ⟨#[97]⟩ _ hT (by decide) (by decide +kernel)) ?_); rintro e w1 ⟨rfl, hb1⟩)
      | (go_at_call 40; (with_reducible refine Calls.mono (hi.out _ (by exact ht.ext hb1)) ?_); rintro e w2 ⟨rfl, hb2⟩))
    go_ret
    have e : letterC 9 = ⟨#[97]⟩ := by decide +kernel
    have e2 : ⟨#[97]⟩ ++ ⟨(Lib.itoa ((q : Int) - 1)).toArray⟩ = nb := by rw [hN.out, e]
    exact ⟨congrArg (fun b : ByteArray => Ending.returned (.string b)) e2, by exact hb1.trans hb2⟩
  · have hsz : (lettersB.extract 9 10 ++ ⟨#[35]⟩ : ByteArray).size ≤ 2 := by decide
    go_enter Tryd.func17, Tryd.ntmps17
    go_wp2_with (first
      | (go_at_call 42; (with_reducible refine Calls.mono (hs 10 ⟨#[]⟩ _ hT (by decide) (by decide +kernel)) ?_); rintro e w1 ⟨rfl, hb1⟩)
      | (go_at_call 40; (with_reducible refine Calls.mono (hi.out _ (by exact ht.ext hb1)) ?_); rintro e w2 ⟨rfl, hb2⟩))
    go_ret
    have e : letterC 10 = lettersB.extract 9 10 ++ ⟨#[35]⟩ := by decide +kernel
    have e2 : lettersB.extract 9 10 ++ ⟨#[35]⟩ ++ ⟨(Lib.itoa ((q : Int) - 1)).toArray⟩ = nb := by rw [hN.out, e]
    exact ⟨congrArg (fun b : ByteArray => Ending.returned (.string b)) e2, by exact hb1.trans hb2⟩
  · have hsz : (⟨#[98]⟩ : ByteArray).size ≤ 2 := by decide
    go_enter Tryd.func17, Tryd.ntmps17
    go_wp2_with (first
      | (go_at_call 42; (with_reducible refine Calls.mono (hs 11 ⟨#[98]⟩ _ hT (by decide) (by decide +kernel)) ?_); rintro e w1 ⟨rfl, hb1⟩)
      | (go_at_call 40; (with_reducible refine Calls.mono (hi.out _ (by exact ht.ext hb1)) ?_); rintro e w2 ⟨rfl, hb2⟩))
    go_ret
    have e : letterC 11 = ⟨#[98]⟩ := by decide +kernel
    have e2 : ⟨#[98]⟩ ++ ⟨(Lib.itoa ((q : Int) - 1)).toArray⟩ = nb := by rw [hN.out, e]
    exact ⟨congrArg (fun b : ByteArray => Ending.returned (.string b)) e2, by exact hb1.trans hb2⟩

end Go.Proofs.YtebhjmknlhmmdaaDoor
