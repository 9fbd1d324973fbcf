/- Voices: what is wrong with them, in plain words. Conditions: sizes. Voices and their lines, plain: what is written is read as it was; what is read is written so. Conditions: as each theorem says. -/
import Derived.Test.YtboplnogfjmpnaaGreatDoorVkJ10
import Derived.Test.YtboplnogfjmpnaaGreatDoorVkJ5
import Derived.Test.YtboplnogfjmpnaaGreatDoorVkFactsB
import Derived.Test.YtboplnogfjmpnaaGreatDoorVkJ7
import Derived.Test.YtboplnogfjmpnaaGreatDoorVkJ11
import Derived.Test.YtboplnogfjmpnaaGreatDoorVkWayM
import Derived.Deep.DeepCutAuto
import Derived.Deep.Light
import Derived.Test.YtboplnogfjmpnaaGreatDoorVkTxG
set_option linter.unusedSimpArgs false
set_option linter.unusedVariables false
namespace Go.Proofs.YtboplnogfjmpnaaGreatDoor
open Go Go.RowKit

structure VoiceV where
  name : ByteArray
  fr : Int
  lo : Int
  hi : Int
instance : Inhabited VoiceV := ⟨⟨⟨#[]⟩, 0, 0, 0⟩⟩
def voiC (x : VoiceV) : List Value := [.string x.name, .int .i64 x.fr, .int .i64 x.lo, .int .i64 x.hi]
theorem voiC_len (x : VoiceV) : (voiC x).length = 4 := rfl
theorem voi_one (x : VoiceV) : ∀ u ∈ voiC x, u.oneCell' = true := by simp [voiC, Value.oneCell']
theorem Elems.voi {w : World} {b off : Nat} {xs : List VoiceV} (h : Elems 4 voiC w b off xs) {i : Nat} {x : VoiceV} (hx : xs[i]? = some x) :
    w.cell? ⟨b, off + i * 4, none⟩ = some (.string x.name) ∧ w.cell? ⟨b, off + i * 4 + 1, none⟩ = some (.int .i64 x.fr) ∧ w.cell? ⟨b, off + i * 4 + 2, none⟩ = some (.int .i64 x.lo) ∧ w.cell? ⟨b, off + i * 4 + 3, none⟩ = some (.int .i64 x.hi) :=
  ⟨h i x hx 0 _ rfl, h i x hx 1 _ rfl, h i x hx 2 _ rfl, h i x hx 3 _ rfl⟩
def VoiceV.Small (x : VoiceV) : Prop := x.name.size ≤ 1000 ∧ (-1099511627776 ≤ x.fr ∧ x.fr ≤ 1099511627776) ∧ (-1000 ≤ x.lo ∧ x.lo ≤ 1000) ∧ (-1000 ≤ x.hi ∧ x.hi ≤ 1000)

/-- A voice that comes of a line of a text. -/
def VoiceV.Wide (x : VoiceV) : Prop := x.name.size ≤ 1000000 ∧ (-1000000000000000 ≤ x.fr ∧ x.fr ≤ 1000000000000000) ∧ (-1000000000000000 ≤ x.lo ∧ x.lo ≤ 1000000000000000) ∧ (-1000000000000000 ≤ x.hi ∧ x.hi ≤ 1000000000000000)
theorem VoiceV.Small.wide {x : VoiceV} (h : x.Small) : x.Wide := by
  obtain ⟨h1, h2, h3, h4⟩ := h
  exact ⟨by omega, by omega, by omega, by omega⟩
def momB (n : Int) : Bool := inB n 0 345686399999
/-- How voices are ordered. -/
def voiO (a b : VoiceV) : Int := orF [cmpS a.name b.name, cmpZ a.fr b.fr]
def chkVoi (xs : List VoiceV) (i : Nat) : Int :=
  if keyB (atL default xs i).name then
    (if momB (atL default xs i).fr && rightR (atL default xs i).lo (atL default xs i).hi then
      (if 0 < i && decide (0 ≤ voiO (atL default xs (i - 1)) (atL default xs i)) then 7 else 0) else 1) else 5
/-- What is wrong with voices (not more than 200 of them). -/
def voicesF (xs : List VoiceV) : Int := scanF xs.length (chkVoi xs)
/-- Whether a singer is new, and how many there are. -/
def newVo (xs : List VoiceV) (k : Nat) : Bool := k == 0 || !((atL default xs k).name.toList == (atL default xs (k - 1)).name.toList)
def manyVo (xs : List VoiceV) : Nat → Nat
  | 0 => 0
  | k + 1 => if newVo xs k then manyVo xs k + 1 else manyVo xs k
theorem manyVo_le (xs : List VoiceV) : ∀ k, manyVo xs k ≤ k
  | 0 => Nat.le_refl _
  | k + 1 => by have := manyVo_le xs k; show (if newVo xs k then manyVo xs k + 1 else manyVo xs k) ≤ _; split <;> omega
/-- What is wrong with voices, however many there are. -/
def voicesG (xs : List VoiceV) : Int := if 1000 < xs.length then 2 else if scanF xs.length (chkVoi xs) = 0 then (if 200 < manyVo xs xs.length then 2 else 0) else scanF xs.length (chkVoi xs)
theorem voicesG_small {xs : List VoiceV} (h : xs.length ≤ 200) : voicesG xs = voicesF xs := by
  have := manyVo_le xs xs.length
  unfold voicesG voicesF
  rw [if_neg (by omega), if_neg (show ¬ 200 < manyVo xs xs.length by omega)]
  split <;> simp_all
theorem cmpZ_three (x y : Int) : cmpZ x y = -1 ∨ cmpZ x y = 0 ∨ cmpZ x y = 1 := by unfold cmpZ; split <;> (try split) <;> omega
theorem voiO_three (a b : VoiceV) : voiO a b = -1 ∨ voiO a b = 0 ∨ voiO a b = 1 := by
  unfold voiO orF
  rcases cmpS_three a.name b.name with h | h | h <;> rcases cmpZ_three a.fr b.fr with k | k | k <;> rw [h, k] <;> decide

theorem vcmpS_any (a b : ByteArray) (w : World) :
    Calls Tryz.prog 48 #[.string a, .string b] w fun e w' => e = .returned (.int .i64 (cmpS a b)) ∧ Ext w w' :=
  (Tryz.strings_Compare a b w).mono fun _ _ h => ⟨h.1, h.2 ▸ Ext.refl _⟩
set_option maxRecDepth 100000 in
theorem vcmpI_any (x y : Int) (w : World) :
    Calls Tryz.prog 49 #[.int .i64 x, .int .i64 y] w fun e w' => e = .returned (.int .i64 (cmpZ x y)) ∧ Ext w w' := by
  have hn : ∀ x, Calls Tryz.prog 79 #[.int .i64 x] w fun e w' => e = .returned (.bool false) ∧ w = w' := fun x => by
    go_enter Tryz.func79, Tryz.ntmps79
    go_wp2
    go_ret
    exact ⟨ret_bool (by simp), rfl⟩
  replace hn := Lib.hid hn
  have hc : (x < y ∧ cmpZ x y = -1) ∨ (x = y ∧ cmpZ x y = 0) ∨ (y < x ∧ cmpZ x y = 1) := by unfold cmpZ; split <;> (try split) <;> omega
  rcases hc with ⟨h, hv⟩ | ⟨h, hv⟩ | ⟨h, hv⟩
  all_goals
    rw [hv]
    clear hv
    go_enter Tryz.func49, Tryz.ntmps49
    go_wp2_with (go_at_call 79; (with_reducible refine Calls.mono (hn.out _) ?_); rintro e w' ⟨rfl, rfl⟩)
    go_ret
    exact ⟨rfl, Ext.refl _⟩
theorem vor_any (y x : VoiceV) (g t : Nat) (w : World) (hb : Blk w g t #[.int .i64 (cmpS y.name x.name), .int .i64 (cmpZ y.fr x.fr)]) :
    Calls Tryz.prog 47 #[.slice (some ⟨g, 0, none⟩) 2 2] w fun e w' => e = .returned (.int .i64 (voiO y x)) ∧ Ext w w' :=
  (orInt_any g 0 2 [cmpS y.name x.name, cmpZ y.fr x.fr] w (by simp) (fun i hi => by
    have : i = 0 ∨ i = 1 := by simp at hi; omega
    rcases this with rfl | rfl
    · exact hb.cell 0
    · exact hb.cell 1)).mono fun _ _ h => ⟨h.1, h.2 ▸ Ext.refl _⟩
set_option maxRecDepth 100000 in
theorem isMom_any (n : Int) (w : World) :
    Calls Tryz.prog 84 #[.int .i64 n] w fun e w' => e = .returned (.bool (momB n)) ∧ Ext w w' := by
  have hm : momB n = !outB n 0 345686399999 := by unfold momB; rw [outB_inB]; simp
  have ho := fun w => outside_any n 0 345686399999 w
  replace hm := Lib.hid hm
  generalize outB n 0 345686399999 = v at *
  replace ho := Lib.hid ho
  go_enter Tryz.func84, Tryz.ntmps84
  go_wp2_with (go_at_call 70; (with_reducible refine Calls.mono (ho.out _) ?_); rintro e w' ⟨rfl, rfl⟩)
  go_ret
  exact ⟨ret_bool (by rw [hm.out]), Ext.refl _⟩
set_option maxRecDepth 100000 in
theorem momF_any (n : Int) (w : World) :
    Calls Tryz.prog 21 #[.int .i64 n] w fun e w' => e = .returned (.int .i64 (if momB n then 0 else 1)) ∧ Ext w w' := by
  have hs : spanF n 0 345686399999 = if momB n then 0 else 1 := rfl
  rw [← hs]
  clear hs
  go_enter Tryz.func21, Tryz.ntmps21
  go_wp2_with (go_at_call 57; (with_reducible refine Calls.mono (spanFault_any n 0 345686399999 _) ?_); rintro e w' ⟨rfl, rfl⟩)
  generalize spanF n 0 345686399999 = v
  go_ret
  exact ⟨rfl, Ext.refl _⟩
end Go.Proofs.YtboplnogfjmpnaaGreatDoor

namespace Go.Proofs.YtboplnogfjmpnaaGreatDoor
open Go Go.Lib Go.RowKit

def wordsVo (x : VoiceV) : List ByteArray := [x.name, itoaL x.fr, itoaL x.lo, itoaL x.hi]
def lnVo (x : VoiceV) : List UInt8 := join (bytesW (wordsVo x)) [32]
/-- A voice out of its line. -/
def rdVo (s : List UInt8) : Option VoiceV :=
  if (∃ w ∈ wordsL s, w = ⟨#[]⟩) ∨ (wordsL s).length ≠ 4 then none else
  if (numOk 15 ((wordsL s).getD 1 ⟨#[]⟩) && numOk 15 ((wordsL s).getD 2 ⟨#[]⟩) && numOk 15 ((wordsL s).getD 3 ⟨#[]⟩)) = true then
    some ⟨(wordsL s).getD 0 ⟨#[]⟩, numV ((wordsL s).getD 1 ⟨#[]⟩), numV ((wordsL s).getD 2 ⟨#[]⟩), numV ((wordsL s).getD 3 ⟨#[]⟩)⟩ else none
/-- What a right voice has. -/
structure VoiOk (x : VoiceV) : Prop where
  name : keyB x.name = true
  fr : 0 ≤ x.fr ∧ x.fr < 1000000000000000
  lo : 0 ≤ x.lo ∧ x.lo < 1000000000000000
  hi : 0 ≤ x.hi ∧ x.hi < 1000000000000000
theorem voi_words {x : VoiceV} (h : VoiOk x) : ∀ w ∈ wordsVo x, w.data.toList ≠ [] ∧ (32 : UInt8) ∉ w.data.toList ∧ (10 : UInt8) ∉ w.data.toList ∧ w.data.toList.length ≤ 40 := by
  obtain ⟨h1, h2, h3, h4⟩ := h
  have hk := key_bytes h1
  have hnum : ∀ n : Int, 0 ≤ n → n < 1000000000000000 → (itoaL n).data.toList ≠ [] ∧ (32 : UInt8) ∉ (itoaL n).data.toList ∧ (10 : UInt8) ∉ (itoaL n).data.toList ∧ (itoaL n).data.toList.length ≤ 40 := fun n h0 h1 => by
    obtain ⟨k, rfl⟩ : ∃ k : Nat, n = k := ⟨n.toNat, by omega⟩
    exact ⟨(itoa_bytes k).1, (itoa_bytes k).2.1, (itoa_bytes k).2.2, itoa_len h0 h1⟩
  intro w hw
  simp only [wordsVo, List.mem_cons, List.not_mem_nil, or_false] at hw
  rcases hw with rfl | rfl | rfl | rfl
  · exact ⟨hk.1, hk.2.1, hk.2.2.1, by rw [Array.length_toList]; exact hk.2.2.2⟩
  · exact hnum _ h2.1 h2.2
  · exact hnum _ h3.1 h3.2
  · exact hnum _ h4.1 h4.2
theorem lnVo_len {x : VoiceV} (h : VoiOk x) : (lnVo x).length ≤ 164 := lineG_len fun w hw => (voi_words h w hw).2.2.2
theorem voi_ok {xs : List VoiceV} (h : voicesF xs = 0) : ∀ x ∈ xs, VoiOk x := by
  have hz : ∀ i, i < xs.length → chkVoi xs i = 0 := fun i hi => Classical.byContradiction fun hc => by
    obtain ⟨k, hk, hz, hx⟩ := scan_first xs.length ⟨i, hi, hc⟩
    unfold voicesF at h
    rw [scan_at k hk hz hx] at h
    exact hx h
  intro x hx
  obtain ⟨i, hi⟩ := List.mem_iff_getElem?.1 hx
  have h0 := hz i (List.getElem?_eq_some_iff.1 hi).1
  unfold chkVoi at h0
  rw [atL_of hi] at h0
  split at h0
  · rename_i hk
    split at h0
    · rename_i hr
      simp only [Bool.and_eq_true] at hr
      have hm := hr.1
      have hrr := hr.2
      unfold momB inB at hm
      unfold rightR outB at hrr
      simp only [Bool.and_eq_true, decide_eq_true_eq] at hm
      simp at hrr
      exact ⟨hk, by omega, by omega, by omega⟩
    · cases h0
  · cases h0
theorem voicesG_good {xs : List VoiceV} (h : voicesG xs = 0) : xs.length ≤ 1000 ∧ ∀ x ∈ xs, VoiOk x := by
  unfold voicesG at h
  split at h
  · cases h
  · rename_i h1
    split at h
    · rename_i h2
      exact ⟨by omega, voi_ok h2⟩
    · rename_i h2
      exact absurd h h2
theorem rd_wide {s : List UInt8} {x : VoiceV} (h : rdVo s = some x) (hs : s.length ≤ 1000000) : x.Wide := by
  have h0 := getD_size (l := s) 0
  unfold rdVo at h
  split at h
  · cases h
  split at h
  · rename_i h2
    simp only [Bool.and_eq_true] at h2
    obtain ⟨⟨n1, n2⟩, n3⟩ := h2
    cases h
    exact ⟨Nat.le_trans h0 hs, numV_in n1, numV_in n2, numV_in n3⟩
  · cases h
end Go.Proofs.YtboplnogfjmpnaaGreatDoor
