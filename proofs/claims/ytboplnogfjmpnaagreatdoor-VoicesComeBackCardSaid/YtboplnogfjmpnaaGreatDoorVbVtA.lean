/- Voices and their lines, plain: what is written is read as it was; what is read is written so. Conditions: as each theorem says. -/
import Derived.Test.YtboplnogfjmpnaaGreatDoorVbVoA
import Derived.Test.YtboplnogfjmpnaaGreatDoorVbTxG
set_option linter.unusedSimpArgs false
set_option linter.unusedVariables false
namespace Go.Proofs.YtboplnogfjmpnaaGreatDoor
open Go Go.Lib Go.RowKit

def wordsVo (x : VoiceV) : List ByteArray := [x.name, itoaL x.fr, itoaL x.lo, itoaL x.hi]
def lnVo (x : VoiceV) : List UInt8 := join (bytesW (wordsVo x)) [32]
/-- A voice out of its line. -/
def rdVo (s : List UInt8) : Option VoiceV :=
  if (∃ w ∈ wordsL s, w = ⟨#[]⟩) ∨ (wordsL s).length ≠ 4 then none else
  if (numOk 15 ((wordsL s).getD 1 ⟨#[]⟩) && numOk 15 ((wordsL s).getD 2 ⟨#[]⟩) && numOk 15 ((wordsL s).getD 3 ⟨#[]⟩)) = true then
    some ⟨(wordsL s).getD 0 ⟨#[]⟩, numV ((wordsL s).getD 1 ⟨#[]⟩), numV ((wordsL s).getD 2 ⟨#[]⟩), numV ((wordsL s).getD 3 ⟨#[]⟩)⟩ else none
/-- What a right voice has. -/
structure VoiOk (x : VoiceV) : Prop where
  name : keyB x.name = true
  fr : 0 ≤ x.fr ∧ x.fr < 1000000000000000
  lo : 0 ≤ x.lo ∧ x.lo < 1000000000000000
  hi : 0 ≤ x.hi ∧ x.hi < 1000000000000000
theorem voi_words {x : VoiceV} (h : VoiOk x) : ∀ w ∈ wordsVo x, w.data.toList ≠ [] ∧ (32 : UInt8) ∉ w.data.toList ∧ (10 : UInt8) ∉ w.data.toList ∧ w.data.toList.length ≤ 40 := by
  obtain ⟨h1, h2, h3, h4⟩ := h
  have hk := key_bytes h1
  have hnum : ∀ n : Int, 0 ≤ n → n < 1000000000000000 → (itoaL n).data.toList ≠ [] ∧ (32 : UInt8) ∉ (itoaL n).data.toList ∧ (10 : UInt8) ∉ (itoaL n).data.toList ∧ (itoaL n).data.toList.length ≤ 40 := fun n h0 h1 => by
    obtain ⟨k, rfl⟩ : ∃ k : Nat, n = k := ⟨n.toNat, by omega⟩
    exact ⟨(itoa_bytes k).1, (itoa_bytes k).2.1, (itoa_bytes k).2.2, itoa_len h0 h1⟩
  intro w hw
  simp only [wordsVo, List.mem_cons, List.not_mem_nil, or_false] at hw
  rcases hw with rfl | rfl | rfl | rfl
  · exact ⟨hk.1, hk.2.1, hk.2.2.1, by rw [Array.length_toList]; exact hk.2.2.2⟩
  · exact hnum _ h2.1 h2.2
  · exact hnum _ h3.1 h3.2
  · exact hnum _ h4.1 h4.2
theorem voi_of {s : List UInt8} {x : VoiceV} (h : rdVo s = some x) : lnVo x = s := by
  unfold rdVo at h
  split at h
  · cases h
  rename_i h1
  split at h
  · rename_i h2
    simp only [Bool.and_eq_true] at h2
    obtain ⟨⟨n1, n2⟩, n3⟩ := h2
    cases h
    have h4 : (wordsL s).length = 4 := Classical.byContradiction fun e => h1 (.inr e)
    unfold lnVo wordsVo
    simp only [num_write n1, num_write n2, num_write n3]
    rw [← getG ⟨#[]⟩ h4]
    exact backG_line s
  · cases h
theorem voi_read {x : VoiceV} (h : VoiOk x) : rdVo (lnVo x) = some x := by
  have hok := voi_words h
  have hw : wordsL (lnVo x) = wordsVo x := wordsG_line (by simp [wordsVo]) fun w hw => (hok w hw).2.1
  obtain ⟨h1, h2, h3, h4⟩ := h
  obtain ⟨a, ha⟩ : ∃ n : Nat, x.fr = n := ⟨x.fr.toNat, by omega⟩
  obtain ⟨b, hb⟩ : ∃ n : Nat, x.lo = n := ⟨x.lo.toNat, by omega⟩
  obtain ⟨c, hc⟩ : ∃ n : Nat, x.hi = n := ⟨x.hi.toNat, by omega⟩
  have ha1 := num_read (n := a) (by omega)
  have hb1 := num_read (n := b) (by omega)
  have hc1 := num_read (n := c) (by omega)
  have hne : ¬ ((∃ w ∈ wordsVo x, w = ⟨#[]⟩) ∨ (wordsVo x).length ≠ 4) := fun e => e.elim (fun ⟨w, hw, e⟩ => (hok w hw).1 (by rw [e])) fun e => e rfl
  unfold rdVo
  rw [hw, if_neg hne]
  simp only [wordsVo, List.getD_cons_succ, List.getD_cons_zero, ha, hb, hc, ha1.1, hb1.1, hc1.1, ha1.2, hb1.2, hc1.2, Bool.and_self, if_true]
  obtain ⟨name, fr, lo, hi⟩ := x
  simp only at ha hb hc ⊢
  subst ha hb hc
  rfl
theorem fmtVo : LineFmt lnVo rdVo VoiOk := ⟨voi_of, voi_read, fun h => nofeedG_line fun w hw => (voi_words h w hw).2.2.1⟩
theorem lnVo_len {x : VoiceV} (h : VoiOk x) : (lnVo x).length ≤ 164 := lineG_len fun w hw => (voi_words h w hw).2.2.2
theorem voi_ok {xs : List VoiceV} (h : voicesF xs = 0) : ∀ x ∈ xs, VoiOk x := by
  have hz : ∀ i, i < xs.length → chkVoi xs i = 0 := fun i hi => Classical.byContradiction fun hc => by
    obtain ⟨k, hk, hz, hx⟩ := scan_first xs.length ⟨i, hi, hc⟩
    unfold voicesF at h
    rw [scan_at k hk hz hx] at h
    exact hx h
  intro x hx
  obtain ⟨i, hi⟩ := List.mem_iff_getElem?.1 hx
  have h0 := hz i (List.getElem?_eq_some_iff.1 hi).1
  unfold chkVoi at h0
  rw [atL_of hi] at h0
  split at h0
  · rename_i hk
    split at h0
    · rename_i hr
      simp only [Bool.and_eq_true] at hr
      have hm := hr.1
      have hrr := hr.2
      unfold momB inB at hm
      unfold rightR outB at hrr
      simp only [Bool.and_eq_true, decide_eq_true_eq] at hm
      simp at hrr
      exact ⟨hk, by omega, by omega, by omega⟩
    · cases h0
  · cases h0
theorem voicesG_good {xs : List VoiceV} (h : voicesG xs = 0) : xs.length ≤ 1000 ∧ ∀ x ∈ xs, VoiOk x := by
  unfold voicesG at h
  split at h
  · cases h
  · rename_i h1
    split at h
    · rename_i h2
      exact ⟨by omega, voi_ok h2⟩
    · rename_i h2
      exact absurd h h2
theorem rd_wide {s : List UInt8} {x : VoiceV} (h : rdVo s = some x) (hs : s.length ≤ 1000000) : x.Wide := by
  have h0 := getD_size (l := s) 0
  unfold rdVo at h
  split at h
  · cases h
  split at h
  · rename_i h2
    simp only [Bool.and_eq_true] at h2
    obtain ⟨⟨n1, n2⟩, n3⟩ := h2
    cases h
    exact ⟨Nat.le_trans h0 hs, numV_in n1, numV_in n2, numV_in n3⟩
  · cases h
end Go.Proofs.YtboplnogfjmpnaaGreatDoor
