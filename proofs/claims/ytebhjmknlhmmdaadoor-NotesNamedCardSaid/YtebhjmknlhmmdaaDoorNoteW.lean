/- A note out of its name, by the document's text: the walk. Conditions: the string is short; what is read of it is small. -/
import Derived.Test.YtebhjmknlhmmdaaDoorNoteQ
namespace Go.Proofs.YtebhjmknlhmmdaaDoor
open Go Go.RowKit

theorem idx_any (s : ByteArray) (w : World) (hp : 0 < s.size) :
    Calls Tryd.prog 46 #[.string ⟨#[99, 32, 100, 32, 101, 102, 32, 103, 32, 97, 32, 98]⟩, .int .u8 (s[0].toNat : Int)] w fun e w' => e = .returned (.int .i64 (idxQ s)) ∧ w = w' := by
  refine (Tryd.strings_IndexByte lettersB (s[0].toNat : Int) w).mono fun e w' h => ⟨?_, h.2.symm⟩
  have hg : s.data.toList.getD 0 0 = s[0] := by
    rw [List.getD_eq_getElem?_getD, List.getElem?_eq_getElem (by simpa using hp)]; rfl
  have e : ((s[0].toNat : Int).toNat).toUInt8 = s[0] := by simp
  rw [h.1, e]
  unfold idxQ
  rw [hg]
theorem hasSharp (s : ByteArray) (w : World) :
    Calls Tryd.prog 47 #[.string (s.extract 1 s.size), .string ⟨#[35]⟩] w fun e w' => e = .returned (.bool (sharpB s)) ∧ w = w' :=
  (Tryd.strings_HasPrefix (s.extract 1 s.size) ⟨#[35]⟩ w).mono fun _ _ h => ⟨h.1, h.2.symm⟩
theorem hasFlat (s : ByteArray) (w : World) :
    Calls Tryd.prog 47 #[.string (s.extract 1 s.size), .string ⟨#[98]⟩] w fun e w' => e = .returned (.bool (flatB s)) ∧ w = w' :=
  (Tryd.strings_HasPrefix (s.extract 1 s.size) ⟨#[98]⟩ w).mono fun _ _ h => ⟨h.1, h.2.symm⟩
theorem u8_eq32 (x : UInt8) : (x == 32) = decide ((x.toNat : Int) = 32) := by
  rw [Bool.eq_iff_iff]
  simp only [beq_iff_eq, decide_eq_true_eq]
  constructor
  · intro h; subst h; rfl
  · intro h; exact UInt8.toNat_inj.1 (by have : x.toNat = 32 := by omega
                                         rw [this]; rfl)
theorem prefix_size {s : ByteArray} {b : UInt8} (h : Lib.hasPrefix s.data.toList [b] = true) : 1 ≤ s.size := by
  rcases Nat.eq_zero_or_pos s.size with h0 | h0
  · exfalso
    have : s.data.toList = [] := List.eq_nil_of_length_eq_zero (by simpa using h0)
    rw [this] at h
    cases h
  · exact h0

set_option maxRecDepth 100000 in
set_option maxHeartbeats 1200000 in
theorem noteOf_any (s : ByteArray) (B : Nat) (w : World) (hg : goodQ s = true) (ht : Tab B w) :
    Calls Tryd.prog 19 #[.string s] w fun e w' => e = .returned (.tuple #[.int .i64 (noteQR s), .int .i64 (noteQE s)]) ∧ Ext w w' := by
  have hE : noteQE s = if s.toList.isEmpty then 9 else if s.data.toList.getD 0 0 == 32 then 9 else if idxQ s < 0 then 9 else if intOk 1 (restQ s) then spanF (noteQ s) 0 127 else 9 := rfl
  have hR : noteQR s = if noteQE s = 0 then noteQ s else 0 := rfl
  have hV : noteQ s = idxQ s + accN s + 12 * (intR 1 (restQ s) + 1) := rfl
  have hr : restQ s = if sharpB s || flatB s then (tailB s).extract 1 (tailB s).size else tailB s := rfl
  have ha : accN s = if sharpB s then 1 else if flatB s then -1 else 0 := rfl
  generalize noteQR s = R at *
  generalize noteQE s = E at *
  generalize noteQ s = V at *
  unfold goodQ at hg
  simp only [Bool.and_eq_true, decide_eq_true_eq] at hg
  obtain ⟨⟨⟨hsz, hi1⟩, hi2⟩, hgo⟩ := hg
  have hA : intC 1 (restQ s) = true → Lib.atoi (restQ s).data.toList = some (intN (restQ s)) ∧ -1000 ≤ intN (restQ s) ∧ intN (restQ s) ≤ 1000 := by
    intro hc
    rw [hc] at hgo
    simpa [and_assoc] using hgo
  have hir : -1000 ≤ intR 1 (restQ s) ∧ intR 1 (restQ s) ≤ 1000 := by
    unfold intR
    split
    · rename_i hc; have := hA hc; omega
    · omega
  have hst : (tailB s).size ≤ s.size := size_tail s
  have hsr : (restQ s).size ≤ 15 := by
    rw [hr]
    split
    · simp; omega
    · omega
  have ht1 : tailB s = s.extract 1 s.size := rfl
  have hp1 : sharpB s = true → 1 ≤ (s.extract 1 s.size).size := fun h => prefix_size h
  have hp2 : flatB s = true → 1 ≤ (s.extract 1 s.size).size := fun h => prefix_size h
  have hC1 := hasSharp s
  have hC2 := hasFlat s
  have hN := fun W (hW : Tab B W) => int_any (restQ s) 1 B W hsr (by omega) hA hW
  have hix := idx_any s
  clear hgo hA
  clear hsr
  have hts : (s.extract 1 s.size).size = s.size - 1 := by simp
  rw [ht1] at hr hst
  rw [hts] at hr
  clear hts
  generalize sharpB s = sh at *
  generalize flatB s = fl at *
  generalize accN s = ac at *
  generalize idxQ s = hd at *
  generalize restQ s = rs at *
  generalize intR 1 rs = nr at *
  generalize intOk 1 rs = nk at *
  replace hC1 := Lib.hid hC1
  replace hC2 := Lib.hid hC2
  replace hR := Lib.hid hR
  cases h0 : s.toList.isEmpty
  case false =>
    have hp := (size_toList s).1 h0
    have hgg : s.data.toList.getD 0 0 = s[0] := by
      rw [List.getD_eq_getElem?_getD, List.getElem?_eq_getElem (by simpa using hp)]; rfl
    rw [hgg] at hE
    simp only [u8_eq32, decide_eq_true_eq] at hE
    clear hgg
    replace hE := Lib.hid hE
    have hix := fun W => hix W hp
    replace hix := Lib.hid hix
    rename_i hixo
    clear hixo hst
    have hac : -1 ≤ ac ∧ ac ≤ 1 := by rw [ha]; split; omega; split <;> omega
    cases sh
    case' false => cases fl
    all_goals
      simp only [if_true, if_false, Bool.false_eq_true, Bool.or_true, Bool.or_false, Bool.true_or, Bool.false_or] at hr ha
      subst ha
      subst hr
      try have hp3 := hp1 rfl
      try have hp4 := hp2 rfl
      clear hp1 hp2
      cases nk
    all_goals
      replace hN := Lib.hid hN
      replace hV := Lib.hid hV
      go_enter Tryd.func19, Tryd.ntmps19
      go_wp2_with (first
        | (go_at_call 46; (with_reducible refine Calls.mono (hix.out _) ?_); rintro e w1 ⟨rfl, rfl⟩)
        | (go_at_call 47; first
            | ((with_reducible refine Calls.mono (hC1.out _) ?_); rintro e w1 ⟨rfl, rfl⟩)
            | ((with_reducible refine Calls.mono (hC2.out _) ?_); rintro e w1 ⟨rfl, rfl⟩))
        | (go_at_call 48; (with_reducible refine Calls.mono (hN.out _ ht) ?_); rintro e w2 ⟨rfl, hb2⟩)
        | (go_at_call 16; (with_reducible refine Calls.mono (spanFault_any _ _ _ _) ?_); rintro e w3 ⟨rfl, rfl⟩))
    all_goals
      replace hV := hV.out
      try simp only [← Int.sub_eq_add_neg, Int.add_zero] at hV
      try simp only [beq_iff_eq, bne_iff_ne, ne_eq, beq_eq_false_iff_ne, bne_eq_false_iff_eq] at *
      first
        | (have hEv : E = 9 := by rw [hE.out]; (repeat' split) <;> first | rfl | contradiction | (exfalso; omega)
           have hRv : R = 0 := by rw [hR.out, hEv]; rfl
           go_ret2
           refine ⟨by rw [hEv, hRv]; rfl, ?_⟩)
        | (have hEv : E = spanF V 0 127 := by
             rw [hE.out]; (repeat' split) <;> first | rfl | (exfalso; simp_all; done) | (exfalso; simp_all; omega)
           rw [hV] at hEv
           first
             | (have hRv : R = 0 := by rw [hR.out, hEv]; simp [*]
                go_ret2
                refine ⟨by rw [hEv, hRv]; first | rfl | (simp [*]; done), ?_⟩)
             | (have hRv : R = V := by rw [hR.out, hEv]; simp [*]
                go_ret2
                refine ⟨by rw [hEv, hRv, hV]; first | rfl | (simp [*]; done), ?_⟩))
        | skip
      try first
        | exact Ext.refl _
        | exact hb2
  case true =>
    go_enter Tryd.func19, Tryd.ntmps19
    go_wp2
    go_ret2
    refine ⟨?_, Ext.refl _⟩
    rw [h0] at hE
    rw [hR.out, hE]
    rfl

end Go.Proofs.YtebhjmknlhmmdaaDoor
