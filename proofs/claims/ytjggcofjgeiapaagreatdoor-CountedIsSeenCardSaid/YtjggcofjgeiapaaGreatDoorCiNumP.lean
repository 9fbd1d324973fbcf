/- Numbers in texts, by kit. Conditions: the string's size; at most 15 digits. -/
import Derived.Test.YtjggcofjgeiapaaGreatDoorCiJ7
import Derived.Test.YtjggcofjgeiapaaGreatDoorCiFactsB
import Derived.Lib.SlTrimSet
import Derived.Outline
set_option linter.unusedSimpArgs false
set_option linter.unusedVariables false
namespace Go.Proofs.YtjggcofjgeiapaaGreatDoor
open Go Go.RowKit

def digitsB : ByteArray := ⟨#[48, 49, 50, 51, 52, 53, 54, 55, 56, 57]⟩
def trimD (s : ByteArray) : ByteArray := ⟨(Lib.trimS s.data.toList digitsB.data.toList).toArray⟩
def undashB (s : ByteArray) : ByteArray := ⟨(Lib.trimPrefix s.data.toList [45]).toArray⟩
def dashed (s : ByteArray) : Bool := Lib.hasPrefix s.data.toList [45]

theorem all_of_dropWhile {α : Type} {p : α → Bool} : ∀ {l : List α}, l.dropWhile p = [] → ∀ x ∈ l, p x = true
  | [], _, x, hx => by cases hx
  | y :: l, h, x, hx => by
    rw [List.dropWhile_cons] at h
    split at h
    · rename_i hy
      rcases List.mem_cons.1 hx with rfl | hx
      · exact hy
      · exact all_of_dropWhile h x hx
    · cases h
theorem head_dropWhile {α : Type} {p : α → Bool} : ∀ {l : List α} {x : α} {r : List α}, l.dropWhile p = x :: r → p x = false
  | [], _, _, h => by cases h
  | y :: l, x, r, h => by
    rw [List.dropWhile_cons] at h
    split at h
    · exact head_dropWhile h
    · rename_i hy
      obtain ⟨rfl, rfl⟩ := List.cons.inj h
      simpa using hy
theorem all_of_trimS {l cs : List UInt8} (h : Lib.trimS l cs = []) : ∀ b ∈ l, cs.contains b = true := by
  unfold Lib.trimS Lib.trimLeftS at h
  have h1 := all_of_dropWhile h
  unfold Lib.trimRightS at h1
  cases hr : l.reverse.dropWhile (cs.contains ·) with
  | nil =>
    intro b hb
    exact all_of_dropWhile hr b (by simpa using hb)
  | cons x r =>
    have h2 := head_dropWhile hr
    have h3 := h1 x (by rw [hr]; simp)
    rw [h2] at h3
    cases h3

theorem trimD_any (s : ByteArray) (w : World) (hs : s.size ≤ 9223372036854775807) :
    Calls Tryz.prog 67 #[.string s, .string ⟨#[48, 49, 50, 51, 52, 53, 54, 55, 56, 57]⟩] w fun e w' => e = .returned (.string (trimD s)) ∧ Ext w w' :=
  Any.strings_Trim_laid Tryz.lays160 (by kernel_rfl) s digitsB w hs (by decide) (ascii_of_all (by decide))
theorem cutDash_any (s : ByteArray) (w : World) :
    Calls Tryz.prog 162 #[.string s, .string ⟨#[45]⟩] w fun e w' => e = .returned (.tuple #[.string (undashB s), .bool (dashed s)]) ∧ w = w' :=
  (Tryz.strings_CutPrefix s ⟨#[45]⟩ w).mono fun e w' h => ⟨h.1, h.2.symm⟩

theorem digit_of {b : UInt8} (h : digitsB.data.toList.contains b = true) : 48 ≤ b.toNat ∧ b.toNat ≤ 57 := by
  have : b ∈ digitsB.data.toList := by simpa using h
  simp [digitsB] at this
  rcases this with rfl | rfl | rfl | rfl | rfl | rfl | rfl | rfl | rfl | rfl <;> decide
theorem decFrom_some : ∀ (l : List UInt8) (acc : Nat), (∀ b ∈ l, 48 ≤ b.toNat ∧ b.toNat ≤ 57) → ∃ v, Lib.decFrom acc l = some v ∧ v < (acc + 1) * 10 ^ l.length
  | [], acc, _ => ⟨acc, rfl, by simp⟩
  | b :: l, acc, h => by
    have hb := h b (by simp)
    obtain ⟨v, hv, hlt⟩ := decFrom_some l (acc * 10 + (b.toNat - 48)) fun x hx => h x (by simp [hx])
    refine ⟨v, ?_, ?_⟩
    · unfold Lib.decFrom Lib.digitVal
      rw [if_pos hb]
      exact hv
    · rw [List.length_cons, Nat.pow_succ, Nat.mul_comm (10 ^ l.length), ← Nat.mul_assoc]
      exact Nat.lt_of_lt_of_le hlt (Nat.mul_le_mul_right _ (by omega))
theorem atoi_some {l : List UInt8} (hne : l ≠ []) (h : ∀ b ∈ l, 48 ≤ b.toNat ∧ b.toNat ≤ 57) : ∃ v : Nat, Lib.atoi l = some (v : Int) ∧ v < 10 ^ l.length := by
  obtain ⟨v, hv, hlt⟩ := decFrom_some l 0 h
  cases l with
  | nil => exact absurd rfl hne
  | cons b r =>
    have hb := h b (by simp)
    refine ⟨v, ?_, by simpa using hlt⟩
    unfold Lib.atoi
    have h1 : (b == 45) = false := by
      rw [beq_eq_false_iff_ne]; intro e; subst e; revert hb; decide
    have h2 : (b == 43) = false := by
      rw [beq_eq_false_iff_ne]; intro e; subst e; revert hb; decide
    simp only [h1, h2, Bool.false_eq_true, if_false]
    unfold Lib.decNat
    simp only [List.isEmpty_cons, Bool.false_eq_true, if_false, hv, Option.map_some]

def numOk (most : Int) (s : ByteArray) : Bool :=
  !(undashB s).toList.isEmpty && decide ((undashB s).size ≤ most) && (trimD (undashB s)).toList.isEmpty && !(((undashB s).data.toList.getD 0 0 == 48) && (decide (1 < (undashB s).size) || dashed s))
def numV (s : ByteArray) : Int := if dashed s then -((Lib.atoi (undashB s).data.toList).getD 0) else (Lib.atoi (undashB s).data.toList).getD 0
def numR (most : Int) (s : ByteArray) : Int := if numOk most s then numV s else 0

theorem empty_data {s : ByteArray} (h : s.toList.isEmpty = true) : s.data.toList = [] := by
  have : s.toList = s.data.toList := Lib.toList_data s
  rw [this] at h
  simpa using h
theorem num_atoi {most : Int} {D : ByteArray} (h1 : D.toList.isEmpty = false) (h2 : (D.size : Int) ≤ most) (h3 : (trimD D).toList = []) (hm : most ≤ 15) : ∃ v : Nat, Lib.atoi D.data.toList = some (v : Int) ∧ v < 1000000000000000 ∧ D.size ≤ 15 := by
  have ht := empty_data (s := trimD D) (by rw [h3]; rfl)
  have ht' : Lib.trimS D.data.toList digitsB.data.toList = [] := by simpa [trimD] using ht
  have hall := all_of_trimS ht'
  have hne : D.data.toList ≠ [] := by
    intro e
    have : D.toList = D.data.toList := Lib.toList_data _
    rw [this, e] at h1
    cases h1
  obtain ⟨v, hv, hlt⟩ := atoi_some hne fun b hb => digit_of (hall b hb)
  have hsz : D.data.toList.length = D.size := Array.length_toList
  have h15 : D.size ≤ 15 := by omega
  refine ⟨v, hv, Nat.lt_of_lt_of_le hlt ?_, h15⟩
  rw [hsz]
  exact Nat.pow_le_pow_right (by omega) h15
theorem size_undash (s : ByteArray) : (undashB s).size ≤ s.size := by
  unfold undashB Lib.trimPrefix
  show (List.toArray _).size ≤ s.data.size
  split
  · simp
  · simp

theorem ext_bytes (w : World) (t : TypeId) (s : ByteArray) : Ext w (Lib.bytesWorld w t s) := ⟨rfl, rfl, rfl, by rw [Lib.bytesWorld_size]; omega, fun j hj => Lib.bytesWorld_at_old w t s j hj⟩
theorem atoi_any (s : ByteArray) (n : Int) (hl : s.size ≤ 15) (h : Lib.atoi s.data.toList = some n) (w : World) :
    Calls Tryz.prog 68 #[.string s] w fun e w' => e = .returned (.tuple #[.int .i64 n, .nilIface]) ∧ Ext w w' :=
  (Tryz.strconv_Atoi s n (by omega) h w).mono fun e w' ⟨he, t, hw⟩ => ⟨he, hw ▸ ext_bytes _ _ _⟩
theorem u8_eq (x : UInt8) : (x == 48) = decide ((x.toNat : Int) = 48) := by
  rw [Bool.eq_iff_iff]
  simp only [beq_iff_eq, decide_eq_true_eq]
  constructor
  · intro h; subst h; rfl
  · intro h; exact UInt8.toNat_inj.1 (by have : x.toNat = 48 := by omega
                                         rw [this]; rfl)

set_option maxRecDepth 100000 in
set_option maxHeartbeats 1600000 in
theorem number_any (s : ByteArray) (most : Int) (w : World) (hs : s.size ≤ 1000000000) (hm0 : 1 ≤ most) (hm : most ≤ 15) :
    Calls Tryz.prog 123 #[.string s, .int .i64 most] w fun e w' => e = .returned (.tuple #[.int .i64 (numR most s), .bool (numOk most s)]) ∧ Ext w w' := by
  have hsz := size_undash s
  have hO : numOk most s = (!(undashB s).toList.isEmpty && decide ((undashB s).size ≤ most) && (trimD (undashB s)).toList.isEmpty && !(((undashB s).data.toList.getD 0 0 == 48) && (decide (1 < (undashB s).size) || dashed s))) := rfl
  have hV : numR most s = if numOk most s then (if dashed s then -((Lib.atoi (undashB s).data.toList).getD 0) else (Lib.atoi (undashB s).data.toList).getD 0) else 0 := rfl
  generalize numR most s = R at *
  generalize numOk most s = ok at *
  have hC := cutDash_any s
  have hat := num_atoi (most := most) (D := undashB s)
  generalize undashB s = D at *
  generalize dashed s = neg at *
  replace hV := Lib.hid hV
  replace hC := Lib.hid hC
  cases h0 : D.toList.isEmpty
  case' false =>
    have hp := (size_toList D).1 h0
    have hg : D.data.toList.getD 0 0 = D[0] := by
      rw [List.getD_eq_getElem?_getD, List.getElem?_eq_getElem (by simpa using hp)]; rfl
    rw [hg, u8_eq] at hO
    replace hat := Lib.hid (hat h0)
    replace hO := Lib.hid hO
    cases neg
  case' true =>
    clear hat
    replace hO := Lib.hid hO
  all_goals
    go_enter Tryz.func123, Tryz.ntmps123
    go_wp2_with (first
      | (go_at_call 162; refine (hC.out _).mono ?_; rintro e w1 ⟨rfl, rfl⟩)
      | (go_at_call 67; refine (trimD_any D _ (by omega)).mono ?_; rintro e w2 ⟨rfl, hb2⟩; clear hC)
      | (go_at_call 68; obtain ⟨v, hv, hvl, h15⟩ := hat.out (by assumption) (by assumption) hm; replace hv := Lib.hid hv; refine (atoi_any D v h15 hv.out _).mono ?_; rintro e w3 ⟨rfl, hb3⟩))
  all_goals
    first
      | (have hk : ok = false := by rw [hO.out]; simp [*] <;> omega
         have hR : R = 0 := by rw [hV.out, hk]; rfl
         go_ret2
         exact ⟨by rw [hk, hR]; rfl, by first | exact Ext.refl _ | assumption⟩)
      | skip
  all_goals
    have hk : ok = true := by rw [hO.out]; simp [*] <;> omega
    refine wp_region_facts [] [([], false, false), ([], false, false), ([1], false, false), ([0], false, false), ([1, 2], false, false)] (Ext) Ext (fun _ => True) (by kernel_rfl) (by kernel_rfl) Ext.refl (fun _ _ _ => Ext.trans) (fun _ _ h => h) (fun _ _ h => h.size) (fun _ _ h _ => h) trivial ?_
    dsimp only [List.length_cons, List.length_nil, List.drop_succ_cons, List.drop_zero, List.drop_nil]
    refine fac_quiet 0 rfl rfl rfl (fun _ _ h _ => h) rfl rfl ?_
    apply Exists.intro
    refine ⟨fun sv w' hw' hfa => ?_, ?_⟩
    · refine ⟨rfl, ?_⟩
      simp only [putsL]
      change quietTo _ _ _ _ (Sem.run _ (execOp (Act.eval _) _) _)
      try simp only [Act.put, List.setIfInBounds_toArray, List.set_cons_succ, List.set_cons_zero]
      simp [go_sem, quietTo, Ext.refl]
      all_goals first
        | rfl
    refine fac_quiet 1 rfl rfl rfl (fun _ _ h _ => h) rfl rfl ?_
    apply Exists.intro
    refine ⟨fun sv w' hw' hfa => ?_, ?_⟩
    · refine ⟨rfl, ?_⟩
      simp only [putsL]
      change quietTo _ _ _ _ (Sem.run _ (execOp (Act.eval _) _) _)
      try simp only [Act.put, List.setIfInBounds_toArray, List.set_cons_succ, List.set_cons_zero]
      simp [go_sem, quietTo, Ext.refl]
      all_goals first
        | rfl
    refine fac_quiet 2 rfl rfl rfl (fun _ _ h _ => h) rfl rfl ?_
    apply Exists.intro
    refine ⟨fun sv w' hw' hfa => ?_, ?_⟩
    · obtain ⟨f1, -⟩ := hfa
      replace f1 : sv 1 = _ := f1
      try dsimp only at f1
      refine ⟨rfl, ?_⟩
      simp only [putsL]
      change quietTo _ _ _ _ (Sem.run _ (execOp (Act.eval (Act.put _ (some 50) (sv 1))) _) _)
      try simp only [Act.put, List.setIfInBounds_toArray, List.set_cons_succ, List.set_cons_zero]
      simp [go_sem, quietTo, Ext.refl, ↓IntWalk.iteOmega, f1]
      all_goals try simp (disch := omega) only [IntWalk.i64_in]
      all_goals first
        | rfl
    refine fac_quiet 3 rfl rfl rfl (fun _ _ h _ => h) rfl rfl ?_
    apply Exists.intro
    refine ⟨fun sv w' hw' hfa => ?_, ?_⟩
    · obtain ⟨f0, -⟩ := hfa
      replace f0 : sv 0 = _ := f0
      try dsimp only at f0
      refine ⟨rfl, ?_⟩
      simp only [putsL]
      change quietTo _ _ _ _ (Sem.run _ (execOp (Act.eval (Act.put _ (some 49) (sv 0))) _) _)
      try simp only [Act.put, List.setIfInBounds_toArray, List.set_cons_succ, List.set_cons_zero]
      simp [go_sem, quietTo, Ext.refl, f0]
      all_goals first
        | rfl
    refine fac_quiet 4 rfl rfl rfl (fun _ _ h _ => h) rfl rfl ?_
    apply Exists.intro
    refine ⟨fun sv w' hw' hfa => ?_, ?_⟩
    · obtain ⟨_, f2, -⟩ := hfa
      replace f2 : sv 2 = _ := f2
      try dsimp only at f2
      refine ⟨rfl, ?_⟩
      simp only [putsL]
      change quietTo _ _ _ _ (Sem.run _ (execOp (Act.eval (Act.put (Act.put _ (some 51) (sv 2)) (some 50) (sv 1))) _) _)
      try simp only [Act.put, List.setIfInBounds_toArray, List.set_cons_succ, List.set_cons_zero]
      simp [go_sem, quietTo, Ext.refl, f2]
      all_goals first
        | rfl
    refine fac_nil fun x wr her hfr hcr hold hap => ?_
    obtain ⟨f0, f1, f2, f3, f4, -⟩ := hfr
    replace f0 : x 0 = _ := f0
    try dsimp only at f0
    replace f1 : x 1 = _ := f1
    try dsimp only at f1
    replace f2 : x 2 = _ := f2
    try dsimp only at f2
    replace f3 : x 3 = _ := f3
    try dsimp only at f3
    replace f4 : x 4 = _ := f4
    try dsimp only at f4
    change wpList _ _ _ _ (Act.put (Act.put (Act.put (Act.put (Act.put _ (some 49) (x 0)) (some 50) (x 1)) (some 51) (x 2)) (some 4) (x 3)) (some 5) (x 4)) _
    simp only [putsL, Nat.reduceAdd, List.drop_succ_cons, List.drop_zero, List.drop_nil, Act.put, List.setIfInBounds_toArray, List.set_cons_succ, List.set_cons_zero]
    try simp only [f0, f1, f2, f3, f4]
    clear f0 f1 f2 f3 f4
    clear hold hap
    go_wp2
    go_ret2
    refine ⟨?_, by exact ((hb2.trans hb3).drew).trans her⟩
    rw [hk]
    exact congrArg (fun q : Int => Ending.returned (.tuple #[.int .i64 q, .bool true])) (by rw [hV.out, hk, hv.out]; first | rfl | simp)

end Go.Proofs.YtjggcofjgeiapaaGreatDoor
