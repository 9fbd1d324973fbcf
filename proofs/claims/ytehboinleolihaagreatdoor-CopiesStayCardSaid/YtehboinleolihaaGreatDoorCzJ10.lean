/- Numbers in texts, by kit. Conditions: the string's size; at most 15 digits. Numbers in texts: kit.Number reads what strconv.Itoa writes, and nothing else. Plain mathematics. Conditions: as each theorem says. Texts of lines and words, plain. Conditions: as each theorem says. -/
import Derived.Test.YtehboinleolihaaGreatDoorCzJ6
import Derived.Test.YtehboinleolihaaGreatDoorCzFactsB
import Derived.Lib.SlTrimSet
import Derived.Outline
import Derived.Test.YtehboinleolihaaGreatDoorCzJ0
import Derived.Test.YtehboinleolihaaGreatDoorCzJ3
set_option linter.unusedSimpArgs false
set_option linter.unusedVariables false
namespace Go.Proofs.YtehboinleolihaaGreatDoor
open Go Go.RowKit
def digitsB : ByteArray := ⟨#[48,49,50,51,52,53,54,55,56,57]⟩
def trimD (s : ByteArray) : ByteArray := ⟨(Lib.trimS s.data.toList digitsB.data.toList).toArray⟩
def undashB (s : ByteArray) : ByteArray := ⟨(Lib.trimPrefix s.data.toList [45]).toArray⟩
def dashed (s : ByteArray) : Bool := Lib.hasPrefix s.data.toList [45]
theorem all_of_dropWhile {α : Type} {p : α → Bool} : ∀ {l : List α}, l.dropWhile p = [] → ∀ x ∈ l, p x = true
 | [], _, x, hx => by cases hx
 | y :: l, h, x, hx => by
   rw [List.dropWhile_cons] at h
   split at h
   ·rename_i hy
    rcases List.mem_cons.1 hx with rfl | hx
    ·exact hy
    ·exact all_of_dropWhile h x hx
   ·cases h
theorem head_dropWhile {α : Type} {p : α → Bool} : ∀ {l : List α} {x : α} {r : List α}, l.dropWhile p = x :: r → p x = false
 | [], _, _, h => by cases h
 | y :: l, x, r, h => by
   rw [List.dropWhile_cons] at h
   split at h
   ·exact head_dropWhile h
   ·rename_i hy
    obtain ⟨rfl, rfl⟩ := List.cons.inj h
    simpa using hy
theorem all_of_trimS {l cs : List UInt8} (h : Lib.trimS l cs = []) : ∀ b ∈ l, cs.contains b = true := by
 unfold Lib.trimS Lib.trimLeftS at h
 have h1 := all_of_dropWhile h
 unfold Lib.trimRightS at h1
 cases hr : l.reverse.dropWhile (cs.contains ·) with
 | nil =>
   intro b hb
   exact all_of_dropWhile hr b (by simpa using hb)
 | cons x r =>
   have h2 := head_dropWhile hr
   have h3 := h1 x (by rw [hr]; simp)
   rw [h2] at h3
   cases h3
theorem trimD_any (s : ByteArray) (w : World) (hs : s.size ≤ 9223372036854775807) :
 Calls Tryz.prog 128 #[.string s, .string ⟨#[48,49,50,51,52,53,54,55,56,57]⟩] w fun e w' => e = .returned (.string (trimD s)) ∧ Ext w w' :=
 Any.strings_Trim_laid Tryz.lays160 (by kernel_rfl) s digitsB w hs (by decide) (ascii_of_all (by decide))
theorem cutDash_any (s : ByteArray) (w : World) :
 Calls Tryz.prog 263 #[.string s, .string ⟨#[45]⟩] w fun e w' => e = .returned (.tuple #[.string (undashB s), .bool (dashed s)]) ∧ w = w' :=
 (Tryz.strings_CutPrefix s ⟨#[45]⟩ w).mono fun e w' h => ⟨h.1, h.2.symm⟩
theorem digit_of {b : UInt8} (h : digitsB.data.toList.contains b = true) : 48 ≤ b.toNat ∧ b.toNat ≤ 57 := by
 have : b ∈ digitsB.data.toList := by simpa using h
 simp [digitsB] at this
 rcases this with rfl | rfl | rfl | rfl | rfl | rfl | rfl | rfl | rfl | rfl <;> decide
theorem decFrom_some : ∀ (l : List UInt8) (acc : Nat), (∀ b ∈ l, 48 ≤ b.toNat ∧ b.toNat ≤ 57) → ∃ v, Lib.decFrom acc l = some v ∧ v < (acc + 1) * 10 ^ l.length
 | [], acc, _ => ⟨acc, rfl, by simp⟩
 | b :: l, acc, h => by
   have hb := h b (by simp)
   obtain ⟨v, hv, hlt⟩ := decFrom_some l (acc * 10 + (b.toNat - 48)) fun x hx => h x (by simp [hx])
   refine ⟨v, ?_, ?_⟩
   ·unfold Lib.decFrom Lib.digitVal
    rw [if_pos hb]
    exact hv
   ·rw [List.length_cons, Nat.pow_succ, Nat.mul_comm (10 ^ l.length), ← Nat.mul_assoc]
    exact Nat.lt_of_lt_of_le hlt (Nat.mul_le_mul_right _ (by omega))
theorem atoi_some {l : List UInt8} (hne : l ≠ []) (h : ∀ b ∈ l, 48 ≤ b.toNat ∧ b.toNat ≤ 57) : ∃ v : Nat, Lib.atoi l = some (v : Int) ∧ v < 10 ^ l.length := by
 obtain ⟨v, hv, hlt⟩ := decFrom_some l 0 h
 cases l with
 | nil => exact absurd rfl hne
 | cons b r =>
   have hb := h b (by simp)
   refine ⟨v, ?_, by simpa using hlt⟩
   unfold Lib.atoi
   have h1 : (b == 45) = false := by
    rw [beq_eq_false_iff_ne]; intro e; subst e; revert hb; decide
   have h2 : (b == 43) = false := by
    rw [beq_eq_false_iff_ne]; intro e; subst e; revert hb; decide
   simp only [h1, h2, Bool.false_eq_true, if_false]
   unfold Lib.decNat
   simp only [List.isEmpty_cons, Bool.false_eq_true, if_false, hv, Option.map_some]
def numOk (most : Int) (s : ByteArray) : Bool :=
 !(undashB s).toList.isEmpty && decide ((undashB s).size ≤ most) && (trimD (undashB s)).toList.isEmpty && !(((undashB s).data.toList.getD 0 0 == 48) && (decide (1 < (undashB s).size) || dashed s))
def numV (s : ByteArray) : Int := if dashed s then -((Lib.atoi (undashB s).data.toList).getD 0) else (Lib.atoi (undashB s).data.toList).getD 0
def numR (most : Int) (s : ByteArray) : Int := if numOk most s then numV s else 0
theorem empty_data {s : ByteArray} (h : s.toList.isEmpty = true) : s.data.toList = [] := by
 have : s.toList = s.data.toList := Lib.toList_data s
 rw [this] at h
 simpa using h
theorem num_atoi {most : Int} {D : ByteArray} (h1 : D.toList.isEmpty = false) (h2 : (D.size : Int) ≤ most) (h3 : (trimD D).toList = []) (hm : most ≤ 15) : ∃ v : Nat, Lib.atoi D.data.toList = some (v : Int) ∧ v < 1000000000000000 ∧ D.size ≤ 15 := by
 have ht := empty_data (s := trimD D) (by rw [h3]; rfl)
 have ht' : Lib.trimS D.data.toList digitsB.data.toList = [] := by simpa [trimD] using ht
 have hall := all_of_trimS ht'
 have hne : D.data.toList ≠ [] := by
  intro e
  have : D.toList = D.data.toList := Lib.toList_data _
  rw [this, e] at h1
  cases h1
 obtain ⟨v, hv, hlt⟩ := atoi_some hne fun b hb => digit_of (hall b hb)
 have hsz : D.data.toList.length = D.size := Array.length_toList
 have h15 : D.size ≤ 15 := by omega
 refine ⟨v, hv, Nat.lt_of_lt_of_le hlt ?_, h15⟩
 rw [hsz]
 exact Nat.pow_le_pow_right (by omega) h15
theorem size_undash (s : ByteArray) : (undashB s).size ≤ s.size := by
 unfold undashB Lib.trimPrefix
 show (List.toArray _).size ≤ s.data.size
 split
 ·simp
 ·simp
theorem ext_bytes (w : World) (t : TypeId) (s : ByteArray) : Ext w (Lib.bytesWorld w t s) := ⟨rfl, rfl, rfl, by rw [Lib.bytesWorld_size]; omega, fun j hj => Lib.bytesWorld_at_old w t s j hj⟩
theorem atoi_any (s : ByteArray) (n : Int) (hl : s.size ≤ 15) (h : Lib.atoi s.data.toList = some n) (w : World) :
 Calls Tryz.prog 129 #[.string s] w fun e w' => e = .returned (.tuple #[.int .i64 n, .nilIface]) ∧ Ext w w' :=
 (Tryz.strconv_Atoi s n (by omega) h w).mono fun e w' ⟨he, t, hw⟩ => ⟨he, hw ▸ ext_bytes _ _ _⟩
theorem u8_eq (x : UInt8) : (x == 48) = decide ((x.toNat : Int) = 48) := by
 rw [Bool.eq_iff_iff]
 simp only [beq_iff_eq, decide_eq_true_eq]
 constructor
 ·intro h; subst h; rfl
 ·intro h; exact UInt8.toNat_inj.1 (by have : x.toNat = 48 := by omega
                                       rw [this]; rfl)
set_option maxRecDepth 100000 in
set_option maxHeartbeats 1600000 in
theorem number_any (s : ByteArray) (most : Int) (w : World) (hs : s.size ≤ 1000000000) (hm0 : 1 ≤ most) (hm : most ≤ 15) :
 Calls Tryz.prog 213 #[.string s, .int .i64 most] w fun e w' => e = .returned (.tuple #[.int .i64 (numR most s), .bool (numOk most s)]) ∧ Ext w w' := by
 have hsz := size_undash s
 have hO : numOk most s = (!(undashB s).toList.isEmpty && decide ((undashB s).size ≤ most) && (trimD (undashB s)).toList.isEmpty && !(((undashB s).data.toList.getD 0 0 == 48) && (decide (1 < (undashB s).size) || dashed s))) := rfl
 have hV : numR most s = if numOk most s then (if dashed s then -((Lib.atoi (undashB s).data.toList).getD 0) else (Lib.atoi (undashB s).data.toList).getD 0) else 0 := rfl
 generalize numR most s = R at *
 generalize numOk most s = ok at *
 have hC := cutDash_any s
 have hat := num_atoi (most := most) (D := undashB s)
 generalize undashB s = D at *
 generalize dashed s = neg at *
 replace hV := Lib.hid hV; replace hC := Lib.hid hC
 cases h0 : D.toList.isEmpty
 case' false =>
  have hp := (size_toList D).1 h0
  have hg : D.data.toList.getD 0 0 = D[0] := by
   rw [List.getD_eq_getElem?_getD, List.getElem?_eq_getElem (by simpa using hp)]; rfl
  rw [hg, u8_eq] at hO
  replace hat := Lib.hid (hat h0)
  replace hO := Lib.hid hO
  cases neg
 case' true =>
  clear hat; replace hO := Lib.hid hO
 all_goals
  go_enter Tryz.func213, Tryz.ntmps213
  go_wp2_with (first
   | (go_at_call 263; refine (hC.out _).mono ?_; rintro e w1 ⟨rfl, rfl⟩)
   | (go_at_call 128; refine (trimD_any D _ (by omega)).mono ?_; rintro e w2 ⟨rfl, hb2⟩; clear hC)
   | (go_at_call 129; obtain ⟨v, hv, hvl, h15⟩ := hat.out (by assumption) (by assumption) hm; replace hv := Lib.hid hv; refine (atoi_any D v h15 hv.out _).mono ?_; rintro e w3 ⟨rfl, hb3⟩))
 all_goals
  first
   | (have hk : ok = false := by rw [hO.out]; simp [*] <;> omega
      have hR : R = 0 := by rw [hV.out, hk]; rfl
      go_ret2
      exact ⟨by rw [hk, hR]; rfl, by first | exact Ext.refl _ | assumption⟩)
   | skip
 all_goals
  have hk : ok = true := by rw [hO.out]; simp [*] <;> omega
  refine wp_region_facts [] [([],false,false),([],false,false),([1],false,false),([0],false,false),([1,2],false,false)] (Ext) Ext (fun _ => True) (by kernel_rfl) (by kernel_rfl) Ext.refl (fun _ _ _ => Ext.trans) (fun _ _ h => h) (fun _ _ h => h.size) (fun _ _ h _ => h) trivial ?_
  dsimp only [List.length_cons, List.length_nil, List.drop_succ_cons, List.drop_zero, List.drop_nil]
  refine fq 0 rfl rfl rfl cK rfl rfl ?_; apply Exists.intro; constructor
  ·intro sv w' hw' hfa
   refine ⟨rfl, ?_⟩; simp only [putsL]; change qT _; simp only [qT, Act.put, sIA, sCS, sCZ]; simp [go_sem, quietTo, Ext.refl]; all_goals rfl
  refine fq 1 rfl rfl rfl cK rfl rfl ?_; apply Exists.intro; constructor
  ·intro sv w' hw' hfa
   refine ⟨rfl, ?_⟩; simp only [putsL]; change qT _; simp only [qT, Act.put, sIA, sCS, sCZ]; simp [go_sem, quietTo, Ext.refl]; all_goals rfl
  refine fq 2 rfl rfl rfl cK rfl rfl ?_; apply Exists.intro; constructor
  ·rintro sv w' hw' ⟨(f1 : sv 1 = _), -⟩; (try dsimp only at f1)
   refine ⟨rfl, ?_⟩; simp only [putsL]; change qT (pT _ 50 (sv 1)); simp only [qT, pT, Act.put, sIA, sCS, sCZ]; simp [go_sem, quietTo, Ext.refl, ↓IntWalk.iteOmega, f1]; (all_goals try simp (disch := omega) only [IntWalk.i64_in]); all_goals rfl
  refine fq 3 rfl rfl rfl cK rfl rfl ?_; apply Exists.intro; constructor
  ·rintro sv w' hw' ⟨(f0 : sv 0 = _), -⟩; (try dsimp only at f0)
   refine ⟨rfl, ?_⟩; simp only [putsL]; change qT (pT _ 49 (sv 0)); simp only [qT, pT, Act.put, sIA, sCS, sCZ]; simp [go_sem, quietTo, Ext.refl, f0]; all_goals rfl
  refine fq 4 rfl rfl rfl cK rfl rfl ?_; apply Exists.intro; constructor
  ·rintro sv w' hw' ⟨_, (f2 : sv 2 = _), -⟩; (try dsimp only at f2)
   refine ⟨rfl, ?_⟩; simp only [putsL]; change qT (pT (pT _ 51 (sv 2)) 50 (sv 1)); simp only [qT, pT, Act.put, sIA, sCS, sCZ]; simp [go_sem, quietTo, Ext.refl, f2]; all_goals rfl
  refine fac_nil fun x wr her hfr hcr hold hap => ?_
  obtain ⟨(f0 : x 0 = _), (f1 : x 1 = _), (f2 : x 2 = _), (f3 : x 3 = _), (f4 : x 4 = _), -⟩ := hfr; (try dsimp only at f0 f1 f2 f3 f4)
  change wpList _ _ _ _ (pT (pT (pT (pT (pT _ 49 (x 0)) 50 (x 1)) 51 (x 2)) 4 (x 3)) 5 (x 4)) _
  simp only [putsL, Nat.reduceAdd, List.drop_succ_cons, List.drop_zero, List.drop_nil, pT, Act.put, sIA, sCS, sCZ]
  try simp only [f0, f1, f2, f3, f4]
  clear f0 f1 f2 f3 f4; clear hold hap
  go_wp2
  go_ret2
  refine ⟨?_, by exact ((hb2.trans hb3).drew).trans her⟩
  rw [hk]
  exact congrArg (fun q : Int => Ending.returned (.tuple #[.int .i64 q, .bool true])) (by rw [hV.out, hk, hv.out]; first | rfl | simp)
end Go.Proofs.YtehboinleolihaaGreatDoor
namespace Go.Proofs.YtehboinleolihaaGreatDoor
open Go Go.Lib
def itoaL (n : Int) : ByteArray := ⟨(Lib.itoa n).toArray⟩
theorem ba_eq {s t : ByteArray} (h : s.data.toList = t.data.toList) : s = t := by
 cases s; cases t
 simp only at h
 congr 1
 exact Array.ext' h
theorem digits_in {b : UInt8} (h : 48 ≤ b.toNat ∧ b.toNat ≤ 57) : digitsB.data.toList.contains b = true := by
 have hb : b = UInt8.ofNat b.toNat := UInt8.ofNat_toNat.symm
 obtain ⟨n, hn⟩ : ∃ n, b.toNat = n := ⟨_, rfl⟩
 rw [hn] at hb h
 rw [hb]
 obtain rfl | rfl | rfl | rfl | rfl | rfl | rfl | rfl | rfl | rfl : n = 48 ∨ n = 49 ∨ n = 50 ∨ n = 51 ∨ n = 52 ∨ n = 53 ∨ n = 54 ∨ n = 55 ∨ n = 56 ∨ n = 57 := by omega
 all_goals decide
theorem dropWhile_all {α : Type} {p : α → Bool} : ∀ {l : List α}, (∀ x ∈ l, p x = true) → l.dropWhile p = []
 | [], _ => rfl
 | x :: l, h => by
   rw [List.dropWhile_cons, if_pos (h x List.mem_cons_self)]
   exact dropWhile_all fun y hy => h y (List.mem_cons_of_mem _ hy)
theorem trimS_all {l cs : List UInt8} (h : ∀ b ∈ l, cs.contains b = true) : Lib.trimS l cs = [] := by
 have h1 : Lib.trimRightS l cs = [] := by
  unfold Lib.trimRightS
  rw [dropWhile_all fun b hb => h b (List.mem_reverse.1 hb)]; rfl
 unfold Lib.trimS
 rw [h1]; rfl
theorem atoi_dec {l : List UInt8} {v : Nat} (hne : l ≠ []) (hd : ∀ b ∈ l, 48 ≤ b.toNat ∧ b.toNat ≤ 57) (h : decFrom 0 l = some v) : Lib.atoi l = some (v : Int) := by
 cases l with
 | nil => exact absurd rfl hne
 | cons b r =>
   have hb := hd b List.mem_cons_self
   unfold Lib.atoi
   dsimp only
   rw [if_neg (fun e => by have := congrArg UInt8.toNat (beq_iff_eq.1 e); simp at this; omega), if_neg (fun e => by have := congrArg UInt8.toNat (beq_iff_eq.1 e); simp at this; omega)]
   unfold decNat
   rw [if_neg (by simp), h]; rfl
/-- What is written is read as it was. -/
theorem num_readM {m n : Nat} (h : n < 10 ^ m) (hm : 1 ≤ m) : numOk (m : Int) (itoaL n) = true ∧ numV (itoaL n) = n := by
 have hd := dec_digit n
 have hne := dec_ne n
 have hl := dec_small (n := n) (m := m) h hm
 have hdata : (itoaL n).data.toList = decDigits n := by
  show (Lib.itoa (n : Int)).toArray.toList = _
  rw [itoa_nonneg]
 have hnp : Lib.hasPrefix (itoaL n).data.toList [45] = false := by
  rw [hdata]
  unfold Lib.hasPrefix
  cases hx : decDigits n with
  | nil => exact absurd hx hne
  | cons b r =>
    have hb := hd b (by rw [hx]; exact List.mem_cons_self)
    have : (45 : UInt8) ≠ b := fun e => by
     have := congrArg UInt8.toNat e
     simp at this
     omega
    simp [List.isPrefixOf, this]
 have hu : undashB (itoaL n) = itoaL n := by
  refine ba_eq ?_
  unfold undashB Lib.trimPrefix
  rw [hnp]; simp
 have hds : dashed (itoaL n) = false := hnp
 have hsz : (itoaL n).size = (decDigits n).length := by rw [← hdata]; exact Array.length_toList.symm
 have hat := atoi_dec hne hd (dec_read n)
 refine ⟨?_, ?_⟩
 ·unfold numOk
  rw [hu, hds]
  simp only [Bool.and_eq_true, Bool.not_eq_true', decide_eq_true_eq, Bool.or_false]
  refine ⟨⟨⟨?_, by rw [hsz]; omega⟩, ?_⟩, ?_⟩
  ·have : (itoaL n).toList = (itoaL n).data.toList := Lib.toList_data _
   rw [this, hdata]
   cases hx : decDigits n with
   | nil => exact absurd hx hne
   | cons b r => rfl
  ·have ht : trimD (itoaL n) = ⟨#[]⟩ := by
    unfold trimD
    rw [hdata, trimS_all fun b hb => digits_in (hd b hb)]
   rw [ht, Lib.toList_data]; rfl
  ·rw [hdata, hsz]
   by_cases h0 : n = 0
   ·subst h0
    rw [decDigits, dif_pos (by decide)]; simp
   ·have hh := dec_head n (by omega)
    cases hx : decDigits n with
    | nil => exact absurd hx hne
    | cons b r =>
      rw [hx] at hh
      have : (b == 48) = false := beq_false_of_ne fun e => hh (by rw [e]; rfl)
      simp [this]
 ·unfold numV
  rw [hds, hu, hdata, hat]; rfl
end Go.Proofs.YtehboinleolihaaGreatDoor
namespace Go.Proofs.YtehboinleolihaaGreatDoor
open Go Go.Lib Go.RowKit
theorem empty_ba {s : ByteArray} (h : s.toList.isEmpty = true) : s = ⟨#[]⟩ := by
 rw [Lib.toList_data] at h
 exact ba_eq (List.isEmpty_iff.1 h)
theorem scan_first {f : Nat → Int} : ∀ n, (∃ i, i < n ∧ f i ≠ 0) → ∃ k, k < n ∧ Zeros f k ∧ f k ≠ 0
 | 0, ⟨i, hi, _⟩ => by omega
 | n + 1, ⟨i, hi, hx⟩ => by
   by_cases h : ∃ i, i < n ∧ f i ≠ 0
   ·obtain ⟨k, hk, h1, h2⟩ := scan_first n h
    exact ⟨k, by omega, h1, h2⟩
   ·refine ⟨n, by omega, fun j hj => Classical.byContradiction fun e => h ⟨j, hj, e⟩, ?_⟩
    obtain rfl : i = n := Classical.byContradiction fun e => h ⟨i, by omega, hx⟩
    exact hx
end Go.Proofs.YtehboinleolihaaGreatDoor
