/- Numbers in texts, by kit. Conditions: the string's size; at most 15 digits. Numbers in texts: kit.Number reads what strconv.Itoa writes, and nothing else. Plain mathematics. Conditions: as each theorem says. Texts of lines and words, plain. Conditions: as each theorem says. -/
import Derived.Test.YtehboinleolihaaGreatDoorZkJ6
import Derived.Test.YtehboinleolihaaGreatDoorZkFactsB
import Derived.Lib.SlTrimSet
import Derived.Outline
import Derived.Test.YtehboinleolihaaGreatDoorZkJ0
import Derived.Test.YtehboinleolihaaGreatDoorZkJ3
set_option linter.unusedSimpArgs false
set_option linter.unusedVariables false
namespace Go.Proofs.YtehboinleolihaaGreatDoor
open Go Go.RowKit
def digitsB : ByteArray := ⟨#[48,49,50,51,52,53,54,55,56,57]⟩
def trimD (s : ByteArray) : ByteArray := ⟨(Lib.trimS s.data.toList digitsB.data.toList).toArray⟩
def undashB (s : ByteArray) : ByteArray := ⟨(Lib.trimPrefix s.data.toList [45]).toArray⟩
def dashed (s : ByteArray) : Bool := Lib.hasPrefix s.data.toList [45]
theorem all_of_dropWhile {α : Type} {p : α → Bool} : ∀ {l : List α}, l.dropWhile p = [] → ∀ x ∈ l, p x = true
 | [], _, x, hx => by cases hx
 | y :: l, h, x, hx => by
   rw [List.dropWhile_cons] at h
   split at h
   ·rename_i hy
    rcases List.mem_cons.1 hx with rfl | hx
    ·exact hy
    ·exact all_of_dropWhile h x hx
   ·cases h
theorem head_dropWhile {α : Type} {p : α → Bool} : ∀ {l : List α} {x : α} {r : List α}, l.dropWhile p = x :: r → p x = false
 | [], _, _, h => by cases h
 | y :: l, x, r, h => by
   rw [List.dropWhile_cons] at h
   split at h
   ·exact head_dropWhile h
   ·rename_i hy
    obtain ⟨rfl, rfl⟩ := List.cons.inj h
    simpa using hy
theorem all_of_trimS {l cs : List UInt8} (h : Lib.trimS l cs = []) : ∀ b ∈ l, cs.contains b = true := by
 unfold Lib.trimS Lib.trimLeftS at h
 have h1 := all_of_dropWhile h
 unfold Lib.trimRightS at h1
 cases hr : l.reverse.dropWhile (cs.contains ·) with
 | nil =>
   intro b hb
   exact all_of_dropWhile hr b (by simpa using hb)
 | cons x r =>
   have h2 := head_dropWhile hr
   have h3 := h1 x (by rw [hr]; simp)
   rw [h2] at h3
   cases h3
theorem trimD_any (s : ByteArray) (w : World) (hs : s.size ≤ 9223372036854775807) :
 Calls Tryz.prog 128 #[.string s, .string ⟨#[48,49,50,51,52,53,54,55,56,57]⟩] w fun e w' => e = .returned (.string (trimD s)) ∧ Ext w w' :=
 Any.strings_Trim_laid Tryz.lays160 (by kernel_rfl) s digitsB w hs (by decide) (ascii_of_all (by decide))
theorem cutDash_any (s : ByteArray) (w : World) :
 Calls Tryz.prog 263 #[.string s, .string ⟨#[45]⟩] w fun e w' => e = .returned (.tuple #[.string (undashB s), .bool (dashed s)]) ∧ w = w' :=
 (Tryz.strings_CutPrefix s ⟨#[45]⟩ w).mono fun e w' h => ⟨h.1, h.2.symm⟩
theorem digit_of {b : UInt8} (h : digitsB.data.toList.contains b = true) : 48 ≤ b.toNat ∧ b.toNat ≤ 57 := by
 have : b ∈ digitsB.data.toList := by simpa using h
 simp [digitsB] at this
 rcases this with rfl | rfl | rfl | rfl | rfl | rfl | rfl | rfl | rfl | rfl <;> decide
theorem decFrom_some : ∀ (l : List UInt8) (acc : Nat), (∀ b ∈ l, 48 ≤ b.toNat ∧ b.toNat ≤ 57) → ∃ v, Lib.decFrom acc l = some v ∧ v < (acc + 1) * 10 ^ l.length
 | [], acc, _ => ⟨acc, rfl, by simp⟩
 | b :: l, acc, h => by
   have hb := h b (by simp)
   obtain ⟨v, hv, hlt⟩ := decFrom_some l (acc * 10 + (b.toNat - 48)) fun x hx => h x (by simp [hx])
   refine ⟨v, ?_, ?_⟩
   ·unfold Lib.decFrom Lib.digitVal
    rw [if_pos hb]
    exact hv
   ·rw [List.length_cons, Nat.pow_succ, Nat.mul_comm (10 ^ l.length), ← Nat.mul_assoc]
    exact Nat.lt_of_lt_of_le hlt (Nat.mul_le_mul_right _ (by omega))
theorem atoi_some {l : List UInt8} (hne : l ≠ []) (h : ∀ b ∈ l, 48 ≤ b.toNat ∧ b.toNat ≤ 57) : ∃ v : Nat, Lib.atoi l = some (v : Int) ∧ v < 10 ^ l.length := by
 obtain ⟨v, hv, hlt⟩ := decFrom_some l 0 h
 cases l with
 | nil => exact absurd rfl hne
 | cons b r =>
   have hb := h b (by simp)
   refine ⟨v, ?_, by simpa using hlt⟩
   unfold Lib.atoi
   have h1 : (b == 45) = false := by
    rw [beq_eq_false_iff_ne]; intro e; subst e; revert hb; decide
   have h2 : (b == 43) = false := by
    rw [beq_eq_false_iff_ne]; intro e; subst e; revert hb; decide
   simp only [h1, h2, Bool.false_eq_true, if_false]
   unfold Lib.decNat
   simp only [List.isEmpty_cons, Bool.false_eq_true, if_false, hv, Option.map_some]
def numOk (most : Int) (s : ByteArray) : Bool :=
 !(undashB s).toList.isEmpty && decide ((undashB s).size ≤ most) && (trimD (undashB s)).toList.isEmpty && !(((undashB s).data.toList.getD 0 0 == 48) && (decide (1 < (undashB s).size) || dashed s))
def numV (s : ByteArray) : Int := if dashed s then -((Lib.atoi (undashB s).data.toList).getD 0) else (Lib.atoi (undashB s).data.toList).getD 0
def numR (most : Int) (s : ByteArray) : Int := if numOk most s then numV s else 0
theorem empty_data {s : ByteArray} (h : s.toList.isEmpty = true) : s.data.toList = [] := by
 have : s.toList = s.data.toList := Lib.toList_data s
 rw [this] at h
 simpa using h
theorem num_atoi {most : Int} {D : ByteArray} (h1 : D.toList.isEmpty = false) (h2 : (D.size : Int) ≤ most) (h3 : (trimD D).toList = []) (hm : most ≤ 15) : ∃ v : Nat, Lib.atoi D.data.toList = some (v : Int) ∧ v < 1000000000000000 ∧ D.size ≤ 15 := by
 have ht := empty_data (s := trimD D) (by rw [h3]; rfl)
 have ht' : Lib.trimS D.data.toList digitsB.data.toList = [] := by simpa [trimD] using ht
 have hall := all_of_trimS ht'
 have hne : D.data.toList ≠ [] := by
  intro e
  have : D.toList = D.data.toList := Lib.toList_data _
  rw [this, e] at h1
  cases h1
 obtain ⟨v, hv, hlt⟩ := atoi_some hne fun b hb => digit_of (hall b hb)
 have hsz : D.data.toList.length = D.size := Array.length_toList
 have h15 : D.size ≤ 15 := by omega
 refine ⟨v, hv, Nat.lt_of_lt_of_le hlt ?_, h15⟩
 rw [hsz]
 exact Nat.pow_le_pow_right (by omega) h15
theorem size_undash (s : ByteArray) : (undashB s).size ≤ s.size := by
 unfold undashB Lib.trimPrefix
 show (List.toArray _).size ≤ s.data.size
 split
 ·simp
 ·simp
theorem ext_bytes (w : World) (t : TypeId) (s : ByteArray) : Ext w (Lib.bytesWorld w t s) := ⟨rfl, rfl, rfl, by rw [Lib.bytesWorld_size]; omega, fun j hj => Lib.bytesWorld_at_old w t s j hj⟩
theorem atoi_any (s : ByteArray) (n : Int) (hl : s.size ≤ 15) (h : Lib.atoi s.data.toList = some n) (w : World) :
 Calls Tryz.prog 129 #[.string s] w fun e w' => e = .returned (.tuple #[.int .i64 n, .nilIface]) ∧ Ext w w' :=
 (Tryz.strconv_Atoi s n (by omega) h w).mono fun e w' ⟨he, t, hw⟩ => ⟨he, hw ▸ ext_bytes _ _ _⟩
theorem u8_eq (x : UInt8) : (x == 48) = decide ((x.toNat : Int) = 48) := by
 rw [Bool.eq_iff_iff]
 simp only [beq_iff_eq, decide_eq_true_eq]
 constructor
 ·intro h; subst h; rfl
 ·intro h; exact UInt8.toNat_inj.1 (by have : x.toNat = 48 := by omega
                                       rw [this]; rfl)
set_option maxRecDepth 100000 in
set_option maxHeartbeats 1600000 in
theorem number_any (s : ByteArray) (most : Int) (w : World) (hs : s.size ≤ 1000000000) (hm0 : 1 ≤ most) (hm : most ≤ 15) :
 Calls Tryz.prog 213 #[.string s, .int .i64 most] w fun e w' => e = .returned (.tuple #[.int .i64 (numR most s), .bool (numOk most s)]) ∧ Ext w w' := by
 have hsz := size_undash s
 have hO : numOk most s = (!(undashB s).toList.isEmpty && decide ((undashB s).size ≤ most) && (trimD (undashB s)).toList.isEmpty && !(((undashB s).data.toList.getD 0 0 == 48) && (decide (1 < (undashB s).size) || dashed s))) := rfl
 have hV : numR most s = if numOk most s then (if dashed s then -((Lib.atoi (undashB s).data.toList).getD 0) else (Lib.atoi (undashB s).data.toList).getD 0) else 0 := rfl
 generalize numR most s = R at *
 generalize numOk most s = ok at *
 have hC := cutDash_any s
 have hat := num_atoi (most := most) (D := undashB s)
 generalize undashB s = D at *
 generalize dashed s = neg at *
 replace hV := Lib.hid hV; replace hC := Lib.hid hC
 cases h0 : D.toList.isEmpty
 case' false =>
  have hp := (size_toList D).1 h0
  have hg : D.data.toList.getD 0 0 = D[0] := by
   rw [List.getD_eq_getElem?_getD, List.getElem?_eq_getElem (by simpa using hp)]; rfl
  rw [hg, u8_eq] at hO
  replace hat := Lib.hid (hat h0)
  replace hO := Lib.hid hO
  cases neg
 case' true =>
  clear hat; replace hO := Lib.hid hO
 all_goals
  go_enter Tryz.func213, Tryz.ntmps213
  go_wp2_with (first
   | (go_at_call 263; refine (hC.out _).mono ?_; rintro e w1 ⟨rfl, rfl⟩)
   | (go_at_call 128; refine (trimD_any D _ (by omega)).mono ?_; rintro e w2 ⟨rfl, hb2⟩; clear hC)
   | (go_at_call 129; obtain ⟨v, hv, hvl, h15⟩ := hat.out (by assumption) (by assumption) hm; replace hv := Lib.hid hv; refine (atoi_any D v h15 hv.out _).mono ?_; rintro e w3 ⟨rfl, hb3⟩))
 all_goals
  first
   | (have hk : ok = false := by rw [hO.out]; simp [*] <;> omega
      have hR : R = 0 := by rw [hV.out, hk]; rfl
      go_ret2
      exact ⟨by rw [hk, hR]; rfl, by first | exact Ext.refl _ | assumption⟩)
   | skip
 all_goals
  have hk : ok = true := by rw [hO.out]; simp [*] <;> omega
  refine wp_region_facts [] [([],false,false),([],false,false),([1],false,false),([0],false,false),([1,2],false,false)] (Ext) Ext (fun _ => True) (by kernel_rfl) (by kernel_rfl) Ext.refl (fun _ _ _ => Ext.trans) (fun _ _ h => h) (fun _ _ h => h.size) (fun _ _ h _ => h) trivial ?_
  dsimp only [List.length_cons, List.length_nil, List.drop_succ_cons, List.drop_zero, List.drop_nil]
  refine fq 0 rfl rfl rfl cK rfl rfl ?_; apply Exists.intro; constructor
  ·intro sv w' hw' hfa
   refine ⟨rfl, ?_⟩; simp only [putsL]; change qT _; simp only [qT, Act.put, sIA, sCS, sCZ]; simp [go_sem, quietTo, Ext.refl]; all_goals rfl
  refine fq 1 rfl rfl rfl cK rfl rfl ?_; apply Exists.intro; constructor
  ·intro sv w' hw' hfa
   refine ⟨rfl, ?_⟩; simp only [putsL]; change qT _; simp only [qT, Act.put, sIA, sCS, sCZ]; simp [go_sem, quietTo, Ext.refl]; all_goals rfl
  refine fq 2 rfl rfl rfl cK rfl rfl ?_; apply Exists.intro; constructor
  ·rintro sv w' hw' ⟨(f1 : sv 1 = _), -⟩; (try dsimp only at f1)
   refine ⟨rfl, ?_⟩; simp only [putsL]; change qT (pT _ 50 (sv 1)); simp only [qT, pT, Act.put, sIA, sCS, sCZ]; simp [go_sem, quietTo, Ext.refl, ↓IntWalk.iteOmega, f1]; (all_goals try simp (disch := omega) only [IntWalk.i64_in]); all_goals rfl
  refine fq 3 rfl rfl rfl cK rfl rfl ?_; apply Exists.intro; constructor
  ·rintro sv w' hw' ⟨(f0 : sv 0 = _), -⟩; (try dsimp only at f0)
   refine ⟨rfl, ?_⟩; simp only [putsL]; change qT (pT _ 49 (sv 0)); simp only [qT, pT, Act.put, sIA, sCS, sCZ]; simp [go_sem, quietTo, Ext.refl, f0]; all_goals rfl
  refine fq 4 rfl rfl rfl cK rfl rfl ?_; apply Exists.intro; constructor
  ·rintro sv w' hw' ⟨_, (f2 : sv 2 = _), -⟩; (try dsimp only at f2)
   refine ⟨rfl, ?_⟩; simp only [putsL]; change qT (pT (pT _ 51 (sv 2)) 50 (sv 1)); simp only [qT, pT, Act.put, sIA, sCS, sCZ]; simp [go_sem, quietTo, Ext.refl, f2]; all_goals rfl
  refine fac_nil fun x wr her hfr hcr hold hap => ?_
  obtain ⟨(f0 : x 0 = _), (f1 : x 1 = _), (f2 : x 2 = _), (f3 : x 3 = _), (f4 : x 4 = _), -⟩ := hfr; (try dsimp only at f0 f1 f2 f3 f4)
  change wpList _ _ _ _ (pT (pT (pT (pT (pT _ 49 (x 0)) 50 (x 1)) 51 (x 2)) 4 (x 3)) 5 (x 4)) _
  simp only [putsL, Nat.reduceAdd, List.drop_succ_cons, List.drop_zero, List.drop_nil, pT, Act.put, sIA, sCS, sCZ]
  try simp only [f0, f1, f2, f3, f4]
  clear f0 f1 f2 f3 f4; clear hold hap
  go_wp2
  go_ret2
  refine ⟨?_, by exact ((hb2.trans hb3).drew).trans her⟩
  rw [hk]
  exact congrArg (fun q : Int => Ending.returned (.tuple #[.int .i64 q, .bool true])) (by rw [hV.out, hk, hv.out]; first | rfl | simp)
end Go.Proofs.YtehboinleolihaaGreatDoor
namespace Go.Proofs.YtehboinleolihaaGreatDoor
open Go Go.Lib
def itoaL (n : Int) : ByteArray := ⟨(Lib.itoa n).toArray⟩
theorem ba_eq {s t : ByteArray} (h : s.data.toList = t.data.toList) : s = t := by
 cases s; cases t
 simp only at h
 congr 1
 exact Array.ext' h
theorem digits_in {b : UInt8} (h : 48 ≤ b.toNat ∧ b.toNat ≤ 57) : digitsB.data.toList.contains b = true := by
 have hb : b = UInt8.ofNat b.toNat := UInt8.ofNat_toNat.symm
 obtain ⟨n, hn⟩ : ∃ n, b.toNat = n := ⟨_, rfl⟩
 rw [hn] at hb h
 rw [hb]
 obtain rfl | rfl | rfl | rfl | rfl | rfl | rfl | rfl | rfl | rfl : n = 48 ∨ n = 49 ∨ n = 50 ∨ n = 51 ∨ n = 52 ∨ n = 53 ∨ n = 54 ∨ n = 55 ∨ n = 56 ∨ n = 57 := by omega
 all_goals decide
theorem dropWhile_all {α : Type} {p : α → Bool} : ∀ {l : List α}, (∀ x ∈ l, p x = true) → l.dropWhile p = []
 | [], _ => rfl
 | x :: l, h => by
   rw [List.dropWhile_cons, if_pos (h x List.mem_cons_self)]
   exact dropWhile_all fun y hy => h y (List.mem_cons_of_mem _ hy)
theorem trimS_all {l cs : List UInt8} (h : ∀ b ∈ l, cs.contains b = true) : Lib.trimS l cs = [] := by
 have h1 : Lib.trimRightS l cs = [] := by
  unfold Lib.trimRightS
  rw [dropWhile_all fun b hb => h b (List.mem_reverse.1 hb)]; rfl
 unfold Lib.trimS
 rw [h1]; rfl
theorem atoi_dec {l : List UInt8} {v : Nat} (hne : l ≠ []) (hd : ∀ b ∈ l, 48 ≤ b.toNat ∧ b.toNat ≤ 57) (h : decFrom 0 l = some v) : Lib.atoi l = some (v : Int) := by
 cases l with
 | nil => exact absurd rfl hne
 | cons b r =>
   have hb := hd b List.mem_cons_self
   unfold Lib.atoi
   dsimp only
   rw [if_neg (fun e => by have := congrArg UInt8.toNat (beq_iff_eq.1 e); simp at this; omega), if_neg (fun e => by have := congrArg UInt8.toNat (beq_iff_eq.1 e); simp at this; omega)]
   unfold decNat
   rw [if_neg (by simp), h]; rfl
theorem dec_atoi {l : List UInt8} {v : Nat} (hne : l ≠ []) (hd : ∀ b ∈ l, 48 ≤ b.toNat ∧ b.toNat ≤ 57) (h : Lib.atoi l = some (v : Int)) : decFrom 0 l = some v := by
 obtain ⟨u, hu, -⟩ := decFrom_some l 0 hd
 rw [atoi_dec hne hd hu] at h
 cases h
 exact hu
/-- What kit.Number reads is written so. -/
theorem num_write {s : ByteArray} (h : numOk 15 s = true) : itoaL (numV s) = s := by
 unfold numOk at h
 simp only [Bool.and_eq_true, Bool.not_eq_true', decide_eq_true_eq] at h
 obtain ⟨⟨⟨h1, h2⟩, h3⟩, h4⟩ := h
 obtain ⟨v, hv, -, -⟩ := num_atoi h1 h2 (by simpa using h3) (by decide)
 have ht := empty_data (s := trimD (undashB s)) h3
 have hall := all_of_trimS (show Lib.trimS (undashB s).data.toList digitsB.data.toList = [] by simpa [trimD] using ht)
 have hne : (undashB s).data.toList ≠ [] := fun e => by
  have : (undashB s).toList = (undashB s).data.toList := Lib.toList_data _
  rw [this, e] at h1
  cases h1
 have hdig := fun b hb => digit_of (hall b hb)
 have hdec := dec_atoi hne hdig hv
 have hsz : (undashB s).data.toList.length = (undashB s).size := Array.length_toList
 have hz : (undashB s).data.toList.length = 1 ∨ (undashB s).data.toList.head? ≠ some 48 := by
  by_cases h5 : (undashB s).data.toList.length = 1
  ·exact .inl h5
  ·refine .inr fun e => ?_
   have e2 : (undashB s).data.toList.getD 0 0 = 48 := by
    cases hl : (undashB s).data.toList with
    | nil => exact absurd hl hne
    | cons b r => rw [hl] at e; cases e; rfl
   have h6 : 1 < (undashB s).size := by
    have := List.length_pos_iff.2 hne
    omega
   rw [e2] at h4
   simp [h6] at h4
 have hw := dec_write _ rfl hne hdec hz
 unfold numV
 rw [hv]
 cases hd : dashed s with
 | false =>
   refine ba_eq ?_
   show (Lib.itoa (v : Int)).toArray.toList = _
   rw [itoa_nonneg, hw]
   unfold undashB Lib.trimPrefix
   rw [show Lib.hasPrefix s.data.toList [45] = false from hd]
   simp
 | true =>
   have hv0 : 1 ≤ v := by
    refine Nat.pos_of_ne_zero fun e => ?_
    subst e
    rw [decDigits, dif_pos (by decide)] at hw
    have e2 : (undashB s).data.toList.getD 0 0 = 48 := by rw [← hw]; rfl
    rw [e2, hd] at h4
    simp at h4
   refine ba_eq ?_
   show (Lib.itoa (-(v : Int))).toArray.toList = _
   rw [itoa_neg v hv0, hw]
   have hp : Lib.hasPrefix s.data.toList [45] = true := hd
   have hu : (undashB s).data.toList = s.data.toList.drop 1 := by
    unfold undashB Lib.trimPrefix
    rw [hp]; simp
   rw [hu]
   unfold Lib.hasPrefix at hp
   cases hl : s.data.toList with
   | nil => rw [hl] at hp; cases hp
   | cons b r =>
     rw [hl] at hp
     have : b = 45 := by simpa [List.isPrefixOf] using Eq.symm (a := 45) (by simpa [List.isPrefixOf] using hp)
     rw [this]; simp
/-- What is written is read as it was. -/
theorem num_readM {m n : Nat} (h : n < 10 ^ m) (hm : 1 ≤ m) : numOk (m : Int) (itoaL n) = true ∧ numV (itoaL n) = n := by
 have hd := dec_digit n
 have hne := dec_ne n
 have hl := dec_small (n := n) (m := m) h hm
 have hdata : (itoaL n).data.toList = decDigits n := by
  show (Lib.itoa (n : Int)).toArray.toList = _
  rw [itoa_nonneg]
 have hnp : Lib.hasPrefix (itoaL n).data.toList [45] = false := by
  rw [hdata]
  unfold Lib.hasPrefix
  cases hx : decDigits n with
  | nil => exact absurd hx hne
  | cons b r =>
    have hb := hd b (by rw [hx]; exact List.mem_cons_self)
    have : (45 : UInt8) ≠ b := fun e => by
     have := congrArg UInt8.toNat e
     simp at this
     omega
    simp [List.isPrefixOf, this]
 have hu : undashB (itoaL n) = itoaL n := by
  refine ba_eq ?_
  unfold undashB Lib.trimPrefix
  rw [hnp]; simp
 have hds : dashed (itoaL n) = false := hnp
 have hsz : (itoaL n).size = (decDigits n).length := by rw [← hdata]; exact Array.length_toList.symm
 have hat := atoi_dec hne hd (dec_read n)
 refine ⟨?_, ?_⟩
 ·unfold numOk
  rw [hu, hds]
  simp only [Bool.and_eq_true, Bool.not_eq_true', decide_eq_true_eq, Bool.or_false]
  refine ⟨⟨⟨?_, by rw [hsz]; omega⟩, ?_⟩, ?_⟩
  ·have : (itoaL n).toList = (itoaL n).data.toList := Lib.toList_data _
   rw [this, hdata]
   cases hx : decDigits n with
   | nil => exact absurd hx hne
   | cons b r => rfl
  ·have ht : trimD (itoaL n) = ⟨#[]⟩ := by
    unfold trimD
    rw [hdata, trimS_all fun b hb => digits_in (hd b hb)]
   rw [ht, Lib.toList_data]; rfl
  ·rw [hdata, hsz]
   by_cases h0 : n = 0
   ·subst h0
    rw [decDigits, dif_pos (by decide)]; simp
   ·have hh := dec_head n (by omega)
    cases hx : decDigits n with
    | nil => exact absurd hx hne
    | cons b r =>
      rw [hx] at hh
      have : (b == 48) = false := beq_false_of_ne fun e => hh (by rw [e]; rfl)
      simp [this]
 ·unfold numV
  rw [hds, hu, hdata, hat]; rfl
theorem num_read {n : Nat} (h : n < 1000000000000000) : numOk 15 (itoaL n) = true ∧ numV (itoaL n) = n := num_readM (m := 15) (by omega) (by decide)
end Go.Proofs.YtehboinleolihaaGreatDoor
namespace Go.Proofs.YtehboinleolihaaGreatDoor
open Go Go.Lib Go.RowKit
def bytesW (W : List ByteArray) : List (List UInt8) := W.map (·.data.toList)
def wordsL (s : List UInt8) : List ByteArray := (cutL 32 s).map fun l => ⟨l.toArray⟩
theorem key_bytes {s : ByteArray} (h : keyB s = true) : s.data.toList ≠ [] ∧ (32 : UInt8) ∉ s.data.toList ∧ (10 : UInt8) ∉ s.data.toList ∧ s.size ≤ 40 := by
 unfold keyB at h
 simp only [Bool.and_eq_true, Bool.not_eq_true', decide_eq_true_eq] at h
 obtain ⟨⟨⟨h1, h2⟩, -⟩, h4⟩ := h
 have ht := empty_data (s := trimB s) h4
 have hall := all_of_trimS (show Lib.trimS s.data.toList keysB.data.toList = [] by simpa [trimB] using ht)
 refine ⟨fun e => ?_, fun hm => ?_, fun hm => ?_, h2⟩
 ·have : s.toList = s.data.toList := Lib.toList_data _
  rw [this, e] at h1
  cases h1
 ·exact absurd (hall _ hm) (by decide)
 ·exact absurd (hall _ hm) (by decide)
theorem itoa_bytes (n : Nat) : (itoaL (n : Int)).data.toList ≠ [] ∧ (32 : UInt8) ∉ (itoaL (n : Int)).data.toList ∧ (10 : UInt8) ∉ (itoaL (n : Int)).data.toList := by
 have e : (itoaL (n : Int)).data.toList = decDigits n := by
  show (Lib.itoa (n : Int)).toArray.toList = _
  rw [itoa_nonneg]
 rw [e]
 refine ⟨dec_ne n, fun h => ?_, fun h => ?_⟩
 ·have := dec_digit n _ h; simp at this
 ·have := dec_digit n _ h; simp at this
/-- The lines of a text, and whether the last one is ended. -/
def linesF (t : List UInt8) : List (List UInt8) := if t = [] then [] else cutL 10 (Lib.trimSuffix t [10])
def endedF (t : List UInt8) : Bool := if t = [] then true else Lib.hasSuffix t [10]
theorem suffix_snoc (l : List UInt8) : Lib.hasSuffix (l ++ [10]) [10] = true ∧ Lib.trimSuffix (l ++ [10]) [10] = l := by
 have h : Lib.hasSuffix (l ++ [10]) [10] = true := by
  unfold Lib.hasSuffix
  rw [List.isSuffixOf_iff_suffix]
  exact List.suffix_append _ _
 refine ⟨h, ?_⟩
 unfold Lib.trimSuffix
 rw [if_pos h]
 simp
theorem suffix_inv {t : List UInt8} (h : Lib.hasSuffix t [10] = true) : t = Lib.trimSuffix t [10] ++ [10] := by
 have h2 := h
 unfold Lib.hasSuffix at h2
 rw [List.isSuffixOf_iff_suffix] at h2
 obtain ⟨l, rfl⟩ := h2
 rw [(suffix_snoc l).2]
theorem join_len (c : UInt8) {m : Nat} : ∀ W : List (List UInt8), (∀ l ∈ W, l.length ≤ m) → (Lib.join W [c]).length ≤ W.length * (m + 1)
 | [], _ => by show ([] : List UInt8).length ≤ _; simp
 | [x], h => by
   rw [Lib.join_one]
   have := h x List.mem_cons_self
   simp; omega
 | x :: y :: r, h => by
   rw [joinL_cons2]
   have ih := join_len c (m := m) (y :: r) fun l hl => h l (List.mem_cons_of_mem _ hl)
   have := h x List.mem_cons_self
   simp only [List.length_append, List.length_cons] at ih ⊢
   have e : (r.length + 1 + 1) * (m + 1) = (r.length + 1) * (m + 1) + (m + 1) := by rw [Nat.add_mul (r.length + 1) 1]; omega
   omega
theorem cutL_size (c : UInt8) : ∀ l : List UInt8, ∀ x ∈ cutL c l, x.length ≤ l.length
 | [], x, hx => by rw [List.mem_singleton.1 hx]; exact Nat.le_refl _
 | b :: l, x, hx => by
   obtain ⟨y, r, e⟩ : ∃ y r, cutL c l = y :: r := by
    cases h : cutL c l with
    | nil => exact absurd h (cutL_ne c l)
    | cons y r => exact ⟨y, r, rfl⟩
   have ih := cutL_size c l
   by_cases hb : b = c
   ·subst hb
    rw [cutL_hit] at hx
    rcases List.mem_cons.1 hx with h | h
    ·rw [h]; simp
    ·have := ih x h; simp; omega
   ·rw [cutL_miss hb e] at hx
    rw [e] at ih
    rcases List.mem_cons.1 hx with h | h
    ·rw [h]
     have := ih y List.mem_cons_self
     simp; omega
    ·have := ih x (List.mem_cons_of_mem _ h); simp; omega
theorem wordsL_size {l : List UInt8} {x : ByteArray} (h : x ∈ wordsL l) : x.size ≤ l.length := by
 obtain ⟨y, hy, rfl⟩ := List.mem_map.1 h
 have := cutL_size 32 l y hy
 show y.toArray.size ≤ _
 simpa using this
def splitW (c : UInt8) (l : List UInt8) : List ByteArray := (cutL c l).map fun x => ⟨x.toArray⟩
theorem splitB_is (c : UInt8) (s : ByteArray) : Lib.splitB ⟨#[c]⟩ 0 (Lib.countB s ⟨#[c]⟩) s = splitW c s.data.toList := by
 have h := congrArg (List.map fun x : List UInt8 => (⟨x.toArray⟩ : ByteArray)) (splitB_cut c s)
 rw [List.map_map] at h
 rw [← show (splitW c s.data.toList) = (cutL c s.data.toList).map (fun x => ⟨x.toArray⟩) from rfl] at h
 rw [← h]
 exact (List.map_id'' (fun w => ba_eq rfl) _).symm
theorem splitW_len (c : UInt8) (s : ByteArray) : Lib.countB s ⟨#[c]⟩ + 1 = (splitW c s.data.toList).length := by
 unfold splitW
 rw [List.length_map, cutL_len]
 show Lib.count s.data.toList [c] + 1 = _
 rw [Lib.count_one]
theorem count_le (c : UInt8) : ∀ l : List UInt8, l.count c ≤ l.length := fun l => List.count_le_length
theorem splitW_most (c : UInt8) (l : List UInt8) : (splitW c l).length ≤ l.length + 1 := by
 unfold splitW
 rw [List.length_map, cutL_len]
 have := count_le c l
 omega
/-- The lines of a text, as strings. -/
def linesB (t : List UInt8) : List ByteArray := (linesF t).map fun l => ⟨l.toArray⟩
theorem linesB_len (t : List UInt8) : (linesB t).length = (linesF t).length := by simp [linesB]
theorem linesB_at {t : List UInt8} {k : Nat} {x : ByteArray} (h : (linesB t)[k]? = some x) : (linesF t)[k]? = some x.data.toList := by
 unfold linesB at h
 rw [List.getElem?_map] at h
 cases hl : (linesF t)[k]? with
 | none => rw [hl] at h; cases h
 | some l => rw [hl] at h; cases h; rfl
theorem trim_len (t : List UInt8) : (Lib.trimSuffix t [10]).length ≤ t.length := by
 unfold Lib.trimSuffix
 split
 ·rw [List.length_take]; omega
 ·omega
theorem linesF_len (t : List UInt8) : (linesF t).length ≤ t.length + 1 := by
 unfold linesF
 split
 ·simp
 ·have h := splitW_most 10 (Lib.trimSuffix t [10])
  unfold splitW at h
  rw [List.length_map] at h
  have := trim_len t
  omega
theorem linesF_size {t l : List UInt8} (h : l ∈ linesF t) : l.length ≤ t.length := by
 unfold linesF at h
 split at h
 ·cases h
 ·have := cutL_size 10 _ l h
  have := trim_len t
  omega
theorem getD_size {l : List UInt8} (i : Nat) : ((wordsL l).getD i ⟨#[]⟩).size ≤ l.length := by
 rw [List.getD_eq_getElem?_getD]
 cases h : (wordsL l)[i]? with
 | none => exact Nat.zero_le _
 | some x => exact wordsL_size (List.mem_of_getElem? h)
theorem empty_ba {s : ByteArray} (h : s.toList.isEmpty = true) : s = ⟨#[]⟩ := by
 rw [Lib.toList_data] at h
 exact ba_eq (List.isEmpty_iff.1 h)
theorem ba_empty {s : ByteArray} (h : ¬ s = ⟨#[]⟩) : s.toList.isEmpty = false ∧ ¬ s.toList = [] := by
 have g1 : s.toList.isEmpty = false := by
  cases hh : s.toList.isEmpty with
  | false => rfl
  | true => exact absurd (empty_ba hh) h
 exact ⟨g1, fun e => by rw [e] at g1; cases g1⟩
theorem scan_first {f : Nat → Int} : ∀ n, (∃ i, i < n ∧ f i ≠ 0) → ∃ k, k < n ∧ Zeros f k ∧ f k ≠ 0
 | 0, ⟨i, hi, _⟩ => by omega
 | n + 1, ⟨i, hi, hx⟩ => by
   by_cases h : ∃ i, i < n ∧ f i ≠ 0
   ·obtain ⟨k, hk, h1, h2⟩ := scan_first n h
    exact ⟨k, by omega, h1, h2⟩
   ·refine ⟨n, by omega, fun j hj => Classical.byContradiction fun e => h ⟨j, hj, e⟩, ?_⟩
    obtain rfl : i = n := Classical.byContradiction fun e => h ⟨i, by omega, hx⟩
    exact hx
end Go.Proofs.YtehboinleolihaaGreatDoor
