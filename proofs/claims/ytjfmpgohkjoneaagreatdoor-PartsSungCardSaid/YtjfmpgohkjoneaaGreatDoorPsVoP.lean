/- The four calls of PartsSung, each in one form. Conditions: sizes. -/
import Derived.Test.YtjfmpgohkjoneaaGreatDoorPsVoO
set_option linter.unusedSimpArgs false
set_option linter.unusedVariables false
namespace Go.Proofs.YtjfmpgohkjoneaaGreatDoor
open Go Go.RowKit

/-- What Comfort answers. -/
def cfN (a b c d : Int) : Int := if rightR a b && rightR c d then max (comfN a b c d) 0 else 0
def cfI (a b c d : Int) : Bool := rightR a b && rightR c d && decide (0 ≤ comfN a b c d)
def cfE (a b c d : Int) : Int := if rightR a b && rightR c d then 0 else 1
theorem comfortC_any (a b c d : Int) (w : World) :
    Calls Tryz.prog 35 #[.agg #[.int .i64 a, .int .i64 b], .agg #[.int .i64 c, .int .i64 d]] w fun e w' => e = .returned (.tuple #[.int .i64 (cfN a b c d), .bool (cfI a b c d), .int .i64 (cfE a b c d)]) ∧ Ext w w' :=
  (Comfort_any a b c d w).mono fun e w' ⟨h, hE⟩ => ⟨by
    rw [h]
    unfold cfN cfI cfE
    cases rightR a b && rightR c d
    · rfl
    · simp, hE⟩
theorem cfE_or (a b c d : Int) : orF [if rightR a b then 0 else 1, if rightR c d then 0 else 1] = cfE a b c d := by
  unfold cfE
  cases rightR a b <;> cases rightR c d <;> rfl
/-- What is wrong with a question who can sing. -/
def whoE (V : List VoiceV) (t lo hi : Int) : Int := orF [voicesF V, if rightR lo hi then 0 else 1, if momB t then 0 else 1]
theorem whoE_zero {V : List VoiceV} {t lo hi : Int} : whoE V t lo hi = 0 ↔ voicesF V = 0 ∧ rightR lo hi = true ∧ momB t = true := by
  unfold whoE
  simp only [orF]
  by_cases h : voicesF V = 0
  · rw [if_pos h]
    cases rightR lo hi <;> cases momB t <;> simp [h]
  · rw [if_neg h]
    exact ⟨fun e => absurd e h, fun e => absurd e.1 h⟩
theorem whoE_bad {V : List VoiceV} {t lo hi : Int} (h : whoE V t lo hi ≠ 0) : (if voicesF V = 0 then 1 else voicesF V) = whoE V t lo hi := by
  have h2 := fun h3 => h (whoE_zero.2 h3)
  unfold whoE
  simp only [orF]
  by_cases h1 : voicesF V = 0
  · rw [if_pos h1, if_pos h1]
    cases hr : rightR lo hi <;> cases hm : momB t <;> simp
    exact h2 ⟨h1, hr, hm⟩
  · rw [if_neg h1, if_neg h1]
theorem whoC_any (p : Option Addr) (c : Nat) (V : List VoiceV) (t lo hi : Int) (w : World) (h : Slc 4 voiC w p V.length c V) (hs : ∀ x ∈ V, x.Small) (hn : V.length ≤ 200) (hlo : -1000 ≤ lo ∧ lo ≤ 1000) (hhi : -1000 ≤ hi ∧ hi ≤ 1000) :
    Calls Tryz.prog 38 #[.slice p V.length c, .agg #[.int .i64 lo, .int .i64 hi], .int .i64 t] w fun e w' => ∃ (q : Option Addr) (m d : Nat), e = .returned (.tuple #[.slice q m d, .int .i64 (whoE V t lo hi)]) ∧ (whoE V t lo hi = 0 → ∃ M : List AbleV, M.length = m ∧ WhoR V t (lo, hi) M ∧ Slc 2 ableC w' q m d M) ∧ (whoE V t lo hi ≠ 0 → m = 0) ∧ Ext w w' := by
  by_cases hz : whoE V t lo hi = 0
  · obtain ⟨h1, h2, h3⟩ := whoE_zero.1 hz
    refine (who_ok p c V t lo hi w h hs hn h1 h2 h3 hlo hhi).mono fun e w' ⟨q, d, M, he, hM, hS, hE⟩ => ?_
    exact ⟨q, _, d, by rw [hz]; exact he, fun _ => ⟨M, rfl, hM, hS⟩, fun h => absurd hz h, hE⟩
  · refine (who_bad p c V t lo hi w h hs hn fun h => hz (whoE_zero.2 h)).mono fun e w' ⟨he, hE⟩ => ?_
    exact ⟨none, 0, 0, by rw [← whoE_bad hz]; exact he, fun h => absurd h hz, fun _ => rfl, hE⟩
/-- What is wrong with a question for a singer's parts. -/
def parE (V : List VoiceV) (P : List PartV) (p : ByteArray) (t : Int) : Int := orF [voicesF V, partsF P, if keyB p then 0 else 5, if momB t then 0 else 1]
theorem parE_is (V : List VoiceV) (P : List PartV) (p : ByteArray) (t : Int) : (if bothF V P = 0 then singF p t else bothF V P) = parE V P p t := by
  unfold parE bothF singF
  simp only [orF]
  by_cases h1 : voicesF V = 0
  · rw [if_pos h1, if_pos h1]
    by_cases h2 : partsF P = 0
    · rw [if_pos h2, if_pos h2]
      cases keyB p <;> cases momB t <;> simp
    · rw [if_neg h2, if_neg h2]
  · rw [if_neg h1, if_neg h1, if_neg h1]
theorem partsC_any {w : World} {vp pp : Option Addr} {vc pc : Nat} {V : List VoiceV} {P : List PartV} (h : VpM w vp vc V pp pc P) (p : ByteArray) (t : Int) (hp : p.size ≤ 1000) :
    Calls Tryz.prog 41 #[.slice vp V.length vc, .slice pp P.length pc, .string p, .int .i64 t] w fun e w' => ∃ (q : Option Addr) (m d : Nat), e = .returned (.tuple #[.slice q m d, .int .i64 (parE V P p t)]) ∧ (parE V P p t = 0 → m = (canOf V P p t).length ∧ Slc 1 strC w' q m d (canOf V P p t)) ∧ (parE V P p t ≠ 0 → m = 0) ∧ Ext w w' := by
  by_cases hz : parE V P p t = 0
  · have h1 : bothF V P = 0 ∧ singF p t = 0 := by
      have e := hz
      rw [← parE_is] at e
      by_cases hb : bothF V P = 0
      · rw [if_pos hb] at e; exact ⟨hb, e⟩
      · rw [if_neg hb] at e; exact absurd e hb
    refine (parts_good h p t hp h1.1 h1.2).mono fun e w' ⟨q, d, he, hS, hE⟩ => ?_
    exact ⟨q, _, d, by rw [hz]; exact he, fun _ => ⟨rfl, hS⟩, fun h => absurd hz h, hE⟩
  · refine (parts_bad h p t hp (by rw [parE_is]; exact hz)).mono fun e w' ⟨he, hE⟩ => ?_
    exact ⟨none, 0, 0, by rw [← parE_is]; exact he, fun h => absurd h hz, fun _ => rfl, hE⟩
/-- What is wrong with parts to be shifted. -/
def shE (P : List PartV) (d : Int) : Int := if partsF P = 0 then (if shB P d then 0 else 1) else partsF P
theorem shE_zero {P : List PartV} {d : Int} : shE P d = 0 ↔ partsF P = 0 ∧ shB P d = true := by
  unfold shE
  by_cases h : partsF P = 0
  · rw [if_pos h]
    cases shB P d <;> simp [h]
  · rw [if_neg h]
    exact ⟨fun e => absurd e h, fun e => absurd e.1 h⟩
theorem shiftC_any (p : Option Addr) (n c : Nat) (P : List PartV) (d : Int) (w : World) (h : Slc 5 partC w p n c P) (hn : n ≤ 1000) (hs : ∀ x ∈ P, x.Small) (hd : -1000 ≤ d ∧ d ≤ 1000) :
    Calls Tryz.prog 26 #[.slice p n c, .int .i64 d] w fun e w' => ∃ (q : Option Addr) (m k : Nat), e = .returned (.tuple #[.slice q m k, .int .i64 (shE P d)]) ∧ Slc 5 partC w' q m k (if shE P d = 0 then P.map (PartV.up · d) else []) ∧ Ext w w' := by
  refine (shiftedV_any p n c P d w h hn hs hd).mono fun e w' ⟨v, he, h1, h2, hE⟩ => ?_
  by_cases hz : shE P d = 0
  · rw [if_pos hz]
    obtain ⟨q, k, rfl, hS⟩ := slc_of_own partC_len (h1 (shE_zero.1 hz)) (by decide) (by omega)
    exact ⟨q, n, k, he, hS, hE⟩
  · rw [if_neg hz]
    obtain rfl := h2 fun h => hz (shE_zero.2 h)
    exact ⟨none, 0, 0, he, Slc.nil _ _ _, hE⟩
theorem shiftOfC_any (p : Option Addr) (n c : Nat) (P : List PartV) (d : Int) (w : World) (h : Slc 5 partC w p n c P) (hn : n ≤ 1000) (hs : ∀ x ∈ P, x.Small) (hd : -1000 ≤ d ∧ d ≤ 1000) (hF : partsF P = 0) :
    Calls Tryz.prog 44 #[.slice p n c, .int .i64 d] w fun e w' => ∃ (q : Option Addr) (m k : Nat), e = .returned (.tuple #[.slice q m k, .int .i64 (shE P d)]) ∧ Slc 5 partC w' q m k (if shE P d = 0 then P.map (PartV.up · d) else []) ∧ Ext w w' := by
  have hE : shE P d = if shB P d then 0 else 1 := by unfold shE; rw [if_pos hF]
  refine (shiftedOf_any p n c P d w h hn hs hd).mono fun e w' ⟨v, he, h1, h2, hEx⟩ => ?_
  rw [← hE] at he
  by_cases hz : shE P d = 0
  · rw [if_pos hz]
    obtain ⟨q, k, rfl, hS⟩ := slc_of_own partC_len (h1 (shE_zero.1 hz).2) (by decide) (by omega)
    exact ⟨q, n, k, he, hS, hEx⟩
  · rw [if_neg hz]
    have hb : shB P d = false := by
      cases hb : shB P d
      · rfl
      · exact absurd (shE_zero.2 ⟨hF, hb⟩) hz
    obtain rfl := h2 hb
    exact ⟨none, 0, 0, he, Slc.nil _ _ _, hEx⟩
end Go.Proofs.YtjfmpgohkjoneaaGreatDoor
