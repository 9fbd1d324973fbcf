/- A note out of its name, by the document's text. Conditions: the string is short; what is read of it is small. -/
import Derived.Test.YtebhjmknlhmmdaaDoorNameB
namespace Go.Proofs.YtebhjmknlhmmdaaDoor
open Go Go.RowKit

def itoaB (n : Int) : ByteArray := ⟨(Lib.itoa n).toArray⟩
def intN (s : ByteArray) : Int := (Lib.atoi s.data.toList).getD 0
def intC (most : Int) (s : ByteArray) : Bool := inB (undashB s).size 1 most && (trimD (undashB s)).toList.isEmpty
def intOk (most : Int) (s : ByteArray) : Bool := intC most s && ((itoaB (intN s)).toList == s.toList)
def intR (most : Int) (s : ByteArray) : Int := if intC most s then intN s else 0

theorem trimDash_any (s : ByteArray) (w : World) :
    Calls Tryd.prog 75 #[.string s, .string ⟨#[45]⟩] w fun e w' => e = .returned (.string (undashB s)) ∧ w = w' :=
  (Tryd.strings_TrimPrefix s ⟨#[45]⟩ w).mono fun _ _ h => ⟨h.1, h.2.symm⟩

set_option maxRecDepth 100000 in
set_option maxHeartbeats 1600000 in
theorem int_any (s : ByteArray) (most : Int) (B : Nat) (w : World) (hs : s.size ≤ 15) (hm : -100 ≤ most ∧ most ≤ 100) (hA : intC most s = true → Lib.atoi s.data.toList = some (intN s) ∧ -1000 ≤ intN s ∧ intN s ≤ 1000) (ht : Tab B w) :
    Calls Tryd.prog 48 #[.string s, .int .i64 most] w fun e w' => e = .returned (.tuple #[.int .i64 (intR most s), .bool (intOk most s)]) ∧ Ext w w' := by
  have hsz := size_undash s
  have hC := fun W => trimDash_any s W
  have hO : intOk most s = (intC most s && ((itoaB (intN s)).toList == s.toList)) := rfl
  have hR : intR most s = if intC most s then intN s else 0 := rfl
  have hc : intC most s = (inB (undashB s).size 1 most && (trimD (undashB s)).toList.isEmpty) := rfl
  generalize intOk most s = ok at *
  generalize intR most s = R at *
  generalize undashB s = D at *
  have hat := fun (h : intC most s = true) W => atoi_any s (intN s) hs (hA h).1 W
  have hit := fun (h : intC most s = true) W (hW : Tab B W) => itoa_any (intN s) (by have := hA h; omega) (by have := hA h; omega) B W hW
  have hI := fun W => in_any (D.size : Int) 1 most W
  have hTr := fun W => trimD_any D W (by omega)
  generalize (trimD D) = T at *
  generalize inB (D.size : Int) 1 most = ib at *
  have eI : (⟨(Lib.itoa (intN s)).toArray⟩ : ByteArray) = itoaB (intN s) := rfl
  rw [eI] at hit
  generalize itoaB (intN s) = I at *
  clear eI
  generalize intN s = N at *
  generalize hcc : intC most s = cc at *
  clear hcc
  replace hO := Lib.hid hO
  replace hR := Lib.hid hR
  replace hc := Lib.hid hc
  replace hC := Lib.hid hC
  replace hat := Lib.hid hat
  replace hit := Lib.hid hit
  replace hI := Lib.hid hI
  replace hTr := Lib.hid hTr
  replace hA := Lib.hid hA
  go_enter Tryd.func48, Tryd.ntmps48
  go_wp2_with (first
    | (go_at_call 75; (with_reducible refine Calls.mono (hC.out _) ?_); rintro e w1 ⟨rfl, rfl⟩)
    | (go_at_call 41; (with_reducible refine Calls.mono (hI.out _) ?_); rintro e w2 ⟨rfl, rfl⟩)
    | (go_at_call 71; (with_reducible refine Calls.mono (hTr.out _) ?_); rintro e w3 ⟨rfl, hb3⟩)
    | (go_at_call 72; have hcc : cc = true := (by rw [hc.out]; cases hx : T.toList.isEmpty <;> simp_all); (with_reducible refine Calls.mono (hat.out hcc _) ?_); rintro e w4 ⟨rfl, hb4⟩)
    | (go_at_call 40; (with_reducible refine Calls.mono (hit.out hcc _ (by exact (ht.ext hb3).ext hb4)) ?_); rintro e w5 ⟨rfl, hb5⟩))
  all_goals
    first
      | (have hcc : cc = true := hcc
         go_ret2
         refine ⟨?_, by exact (hb3.trans hb4).trans hb5⟩
         rw [hR.out, hO.out, hcc]
         rfl)
      | (have hcc : cc = false := by rw [hc.out]; cases hx : T.toList.isEmpty <;> simp_all
         go_ret2
         refine ⟨?_, by first | exact Ext.refl _ | exact hb3⟩
         rw [hR.out, hO.out, hcc]
         rfl)

def idxQ (s : ByteArray) : Int := Lib.indexByte lettersB.data.toList (s.data.toList.getD 0 0)
def restQ (s : ByteArray) : ByteArray := if sharpB s || flatB s then (tailB s).extract 1 (tailB s).size else tailB s
def noteQ (s : ByteArray) : Int := idxQ s + accN s + 12 * (intR 1 (restQ s) + 1)
def noteQE (s : ByteArray) : Int := if s.toList.isEmpty then 9 else if s.data.toList.getD 0 0 == 32 then 9 else if idxQ s < 0 then 9 else if intOk 1 (restQ s) then spanF (noteQ s) 0 127 else 9
def noteQR (s : ByteArray) : Int := if noteQE s = 0 then noteQ s else 0
def goodQ (s : ByteArray) : Bool := decide (s.size ≤ 15) && decide (-1 ≤ idxQ s) && decide (idxQ s < 100) && (!intC 1 (restQ s) || (Lib.atoi (restQ s).data.toList == some (intN (restQ s)) && decide (-1000 ≤ intN (restQ s)) && decide (intN (restQ s) ≤ 1000)))

def oddTexts : List ByteArray := [⟨#[100, 98, 52]⟩, ⟨#[99, 98, 52]⟩, ⟨#[101, 35, 52]⟩, ⟨#[98, 52]⟩, ⟨#[98, 98, 52]⟩, ⟨#[99, 45, 49]⟩, ⟨#[99, 98, 45, 49]⟩, ⟨#[103, 57]⟩, ⟨#[103, 35, 57]⟩, ⟨#[]⟩, ⟨#[104, 52]⟩, ⟨#[99]⟩, ⟨#[99, 35, 35, 52]⟩, ⟨#[99, 49, 48]⟩, ⟨#[99, 45, 50]⟩, ⟨#[32, 52]⟩]
theorem name_both : ∀ n : Fin 128, goodQ (nameB n.val) = true ∧ noteQR (nameB n.val) = noteR (nameB n.val) ∧ noteQE (nameB n.val) = noteE (nameB n.val) := by
  unfold goodQ noteQR noteR noteQE noteE noteQ noteV numR intR intOk intC numOk
  simp only [Lib.toList_data]
  decide +kernel
theorem odd_both : ∀ n : Fin 16, goodQ (oddTexts.getD n.val ⟨#[]⟩) = true ∧ noteQR (oddTexts.getD n.val ⟨#[]⟩) = noteR (oddTexts.getD n.val ⟨#[]⟩) ∧ noteQE (oddTexts.getD n.val ⟨#[]⟩) = noteE (oddTexts.getD n.val ⟨#[]⟩) := by
  unfold goodQ noteQR noteR noteQE noteE noteQ noteV numR intR intOk intC numOk
  simp only [Lib.toList_data]
  decide +kernel

end Go.Proofs.YtebhjmknlhmmdaaDoor
