/- What is wrong with singers and moments; the parts that a singer can sing, by both texts. Conditions: sizes. The parts that a singer can sing, and parts that are higher, by the program's text; parts that are higher by the document's. Conditions: sizes. Parts that are higher, by the document's program. Conditions: sizes. A singer is given a part, by way of others perhaps: the search in memory. Conditions: the choir and the giver lie in memory. How many singers are lacking, by the program: the greatest need of a set of parts. Conditions: the choir lies in memory. -/
import Derived.Test.YtcdjkgfdhngmeaaGreatDoorSdVoH
import Derived.Test.YtcdjkgfdhngmeaaGreatDoorSdPartsC
import Derived.Shelf.SlicesE.IndexFunc
import Derived.Test.YtcdjkgfdhngmeaaGreatDoorSdJ25
import Derived.Test.YtcdjkgfdhngmeaaGreatDoorSdGiB
import Derived.Test.YtcdjkgfdhngmeaaGreatDoorSdJ10
import Derived.Deep.OwnRows
set_option linter.unusedSimpArgs false
set_option linter.unusedVariables false
namespace Go.Proofs.YtcdjkgfdhngmeaaGreatDoor
open Go Go.RowKit

set_option maxRecDepth 100000 in
theorem isMomP_any (n : Int) (w : World) :
    Calls Tryz.prog 77 #[.int .i64 n] w fun e w' => e = .returned (.bool (momB n)) ∧ w = w' := by
  have hm : momB n = !outB n 0 345686399999 := by unfold momB; rw [outB_inB]; simp
  have ho := fun w => outside_any n 0 345686399999 w
  replace hm := Lib.hid hm
  generalize outB n 0 345686399999 = v at *
  replace ho := Lib.hid ho
  go_enter Tryz.func77, Tryz.ntmps77
  go_wp2_with (go_at_call 81; (with_reducible refine Calls.mono (ho.out _) ?_); rintro e w' ⟨rfl, rfl⟩)
  go_ret
  exact ⟨ret_bool (by rw [hm.out]), rfl⟩
set_option maxRecDepth 100000 in
theorem momPred (w : World) : PredAt Tryz.prog 76 #[] (fun x : Int => .int .i64 x) (fun x => !momB x) w := fun W x _ => by
  show Calls Tryz.prog 76 #[.int .i64 x] W _
  have hp := fun u => isMomP_any x u
  obtain ⟨v, hv⟩ : ∃ v, momB x = v := ⟨_, rfl⟩
  rw [hv] at hp
  replace hv := Lib.hid hv
  replace hp := Lib.hid hp
  go_enter Tryz.func76, Tryz.ntmps76
  go_wp2_with (go_at_call 77; (with_reducible refine Calls.mono (hp.out _) ?_); rintro e w' ⟨rfl, rfl⟩)
  go_ret
  exact ⟨by rw [hv.out]; rfl, 0, rfl⟩
set_option maxRecDepth 100000 in
theorem momentFault1_any (t : Int) (g ty cap : Nat) (w : World) (hB : Blk w g ty #[.int .i64 t]) :
    Calls Tryz.prog 52 #[.slice (some ⟨g, 0, none⟩) 1 cap] w fun e w' => e = .returned (.int .i64 (if momB t then 0 else 1)) ∧ Ext w w' := by
  have hc : Calls Tryz.prog 75 #[.slice (some ⟨g, 0, none⟩) 1 cap, .func (.func 76) #[] #[]] w fun e w' => e = .returned (.bool (([t].take 1).any fun x => !momB x)) ∧ ∃ q, w' = w.drewN q := AnyE.slices_ContainsFunc Tryz.lqcInt (fun x : Int => .int .i64 x) (fun x => !momB x) 76 #[] (enters_of Tryz.func76 (by kernel_rfl) rfl) g 0 1 cap [t] w (momPred w) (by simp) (by omega) (fun j hj => by
    obtain rfl : j = 0 := by simp at hj; omega
    exact hB.cell 0)
  have e1 : ([t].take 1).any (fun x => !momB x) = !momB t := by simp
  rw [e1] at hc
  clear e1
  cases hm : momB t
  all_goals
    rw [hm] at hc
    replace hc := Lib.hid hc
    go_enter Tryz.func52, Tryz.ntmps52
    go_wp2_with (go_at_call 75; (with_reducible refine Calls.mono hc.out ?_); rintro e w1 ⟨rfl, q, rfl⟩)
    go_ret
    exact ⟨rfl, below_drewN' (Below.refl _ w) q⟩
/-- Voices and parts in memory. -/
structure VpM (w : World) (vp : Option Addr) (vc : Nat) (V : List VoiceV) (pp : Option Addr) (pc : Nat) (P : List PartV) : Prop where
  voi : Slc 4 voiC w vp V.length vc V
  par : Slc 5 partC w pp P.length pc P
  sV : ∀ x ∈ V, x.Small
  sP : ∀ x ∈ P, x.Small
  nV : V.length ≤ 200
  nP : P.length ≤ 1000
theorem VpM.more {w w' : World} {vp pp : Option Addr} {vc pc : Nat} {V : List VoiceV} {P : List PartV} (h : VpM w vp vc V pp pc P) (he : Ext w w') : VpM w' vp vc V pp pc P := ⟨h.voi.ext he, h.par.ext he, h.sV, h.sP, h.nV, h.nP⟩
section
variable {w : World} {vp pp : Option Addr} {vc pc : Nat} {V : List VoiceV} {P : List PartV}
set_option maxRecDepth 100000 in
theorem bothFault_any (h : VpM w vp vc V pp pc P) :
    Calls Tryz.prog 51 #[.slice vp V.length vc, .slice pp P.length pc] w fun e w' => e = .returned (.int .i64 (if voicesF V = 0 then partsF P else voicesF V)) ∧ Ext w w' := by
  have h1 := checkVoices_any vp V.length vc V w h.voi.1 h.sV h.nV
  have h2 := fun u (hu : Ext w u) => checkParts_any pp P.length pc P u (h.par.ext hu).1 h.sP h.nP h.par.2.1
  by_cases hz : voicesF V = 0
  · rw [if_pos hz]
    rw [hz] at h1
    generalize partsF P = f at *
    replace h1 := Lib.hid h1
    replace h2 := Lib.hid h2
    replace hz := Lib.hid hz
    clear h
    go_enter Tryz.func51, Tryz.ntmps51
    go_wp2_with (first
      | (go_at_call 73; (with_reducible refine Calls.mono h1.out ?_); rintro e w1 ⟨rfl, hb1⟩)
      | (go_at_call 74; (with_reducible refine Calls.mono (h2.out _ hb1) ?_); rintro e w2 ⟨rfl, hb2⟩))
    go_ret
    exact ⟨rfl, hb1.trans hb2⟩
  · rw [if_neg hz]
    generalize voicesF V = f at *
    replace h1 := Lib.hid h1
    clear h h2
    go_enter Tryz.func51, Tryz.ntmps51
    go_wp2_with (go_at_call 73; (with_reducible refine Calls.mono h1.out ?_); rintro e w1 ⟨rfl, hb1⟩)
    go_ret
    exact ⟨rfl, hb1⟩
end

theorem rgOf_small {V : List VoiceV} (hs : ∀ x ∈ V, x.Small) (t : Int) (p : ByteArray) : ∀ k, k ≤ V.length → ∀ r, rgOf V t p k = some r → (-1000 ≤ r.1 ∧ r.1 ≤ 1000) ∧ -1000 ≤ r.2 ∧ r.2 ≤ 1000
  | 0, _, r, h => by simp [rgOf] at h
  | k + 1, hk, r, h => by
    obtain ⟨x, hx⟩ := getD_some (rfl : V.length = V.length) (show k < V.length by omega)
    rw [rgOf_succ hx] at h
    split at h
    · cases h
      obtain ⟨-, -, h1, h2⟩ := hs x (List.mem_of_getElem? hx)
      exact ⟨h1, h2⟩
    · exact rgOf_small hs t p k (by omega) r h
theorem rg_bounds {V : List VoiceV} (hs : ∀ x ∈ V, x.Small) (t : Int) (p : ByteArray) : (-1000 ≤ ((rgS V t V.length p).getD (0, 0)).1 ∧ ((rgS V t V.length p).getD (0, 0)).1 ≤ 1000) ∧ -1000 ≤ ((rgS V t V.length p).getD (0, 0)).2 ∧ ((rgS V t V.length p).getD (0, 0)).2 ≤ 1000 := by
  cases h : rgS V t V.length p with
  | none => simp
  | some r => exact rgOf_small hs t p V.length (Nat.le_refl _) r h
end Go.Proofs.YtcdjkgfdhngmeaaGreatDoor

namespace Go.Proofs.YtcdjkgfdhngmeaaGreatDoor
open Go Go.RowKit

/-- What is wrong with voices, parts, a singer and a moment. -/
def bothF (V : List VoiceV) (P : List PartV) : Int := if voicesF V = 0 then partsF P else voicesF V
section
variable {w : World} {vp pp : Option Addr} {vc pc : Nat} {V : List VoiceV} {P : List PartV}
end

end Go.Proofs.YtcdjkgfdhngmeaaGreatDoor

namespace Go.Proofs.YtcdjkgfdhngmeaaGreatDoor
open Go Go.RowKit

end Go.Proofs.YtcdjkgfdhngmeaaGreatDoor

namespace Go.Proofs.YtcdjkgfdhngmeaaGreatDoor
open Go Go.RowKit

def intC (x : Int) : List Value := [.int .i64 x]
theorem intC_len (x : Int) : (intC x).length = 1 := rfl
theorem intInfo : (Tryz.prog.info? 3).map (fun i => (i.zero, i.size, i.bytes)) = some (some (.int .i64 0), 1, 8) := by kernel_rfl
theorem intsInfo : (Tryz.prog.info? 22).map (fun i => (i.zero, i.size, i.bytes)) = some (some (.slice none 0 0), 1, 24) := by kernel_rfl
/-- A choir in memory. -/
structure ChoirM (w : World) (cb : Nat) (P : List PartV) (pp : Option Addr) (pc : Nat) (C : List (List Int)) (sp : Option Addr) (sc : Nat) (cp : Option Addr) (cc : Nat) : Prop where
  blk : Blk w cb 83 #[.slice pp P.length pc, .slice sp C.length sc, .slice cp C.length cc]
  par : Slc 5 partC w pp P.length pc P
  com : RowsR intC w cp C.length cc C
  nP : P.length ≤ 12
  nC : C.length ≤ 200
  row : ∀ r ∈ C, r.length = P.length
  need : ∀ x ∈ P, 0 ≤ x.least ∧ x.least ≤ 1000
theorem ChoirM.ext {w w' : World} {cb : Nat} {P : List PartV} {pp : Option Addr} {pc : Nat} {C : List (List Int)} {sp : Option Addr} {sc : Nat} {cp : Option Addr} {cc : Nat} (h : ChoirM w cb P pp pc C sp sc cp cc) (he : Ext w w') : ChoirM w' cb P pp pc C sp sc cp cc :=
  ⟨h.blk.ext he, h.par.ext he, h.com.ext he, h.nP, h.nC, h.row, h.need⟩
theorem blk_ne {w : World} {a b t u : Nat} {cs ds : Array Value} (h : Blk w a t cs) (k : Blk w b u ds) (hne : t ≠ u) : a ≠ b := fun e => by
  subst e
  unfold Blk at h k
  rw [h] at k
  simp at k
  exact hne k.2
end Go.Proofs.YtcdjkgfdhngmeaaGreatDoor

namespace Go.Proofs.YtcdjkgfdhngmeaaGreatDoor
open Go Go.RowKit

end Go.Proofs.YtcdjkgfdhngmeaaGreatDoor
